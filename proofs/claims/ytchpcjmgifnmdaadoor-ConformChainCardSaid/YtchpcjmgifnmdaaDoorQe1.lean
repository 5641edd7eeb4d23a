/- Part 1 of a proof: conformChain holds for every input; no condition. -/
import Derived.Test.YtchpcjmgifnmdaaDoorProg
import Derived.KernelRfl
import Derived.DeepKeys3
import Derived.Test.YtchpcjmgifnmdaaDoorCards
import Derived.Test.YtchpcjmgifnmdaaDoorTie
import Derived.ProofKit
import Derived.OpenShut
import Derived.SizedLaws
import Derived.Deep.DeepHandedRow
import Derived.Lib.LaidTab
import Derived.Test.YtchpcjmgifnmdaaDoorGl
import Derived.Test.YtchpcjmgifnmdaaDoorAb0
import Derived.Test.YtchpcjmgifnmdaaDoorAb1
import Derived.Test.YtchpcjmgifnmdaaDoorAb2
import Derived.Test.YtchpcjmgifnmdaaDoorAb3
import Derived.Test.YtchpcjmgifnmdaaDoorAb4
import Derived.Test.YtchpcjmgifnmdaaDoorAb5
import Derived.Test.YtchpcjmgifnmdaaDoorAb6
import Derived.Test.YtchpcjmgifnmdaaDoorAb7
import Derived.Test.YtchpcjmgifnmdaaDoorAb8
import Derived.Test.YtchpcjmgifnmdaaDoorAb8a
import Derived.Test.YtchpcjmgifnmdaaDoorAb8b
import Derived.Test.YtchpcjmgifnmdaaDoorAb8c
import Derived.Test.YtchpcjmgifnmdaaDoorAb8m
import Derived.Test.YtchpcjmgifnmdaaDoorAb8d
import Derived.Test.YtchpcjmgifnmdaaDoorAb9
import Derived.Test.YtchpcjmgifnmdaaDoorAb10
import Derived.Test.YtchpcjmgifnmdaaDoorAb11
import Derived.Test.YtchpcjmgifnmdaaDoorAb12
import Derived.Test.YtchpcjmgifnmdaaDoorAb13
import Derived.Test.YtchpcjmgifnmdaaDoorAb14
import Derived.Test.YtchpcjmgifnmdaaDoorAb15
import Derived.Test.YtchpcjmgifnmdaaDoorAb16
import Derived.Test.YtchpcjmgifnmdaaDoorAb17
import Derived.Test.YtchpcjmgifnmdaaDoorAb18
import Derived.Test.YtchpcjmgifnmdaaDoorAb19
import Derived.Test.YtchpcjmgifnmdaaDoorAb20
import Derived.Test.YtchpcjmgifnmdaaDoorAb23
set_option linter.unusedSimpArgs false
set_option linter.unusedVariables false
set_option linter.defProp false
/- Closed facts on the types of the translation, by program. -/
namespace Go.Proofs.YtchpcjmgifnmdaaDoor
open Go Go.Proofs.YtchpcjmgifnmdaaDoor.Ab
namespace Ty
theorem sz1 : szOf Tryd.prog 1 = some 1 := by kernel_rfl
theorem ag1 : isAggT Tryd.prog 1 = some false := by kernel_rfl
theorem un1 : (Tryd.prog.underlying 1).isSome = true := by kernel_rfl
theorem unn1 : (Tryd.prog.underlying 1).isNone = false := by kernel_rfl
theorem zr1 : zeroA Tryd.prog 1 = some [.v (.nilFunc)] := by kernel_rfl
theorem by1 : byOf Tryd.prog 1 = some 8 := by kernel_rfl
theorem if1 : isIfc Tryd.prog 1 = false := by kernel_rfl
theorem sz2 : szOf Tryd.prog 2 = some 1 := by kernel_rfl
theorem ag2 : isAggT Tryd.prog 2 = some false := by kernel_rfl
theorem un2 : (Tryd.prog.underlying 2).isSome = true := by kernel_rfl
theorem unn2 : (Tryd.prog.underlying 2).isNone = false := by kernel_rfl
theorem zr2 : zeroA Tryd.prog 2 = some [.v (.int .i64 0)] := by kernel_rfl
theorem by2 : byOf Tryd.prog 2 = some 8 := by kernel_rfl
theorem in2 : intT Tryd.prog 2 = some .i64 := by kernel_rfl
theorem if2 : isIfc Tryd.prog 2 = false := by kernel_rfl
theorem sz3 : szOf Tryd.prog 3 = some 1 := by kernel_rfl
theorem ag3 : isAggT Tryd.prog 3 = some false := by kernel_rfl
theorem un3 : (Tryd.prog.underlying 3).isSome = true := by kernel_rfl
theorem unn3 : (Tryd.prog.underlying 3).isNone = false := by kernel_rfl
theorem zr3 : zeroA Tryd.prog 3 = some [.v (.int .i64 0)] := by kernel_rfl
theorem by3 : byOf Tryd.prog 3 = some 8 := by kernel_rfl
theorem in3 : intT Tryd.prog 3 = some .i64 := by kernel_rfl
theorem if3 : isIfc Tryd.prog 3 = false := by kernel_rfl
theorem sz4 : szOf Tryd.prog 4 = some 1 := by kernel_rfl
theorem ag4 : isAggT Tryd.prog 4 = some false := by kernel_rfl
theorem un4 : (Tryd.prog.underlying 4).isSome = true := by kernel_rfl
theorem unn4 : (Tryd.prog.underlying 4).isNone = false := by kernel_rfl
theorem zr4 : zeroA Tryd.prog 4 = some [.v (.bool false)] := by kernel_rfl
theorem by4 : byOf Tryd.prog 4 = some 1 := by kernel_rfl
theorem bo4 : isBoolT Tryd.prog 4 = true := by kernel_rfl
theorem if4 : isIfc Tryd.prog 4 = false := by kernel_rfl
theorem sz5 : szOf Tryd.prog 5 = some 1 := by kernel_rfl
theorem ag5 : isAggT Tryd.prog 5 = some false := by kernel_rfl
theorem un5 : (Tryd.prog.underlying 5).isSome = true := by kernel_rfl
theorem unn5 : (Tryd.prog.underlying 5).isNone = false := by kernel_rfl
theorem zr5 : zeroA Tryd.prog 5 = some [.v (.int .u8 0)] := by kernel_rfl
theorem by5 : byOf Tryd.prog 5 = some 1 := by kernel_rfl
theorem in5 : intT Tryd.prog 5 = some .u8 := by kernel_rfl
theorem if5 : isIfc Tryd.prog 5 = false := by kernel_rfl
theorem sz22 : szOf Tryd.prog 22 = some 1 := by kernel_rfl
theorem ag22 : isAggT Tryd.prog 22 = some false := by kernel_rfl
theorem un22 : (Tryd.prog.underlying 22).isSome = true := by kernel_rfl
theorem unn22 : (Tryd.prog.underlying 22).isNone = false := by kernel_rfl
theorem zr22 : zeroA Tryd.prog 22 = some [.v (.slice none 0 0)] := by kernel_rfl
theorem el22 : elOf Tryd.prog 22 = some 113 := by kernel_rfl
theorem by22 : byOf Tryd.prog 22 = some 24 := by kernel_rfl
theorem ni22 : notInt Tryd.prog 22 = true := by kernel_rfl
theorem if22 : isIfc Tryd.prog 22 = false := by kernel_rfl
theorem sz24 : szOf Tryd.prog 24 = some 5 := by kernel_rfl
theorem ag24 : isAggT Tryd.prog 24 = some true := by kernel_rfl
theorem un24 : (Tryd.prog.underlying 24).isSome = true := by kernel_rfl
theorem unn24 : (Tryd.prog.underlying 24).isNone = false := by kernel_rfl
theorem zr24 : zeroA Tryd.prog 24 = some [.v (.int .i64 0), .v (.int .i64 0), .v (.int .i64 0), .v (.int .i64 0), .v (.slice none 0 0)] := by kernel_rfl
theorem by24 : byOf Tryd.prog 24 = some 56 := by kernel_rfl
theorem if24 : isIfc Tryd.prog 24 = false := by kernel_rfl
theorem pl24 : placesOf Tryd.prog 24 = some [(0, 1), (1, 1), (2, 1), (3, 1), (4, 1)] := by kernel_rfl
theorem fo24_0 : fldOff Tryd.prog 24 0 = some 0 := by kernel_rfl
theorem ft24_0 : fldTy Tryd.prog 24 0 = some 3 := by kernel_rfl
theorem fo24_1 : fldOff Tryd.prog 24 1 = some 1 := by kernel_rfl
theorem ft24_1 : fldTy Tryd.prog 24 1 = some 3 := by kernel_rfl
theorem fo24_2 : fldOff Tryd.prog 24 2 = some 2 := by kernel_rfl
theorem ft24_2 : fldTy Tryd.prog 24 2 = some 3 := by kernel_rfl
theorem fo24_3 : fldOff Tryd.prog 24 3 = some 3 := by kernel_rfl
theorem ft24_3 : fldTy Tryd.prog 24 3 = some 3 := by kernel_rfl
theorem fo24_4 : fldOff Tryd.prog 24 4 = some 4 := by kernel_rfl
theorem ft24_4 : fldTy Tryd.prog 24 4 = some 22 := by kernel_rfl
theorem sz27 : szOf Tryd.prog 27 = some 1 := by kernel_rfl
theorem ag27 : isAggT Tryd.prog 27 = some false := by kernel_rfl
theorem un27 : (Tryd.prog.underlying 27).isSome = true := by kernel_rfl
theorem unn27 : (Tryd.prog.underlying 27).isNone = false := by kernel_rfl
theorem zr27 : zeroA Tryd.prog 27 = some [.v (.slice none 0 0)] := by kernel_rfl
theorem el27 : elOf Tryd.prog 27 = some 3 := by kernel_rfl
theorem by27 : byOf Tryd.prog 27 = some 24 := by kernel_rfl
theorem ni27 : notInt Tryd.prog 27 = true := by kernel_rfl
theorem if27 : isIfc Tryd.prog 27 = false := by kernel_rfl
theorem sz28 : szOf Tryd.prog 28 = some 1 := by kernel_rfl
theorem ag28 : isAggT Tryd.prog 28 = some false := by kernel_rfl
theorem un28 : (Tryd.prog.underlying 28).isSome = true := by kernel_rfl
theorem unn28 : (Tryd.prog.underlying 28).isNone = false := by kernel_rfl
theorem zr28 : zeroA Tryd.prog 28 = some [.v (.int .i64 0)] := by kernel_rfl
theorem by28 : byOf Tryd.prog 28 = some 8 := by kernel_rfl
theorem in28 : intT Tryd.prog 28 = some .i64 := by kernel_rfl
theorem if28 : isIfc Tryd.prog 28 = false := by kernel_rfl
theorem sz32 : szOf Tryd.prog 32 = some 1 := by kernel_rfl
theorem ag32 : isAggT Tryd.prog 32 = some false := by kernel_rfl
theorem un32 : (Tryd.prog.underlying 32).isSome = true := by kernel_rfl
theorem unn32 : (Tryd.prog.underlying 32).isNone = false := by kernel_rfl
theorem zr32 : zeroA Tryd.prog 32 = some [.v (.slice none 0 0)] := by kernel_rfl
theorem el32 : elOf Tryd.prog 32 = some 41 := by kernel_rfl
theorem by32 : byOf Tryd.prog 32 = some 24 := by kernel_rfl
theorem ni32 : notInt Tryd.prog 32 = true := by kernel_rfl
theorem if32 : isIfc Tryd.prog 32 = false := by kernel_rfl
theorem sz36 : szOf Tryd.prog 36 = some 1 := by kernel_rfl
theorem ag36 : isAggT Tryd.prog 36 = some false := by kernel_rfl
theorem un36 : (Tryd.prog.underlying 36).isSome = true := by kernel_rfl
theorem unn36 : (Tryd.prog.underlying 36).isNone = false := by kernel_rfl
theorem zr36 : zeroA Tryd.prog 36 = some [.v (.slice none 0 0)] := by kernel_rfl
theorem el36 : elOf Tryd.prog 36 = some 43 := by kernel_rfl
theorem by36 : byOf Tryd.prog 36 = some 24 := by kernel_rfl
theorem ni36 : notInt Tryd.prog 36 = true := by kernel_rfl
theorem if36 : isIfc Tryd.prog 36 = false := by kernel_rfl
theorem sz41 : szOf Tryd.prog 41 = some 2 := by kernel_rfl
theorem ag41 : isAggT Tryd.prog 41 = some true := by kernel_rfl
theorem un41 : (Tryd.prog.underlying 41).isSome = true := by kernel_rfl
theorem unn41 : (Tryd.prog.underlying 41).isNone = false := by kernel_rfl
theorem zr41 : zeroA Tryd.prog 41 = some [.v (.slice none 0 0), .v (.slice none 0 0)] := by kernel_rfl
theorem by41 : byOf Tryd.prog 41 = some 48 := by kernel_rfl
theorem if41 : isIfc Tryd.prog 41 = false := by kernel_rfl
theorem pl41 : placesOf Tryd.prog 41 = some [(0, 1), (1, 1)] := by kernel_rfl
theorem fo41_0 : fldOff Tryd.prog 41 0 = some 0 := by kernel_rfl
theorem ft41_0 : fldTy Tryd.prog 41 0 = some 27 := by kernel_rfl
theorem fo41_1 : fldOff Tryd.prog 41 1 = some 1 := by kernel_rfl
theorem ft41_1 : fldTy Tryd.prog 41 1 = some 27 := by kernel_rfl
theorem sz43 : szOf Tryd.prog 43 = some 3 := by kernel_rfl
theorem ag43 : isAggT Tryd.prog 43 = some true := by kernel_rfl
theorem un43 : (Tryd.prog.underlying 43).isSome = true := by kernel_rfl
theorem unn43 : (Tryd.prog.underlying 43).isNone = false := by kernel_rfl
theorem zr43 : zeroA Tryd.prog 43 = some [.v (.slice none 0 0), .v (.slice none 0 0), .v (.slice none 0 0)] := by kernel_rfl
theorem by43 : byOf Tryd.prog 43 = some 72 := by kernel_rfl
theorem if43 : isIfc Tryd.prog 43 = false := by kernel_rfl
theorem pl43 : placesOf Tryd.prog 43 = some [(0, 1), (1, 1), (2, 1)] := by kernel_rfl
theorem fo43_0 : fldOff Tryd.prog 43 0 = some 0 := by kernel_rfl
theorem ft43_0 : fldTy Tryd.prog 43 0 = some 27 := by kernel_rfl
theorem fo43_1 : fldOff Tryd.prog 43 1 = some 1 := by kernel_rfl
theorem ft43_1 : fldTy Tryd.prog 43 1 = some 27 := by kernel_rfl
theorem fo43_2 : fldOff Tryd.prog 43 2 = some 2 := by kernel_rfl
theorem ft43_2 : fldTy Tryd.prog 43 2 = some 27 := by kernel_rfl
theorem sz95 : szOf Tryd.prog 95 = some 1 := by kernel_rfl
theorem ag95 : isAggT Tryd.prog 95 = some false := by kernel_rfl
theorem un95 : (Tryd.prog.underlying 95).isSome = true := by kernel_rfl
theorem unn95 : (Tryd.prog.underlying 95).isNone = false := by kernel_rfl
theorem zr95 : zeroA Tryd.prog 95 = some [.v (.pointer none)] := by kernel_rfl
theorem by95 : byOf Tryd.prog 95 = some 8 := by kernel_rfl
theorem po95 : isPtrT Tryd.prog 95 = true := by kernel_rfl
theorem if95 : isIfc Tryd.prog 95 = false := by kernel_rfl
theorem sz99 : szOf Tryd.prog 99 = some 1 := by kernel_rfl
theorem ag99 : isAggT Tryd.prog 99 = some false := by kernel_rfl
theorem un99 : (Tryd.prog.underlying 99).isSome = true := by kernel_rfl
theorem unn99 : (Tryd.prog.underlying 99).isNone = false := by kernel_rfl
theorem zr99 : zeroA Tryd.prog 99 = some [.v (.pointer none)] := by kernel_rfl
theorem by99 : byOf Tryd.prog 99 = some 8 := by kernel_rfl
theorem po99 : isPtrT Tryd.prog 99 = true := by kernel_rfl
theorem if99 : isIfc Tryd.prog 99 = false := by kernel_rfl
theorem sz100 : szOf Tryd.prog 100 = some 1 := by kernel_rfl
theorem ag100 : isAggT Tryd.prog 100 = some false := by kernel_rfl
theorem un100 : (Tryd.prog.underlying 100).isSome = true := by kernel_rfl
theorem unn100 : (Tryd.prog.underlying 100).isNone = false := by kernel_rfl
theorem zr100 : zeroA Tryd.prog 100 = some [.v (.slice none 0 0)] := by kernel_rfl
theorem el100 : elOf Tryd.prog 100 = some 107 := by kernel_rfl
theorem by100 : byOf Tryd.prog 100 = some 24 := by kernel_rfl
theorem ni100 : notInt Tryd.prog 100 = true := by kernel_rfl
theorem if100 : isIfc Tryd.prog 100 = false := by kernel_rfl
theorem sz101 : szOf Tryd.prog 101 = some 1 := by kernel_rfl
theorem ag101 : isAggT Tryd.prog 101 = some false := by kernel_rfl
theorem un101 : (Tryd.prog.underlying 101).isSome = true := by kernel_rfl
theorem unn101 : (Tryd.prog.underlying 101).isNone = false := by kernel_rfl
theorem zr101 : zeroA Tryd.prog 101 = some [.v (.map none)] := by kernel_rfl
theorem by101 : byOf Tryd.prog 101 = some 8 := by kernel_rfl
theorem if101 : isIfc Tryd.prog 101 = false := by kernel_rfl
theorem sz103 : szOf Tryd.prog 103 = some 6 := by kernel_rfl
theorem ag103 : isAggT Tryd.prog 103 = some true := by kernel_rfl
theorem un103 : (Tryd.prog.underlying 103).isSome = true := by kernel_rfl
theorem unn103 : (Tryd.prog.underlying 103).isNone = false := by kernel_rfl
theorem zr103 : zeroA Tryd.prog 103 = some [.v (.pointer none), .v (.pointer none), .v (.slice none 0 0), .v (.slice none 0 0), .v (.slice none 0 0), .v (.map none)] := by kernel_rfl
theorem by103 : byOf Tryd.prog 103 = some 96 := by kernel_rfl
theorem if103 : isIfc Tryd.prog 103 = false := by kernel_rfl
theorem pl103 : placesOf Tryd.prog 103 = some [(0, 1), (1, 1), (2, 1), (3, 1), (4, 1), (5, 1)] := by kernel_rfl
theorem fo103_0 : fldOff Tryd.prog 103 0 = some 0 := by kernel_rfl
theorem ft103_0 : fldTy Tryd.prog 103 0 = some 99 := by kernel_rfl
theorem fo103_1 : fldOff Tryd.prog 103 1 = some 1 := by kernel_rfl
theorem ft103_1 : fldTy Tryd.prog 103 1 = some 99 := by kernel_rfl
theorem fo103_2 : fldOff Tryd.prog 103 2 = some 2 := by kernel_rfl
theorem ft103_2 : fldTy Tryd.prog 103 2 = some 100 := by kernel_rfl
theorem fo103_3 : fldOff Tryd.prog 103 3 = some 3 := by kernel_rfl
theorem ft103_3 : fldTy Tryd.prog 103 3 = some 27 := by kernel_rfl
theorem fo103_4 : fldOff Tryd.prog 103 4 = some 4 := by kernel_rfl
theorem ft103_4 : fldTy Tryd.prog 103 4 = some 27 := by kernel_rfl
theorem fo103_5 : fldOff Tryd.prog 103 5 = some 5 := by kernel_rfl
theorem ft103_5 : fldTy Tryd.prog 103 5 = some 101 := by kernel_rfl
theorem sz104 : szOf Tryd.prog 104 = some 1 := by kernel_rfl
theorem ag104 : isAggT Tryd.prog 104 = some false := by kernel_rfl
theorem un104 : (Tryd.prog.underlying 104).isSome = true := by kernel_rfl
theorem unn104 : (Tryd.prog.underlying 104).isNone = false := by kernel_rfl
theorem zr104 : zeroA Tryd.prog 104 = some [.v (.int .u64 0)] := by kernel_rfl
theorem by104 : byOf Tryd.prog 104 = some 8 := by kernel_rfl
theorem in104 : intT Tryd.prog 104 = some .u64 := by kernel_rfl
theorem if104 : isIfc Tryd.prog 104 = false := by kernel_rfl
theorem sz105 : szOf Tryd.prog 105 = some 1 := by kernel_rfl
theorem ag105 : isAggT Tryd.prog 105 = some false := by kernel_rfl
theorem un105 : (Tryd.prog.underlying 105).isSome = true := by kernel_rfl
theorem unn105 : (Tryd.prog.underlying 105).isNone = false := by kernel_rfl
theorem zr105 : zeroA Tryd.prog 105 = some [.v (.int .u64 0)] := by kernel_rfl
theorem by105 : byOf Tryd.prog 105 = some 8 := by kernel_rfl
theorem in105 : intT Tryd.prog 105 = some .u64 := by kernel_rfl
theorem if105 : isIfc Tryd.prog 105 = false := by kernel_rfl
theorem sz107 : szOf Tryd.prog 107 = some 2 := by kernel_rfl
theorem ag107 : isAggT Tryd.prog 107 = some true := by kernel_rfl
theorem un107 : (Tryd.prog.underlying 107).isSome = true := by kernel_rfl
theorem unn107 : (Tryd.prog.underlying 107).isNone = false := by kernel_rfl
theorem zr107 : zeroA Tryd.prog 107 = some [.v (.int .u64 0), .v (.int .u64 0)] := by kernel_rfl
theorem by107 : byOf Tryd.prog 107 = some 16 := by kernel_rfl
theorem if107 : isIfc Tryd.prog 107 = false := by kernel_rfl
theorem ef107 : eqFs Tryd.prog 107 = some [(105, 0), (105, 1)] := by kernel_rfl
theorem pl107 : placesOf Tryd.prog 107 = some [(0, 1), (1, 1)] := by kernel_rfl
theorem fo107_0 : fldOff Tryd.prog 107 0 = some 0 := by kernel_rfl
theorem ft107_0 : fldTy Tryd.prog 107 0 = some 105 := by kernel_rfl
theorem fo107_1 : fldOff Tryd.prog 107 1 = some 1 := by kernel_rfl
theorem ft107_1 : fldTy Tryd.prog 107 1 = some 105 := by kernel_rfl
theorem sz113 : szOf Tryd.prog 113 = some 4 := by kernel_rfl
theorem ag113 : isAggT Tryd.prog 113 = some true := by kernel_rfl
theorem un113 : (Tryd.prog.underlying 113).isSome = true := by kernel_rfl
theorem unn113 : (Tryd.prog.underlying 113).isNone = false := by kernel_rfl
theorem zr113 : zeroA Tryd.prog 113 = some [.v (.int .i64 0), .v (.int .i64 0), .v (.int .i64 0), .v (.int .i64 0)] := by kernel_rfl
theorem by113 : byOf Tryd.prog 113 = some 32 := by kernel_rfl
theorem if113 : isIfc Tryd.prog 113 = false := by kernel_rfl
theorem ef113 : eqFs Tryd.prog 113 = some [(3, 0), (3, 1), (3, 2), (3, 3)] := by kernel_rfl
theorem pl113 : placesOf Tryd.prog 113 = some [(0, 1), (1, 1), (2, 1), (3, 1)] := by kernel_rfl
theorem fo113_0 : fldOff Tryd.prog 113 0 = some 0 := by kernel_rfl
theorem ft113_0 : fldTy Tryd.prog 113 0 = some 3 := by kernel_rfl
theorem fo113_1 : fldOff Tryd.prog 113 1 = some 1 := by kernel_rfl
theorem ft113_1 : fldTy Tryd.prog 113 1 = some 3 := by kernel_rfl
theorem fo113_2 : fldOff Tryd.prog 113 2 = some 2 := by kernel_rfl
theorem ft113_2 : fldTy Tryd.prog 113 2 = some 3 := by kernel_rfl
theorem fo113_3 : fldOff Tryd.prog 113 3 = some 3 := by kernel_rfl
theorem ft113_3 : fldTy Tryd.prog 113 3 = some 3 := by kernel_rfl
theorem sz122 : szOf Tryd.prog 122 = some 1 := by kernel_rfl
theorem ag122 : isAggT Tryd.prog 122 = some false := by kernel_rfl
theorem un122 : (Tryd.prog.underlying 122).isSome = true := by kernel_rfl
theorem unn122 : (Tryd.prog.underlying 122).isNone = false := by kernel_rfl
theorem zr122 : zeroA Tryd.prog 122 = some [.v (.slice none 0 0)] := by kernel_rfl
theorem el122 : elOf Tryd.prog 122 = some 123 := by kernel_rfl
theorem by122 : byOf Tryd.prog 122 = some 24 := by kernel_rfl
theorem ni122 : notInt Tryd.prog 122 = true := by kernel_rfl
theorem if122 : isIfc Tryd.prog 122 = false := by kernel_rfl
theorem sz123 : szOf Tryd.prog 123 = some 1 := by kernel_rfl
theorem ag123 : isAggT Tryd.prog 123 = some false := by kernel_rfl
theorem un123 : (Tryd.prog.underlying 123).isSome = true := by kernel_rfl
theorem unn123 : (Tryd.prog.underlying 123).isNone = false := by kernel_rfl
theorem zr123 : zeroA Tryd.prog 123 = some [.v (.slice none 0 0)] := by kernel_rfl
theorem el123 : elOf Tryd.prog 123 = some 105 := by kernel_rfl
theorem by123 : byOf Tryd.prog 123 = some 24 := by kernel_rfl
theorem ni123 : notInt Tryd.prog 123 = true := by kernel_rfl
theorem if123 : isIfc Tryd.prog 123 = false := by kernel_rfl
theorem sz125 : szOf Tryd.prog 125 = some 7 := by kernel_rfl
theorem ag125 : isAggT Tryd.prog 125 = some true := by kernel_rfl
theorem un125 : (Tryd.prog.underlying 125).isSome = true := by kernel_rfl
theorem unn125 : (Tryd.prog.underlying 125).isNone = false := by kernel_rfl
theorem zr125 : zeroA Tryd.prog 125 = some [.v (.int .i64 0), .v (.int .i64 0), .v (.int .i64 0), .v (.int .i64 0), .v (.slice none 0 0), .v (.slice none 0 0), .v (.slice none 0 0)] := by kernel_rfl
theorem by125 : byOf Tryd.prog 125 = some 104 := by kernel_rfl
theorem if125 : isIfc Tryd.prog 125 = false := by kernel_rfl
theorem pl125 : placesOf Tryd.prog 125 = some [(0, 5), (5, 1), (6, 1)] := by kernel_rfl
theorem fo125_0 : fldOff Tryd.prog 125 0 = some 0 := by kernel_rfl
theorem ft125_0 : fldTy Tryd.prog 125 0 = some 24 := by kernel_rfl
theorem fo125_1 : fldOff Tryd.prog 125 1 = some 5 := by kernel_rfl
theorem ft125_1 : fldTy Tryd.prog 125 1 = some 122 := by kernel_rfl
theorem fo125_2 : fldOff Tryd.prog 125 2 = some 6 := by kernel_rfl
theorem ft125_2 : fldTy Tryd.prog 125 2 = some 123 := by kernel_rfl
theorem sz156 : szOf Tryd.prog 156 = some 1 := by kernel_rfl
theorem ag156 : isAggT Tryd.prog 156 = some false := by kernel_rfl
theorem un156 : (Tryd.prog.underlying 156).isSome = true := by kernel_rfl
theorem unn156 : (Tryd.prog.underlying 156).isNone = false := by kernel_rfl
theorem zr156 : zeroA Tryd.prog 156 = some [.v (.nilFunc)] := by kernel_rfl
theorem by156 : byOf Tryd.prog 156 = some 8 := by kernel_rfl
theorem if156 : isIfc Tryd.prog 156 = false := by kernel_rfl
theorem sz165 : szOf Tryd.prog 165 = some 1 := by kernel_rfl
theorem ag165 : isAggT Tryd.prog 165 = some false := by kernel_rfl
theorem un165 : (Tryd.prog.underlying 165).isSome = true := by kernel_rfl
theorem unn165 : (Tryd.prog.underlying 165).isNone = false := by kernel_rfl
theorem zr165 : zeroA Tryd.prog 165 = some [.v (.slice none 0 0)] := by kernel_rfl
theorem el165 : elOf Tryd.prog 165 = some 28 := by kernel_rfl
theorem by165 : byOf Tryd.prog 165 = some 24 := by kernel_rfl
theorem ni165 : notInt Tryd.prog 165 = true := by kernel_rfl
theorem if165 : isIfc Tryd.prog 165 = false := by kernel_rfl
theorem sz174 : szOf Tryd.prog 174 = some 1 := by kernel_rfl
theorem ag174 : isAggT Tryd.prog 174 = some false := by kernel_rfl
theorem un174 : (Tryd.prog.underlying 174).isSome = true := by kernel_rfl
theorem unn174 : (Tryd.prog.underlying 174).isNone = false := by kernel_rfl
theorem zr174 : zeroA Tryd.prog 174 = some [.v (.int .u32 0)] := by kernel_rfl
theorem by174 : byOf Tryd.prog 174 = some 4 := by kernel_rfl
theorem in174 : intT Tryd.prog 174 = some .u32 := by kernel_rfl
theorem if174 : isIfc Tryd.prog 174 = false := by kernel_rfl
theorem sz176 : szOf Tryd.prog 176 = some 1 := by kernel_rfl
theorem ag176 : isAggT Tryd.prog 176 = some false := by kernel_rfl
theorem un176 : (Tryd.prog.underlying 176).isSome = true := by kernel_rfl
theorem unn176 : (Tryd.prog.underlying 176).isNone = false := by kernel_rfl
theorem zr176 : zeroA Tryd.prog 176 = some [.v (.int .u64 0)] := by kernel_rfl
theorem by176 : byOf Tryd.prog 176 = some 8 := by kernel_rfl
theorem in176 : intT Tryd.prog 176 = some .u64 := by kernel_rfl
theorem if176 : isIfc Tryd.prog 176 = false := by kernel_rfl
theorem sz180 : szOf Tryd.prog 180 = some 64 := by kernel_rfl
theorem ag180 : isAggT Tryd.prog 180 = some true := by kernel_rfl
theorem un180 : (Tryd.prog.underlying 180).isSome = true := by kernel_rfl
theorem unn180 : (Tryd.prog.underlying 180).isNone = false := by kernel_rfl
theorem by180 : byOf Tryd.prog 180 = some 64 := by kernel_rfl
theorem if180 : isIfc Tryd.prog 180 = false := by kernel_rfl
end Ty
end Go.Proofs.YtchpcjmgifnmdaaDoor

/- The code of functions without what an evaluation has no need of, by program. -/
namespace Go.Proofs.YtchpcjmgifnmdaaDoor
open Go Go.Proofs.YtchpcjmgifnmdaaDoor.Ab
namespace Cd
/-- examiner/examinerlaw42.Other -/
def cd56 : CC := (.seq (.reg [⟨some 0, (Op.alloc 24), none⟩])
 (.seq (.reg [⟨some 2, (Op.call { callee := (Callee.value (Operand.func 57)), args := #[], argTypes := #[] }), none⟩,
  ⟨some 1, (Op.alloc 24), none⟩,
  ⟨none, (Op.store 24 (Operand.tmp 1) (Operand.tmp 2)), none⟩])
 (.seq (.reg [⟨some 3, (Op.fieldAddr 24 (Operand.tmp 1) 4), none⟩,
  ⟨some 4, (Op.load 22 (Operand.tmp 3)), none⟩,
  ⟨some 5, (Op.indexAddr 22 (Operand.tmp 4) (Operand.const (Value.int IntKind.i64 1))), none⟩,
  ⟨some 6, (Op.fieldAddr 113 (Operand.tmp 5) 2), none⟩,
  ⟨none, (Op.store 3 (Operand.tmp 6) (Operand.const (Value.int IntKind.i64 1))), none⟩])
 (.seq (.reg [⟨some 7, (Op.load 24 (Operand.tmp 1)), none⟩,
  ⟨none, (Op.store 24 (Operand.tmp 0) (Operand.tmp 7)), none⟩])
 .ret))))
theorem fn56 : FnFact Tryd.prog 56 8 [] [(ResultVar.cell 0 24)] cd56 := ⟨by kernel_rfl, ⟨Tryd.f56, Tryd.func56, by kernel_rfl, by rfl, Tryd.ntmps56, congrArg Array.toList Tryd.results56⟩⟩
/-- examiner/examinerlaw42.Example -/
def cd57 : CC := (.seq (.reg [⟨some 0, (Op.alloc 24), none⟩])
 (.seq (.reg [⟨some 1, (Op.build 113 #[(3, (Operand.const (Value.int IntKind.i64 1)))]), none⟩,
  ⟨some 2, (Op.build 113 #[(0, (Operand.const (Value.int IntKind.i64 1))), (1, (Operand.const (Value.int IntKind.i64 1))), (3, (Operand.const (Value.int IntKind.i64 2)))]), none⟩,
  ⟨some 3, (Op.build 113 #[(0, (Operand.const (Value.int IntKind.i64 2))), (3, (Operand.const (Value.int IntKind.i64 2)))]), none⟩,
  ⟨some 4, (Op.buildSlice 22 3 #[(0, (Operand.tmp 1)), (1, (Operand.tmp 2)), (2, (Operand.tmp 3))]), none⟩,
  ⟨some 5, (Op.build 24 #[(0, (Operand.const (Value.int IntKind.i64 3))), (2, (Operand.const (Value.int IntKind.i64 1))), (3, (Operand.const (Value.int IntKind.i64 2))), (4, (Operand.tmp 4))]), none⟩,
  ⟨none, (Op.store 24 (Operand.tmp 0) (Operand.tmp 5)), none⟩])
 .ret))
theorem fn57 : FnFact Tryd.prog 57 6 [] [(ResultVar.cell 0 24)] cd57 := ⟨by kernel_rfl, ⟨Tryd.f57, Tryd.func57, by kernel_rfl, by rfl, Tryd.ntmps57, congrArg Array.toList Tryd.results57⟩⟩
/-- examiner/conform.bothErr -/
def cd58 : CC := (.seq (.reg [⟨some 2, (Op.box 24 (Operand.tmp 0)), none⟩,
  ⟨some 3, (Op.box 24 (Operand.tmp 1)), none⟩,
  ⟨some 4, (Op.assign (Operand.const (Value.int IntKind.i64 0))), none⟩])
 (.seq (.dr [⟨0, .R, ⟨some 5, (Op.load 24 (Operand.tmp 2)), none⟩, [], false⟩,
  ⟨2, .F, ⟨some 7, (Op.load 24 (Operand.tmp 3)), none⟩, [], false⟩,
  ⟨4, .F, ⟨some 9, (Op.fieldAddr 24 (Operand.tmp 2) 2), none⟩, [], false⟩,
  ⟨5, .F, ⟨some 10, (Op.load 3 (Operand.tmp 9)), none⟩, [], false⟩,
  ⟨6, .F, ⟨some 11, (Op.fieldAddr 24 (Operand.tmp 3) 2), none⟩, [], false⟩,
  ⟨7, .F, ⟨some 12, (Op.load 3 (Operand.tmp 11)), none⟩, [], false⟩,
  ⟨8, .F, ⟨some 13, (Op.binOp BinOp.eql 3 (Operand.tmp 10) (Operand.tmp 12) 3), none⟩, [], false⟩,
  ⟨1, .E, ⟨some 6, (Op.call { callee := (Callee.value (Operand.func 70)), args := #[(Operand.tmp 5)], argTypes := #[24] }), none⟩, [], false⟩,
  ⟨3, .E, ⟨some 8, (Op.call { callee := (Callee.value (Operand.func 70)), args := #[(Operand.tmp 7)], argTypes := #[24] }), none⟩, [], false⟩,
  ⟨9, .F, ⟨some 14, (Op.move (Operand.tmp 13)), none⟩, [], false⟩,
  ⟨10, .F, ⟨some 15, (Op.fieldAddr 24 (Operand.tmp 2) 3), some (14, true)⟩, [], false⟩,
  ⟨11, .R, ⟨some 16, (Op.load 3 (Operand.tmp 15)), some (14, true)⟩, [], false⟩,
  ⟨12, .F, ⟨some 17, (Op.fieldAddr 24 (Operand.tmp 3) 3), some (14, true)⟩, [], false⟩,
  ⟨13, .R, ⟨some 18, (Op.load 3 (Operand.tmp 17)), some (14, true)⟩, [], false⟩,
  ⟨14, .F, ⟨some 19, (Op.binOp BinOp.eql 3 (Operand.tmp 16) (Operand.tmp 18) 3), some (14, true)⟩, [], false⟩,
  ⟨15, .F, ⟨some 20, (Op.pick (Operand.tmp 14) (Operand.tmp 19) (Operand.const (Value.bool false))), none⟩, [], false⟩,
  ⟨16, .E, ⟨some 21, (Op.call { callee := (Callee.value (Operand.func 61)), args := #[(Operand.tmp 20), (Operand.const (Value.int IntKind.i64 6))], argTypes := #[4, 28] }), none⟩, [], false⟩,
  ⟨17, .F, ⟨some 22, (Op.buildSlice 165 3 #[(0, (Operand.tmp 6)), (1, (Operand.tmp 8)), (2, (Operand.tmp 21))]), none⟩, [], false⟩,
  ⟨18, .E, ⟨some 23, (Op.call { callee := (Callee.value (Operand.func 82)), args := #[(Operand.tmp 22)], argTypes := #[165] }), none⟩, [], false⟩,
  ⟨19, .F, ⟨some 4, (Op.assign (Operand.tmp 23)), none⟩, [], false⟩])
 .ret))
theorem fn58 : FnFact Tryd.prog 58 24 [(1, [(0, 3), (2, 0), (4, 0), (5, 0), (6, 0), (7, 0), (8, 0), (1, 2), (3, 2), (9, 0), (10, 0), (11, 3), (12, 0), (13, 3), (14, 0), (15, 0), (16, 2), (17, 0), (18, 2), (19, 0)], [[], [0], [], [0, 1, 2], [], [4], [], [6], [4, 5, 6, 7], [0, 1, 2, 3, 4, 5, 6, 7, 8], [0, 1, 2, 3, 4, 5, 6, 7, 8, 9], [0, 1, 2, 3, 4, 5, 6, 7, 8, 9, 10], [0, 1, 2, 3, 4, 5, 6, 7, 8, 9], [0, 1, 2, 3, 4, 5, 6, 7, 8, 9, 12], [0, 1, 2, 3, 4, 5, 6, 7, 8, 9, 10, 11, 12, 13], [0, 1, 2, 3, 4, 5, 6, 7, 8, 9, 10, 11, 12, 13, 14], [0, 1, 2, 3, 4, 5, 6, 7, 8, 9, 10, 11, 12, 13, 14, 15], [0, 1, 2, 3, 4, 5, 6, 7, 8, 9, 10, 11, 12, 13, 14, 15, 16], [0, 1, 2, 3, 4, 5, 6, 7, 8, 9, 10, 11, 12, 13, 14, 15, 16, 17], [0, 1, 2, 3, 4, 5, 6, 7, 8, 9, 10, 11, 12, 13, 14, 15, 16, 17, 18]])] [(ResultVar.tmp 4)] cd58 := ⟨by kernel_rfl, ⟨Tryd.f58, Tryd.func58, by kernel_rfl, by rfl, Tryd.ntmps58, congrArg Array.toList Tryd.results58⟩⟩
/-- examiner/conform.compare -/
def cd59 : CC := (.seq (.reg [⟨some 2, (Op.box 24 (Operand.tmp 0)), none⟩,
  ⟨some 3, (Op.box 24 (Operand.tmp 1)), none⟩,
  ⟨some 4, (Op.assign (Operand.const (Value.pointer none))), none⟩])
 (.seq (.dr [⟨0, .R, ⟨some 6, (Op.load 24 (Operand.tmp 2)), none⟩, [], false⟩,
  ⟨2, .F, ⟨some 8, (Op.load 24 (Operand.tmp 3)), none⟩, [], false⟩,
  ⟨4, .A, ⟨some 10, (Op.makeMap 101 none), none⟩, [], false⟩,
  ⟨1, .E, ⟨some 7, (Op.call { callee := (Callee.value (Operand.func 71)), args := #[(Operand.tmp 6)], argTypes := #[24] }), none⟩, [], false⟩,
  ⟨3, .E, ⟨some 9, (Op.call { callee := (Callee.value (Operand.func 71)), args := #[(Operand.tmp 8)], argTypes := #[24] }), none⟩, [], false⟩,
  ⟨5, .F, ⟨some 11, (Op.build 103 #[(0, (Operand.tmp 7)), (1, (Operand.tmp 9)), (5, (Operand.tmp 10))]), none⟩, [], false⟩,
  ⟨6, .A, ⟨some 12, (Op.box 103 (Operand.tmp 11)), none⟩, [], false⟩,
  ⟨7, .F, ⟨some 5, (Op.assign (Operand.tmp 12)), none⟩, [], false⟩])
 (.seq (.dr [⟨0, .F, ⟨some 13, (Op.move (Operand.tmp 5)), none⟩, [], false⟩,
  ⟨1, .F, ⟨some 14, (Op.move (Operand.tmp 5)), none⟩, [], false⟩,
  ⟨2, .F, ⟨some 15, (Op.nilCheck (Operand.tmp 14)), none⟩, [], false⟩,
  ⟨3, .F, ⟨some 16, (Op.fieldAddr 103 (Operand.tmp 15) 0), none⟩, [], false⟩,
  ⟨4, .R, ⟨some 17, (Op.load 99 (Operand.tmp 16)), none⟩, [], false⟩,
  ⟨6, .F, ⟨some 19, (Op.move (Operand.tmp 5)), none⟩, [], false⟩,
  ⟨7, .F, ⟨some 20, (Op.nilCheck (Operand.tmp 19)), none⟩, [], false⟩,
  ⟨8, .F, ⟨some 21, (Op.fieldAddr 103 (Operand.tmp 20) 1), none⟩, [], false⟩,
  ⟨9, .R, ⟨some 22, (Op.load 99 (Operand.tmp 21)), none⟩, [], false⟩,
  ⟨5, .E, ⟨some 18, (Op.call { callee := (Callee.value (Operand.func 72)), args := #[(Operand.tmp 17)], argTypes := #[99] }), none⟩, [], true⟩,
  ⟨10, .E, ⟨some 23, (Op.call { callee := (Callee.value (Operand.func 72)), args := #[(Operand.tmp 22)], argTypes := #[99] }), none⟩, [], false⟩,
  ⟨11, .F, ⟨some 24, (Op.build 107 #[(0, (Operand.tmp 18)), (1, (Operand.tmp 23))]), none⟩, [], false⟩,
  ⟨12, .E, ⟨some 25, (Op.call { callee := (Callee.value (Operand.func 101)), args := #[(Operand.tmp 13), (Operand.tmp 24), (Operand.const (Value.int IntKind.i64 (-1))), (Operand.const (Value.int IntKind.i64 (-1)))], argTypes := #[95, 107, 3, 3] }), none⟩, [], false⟩])
 (.seq (.reg [⟨some 26, (Op.move (Operand.tmp 5)), none⟩,
  ⟨some 4, (Op.assign (Operand.tmp 26)), none⟩])
 .ret))))
theorem fn59 : FnFact Tryd.prog 59 27 [(1, [(0, 3), (2, 0), (4, 1), (1, 2), (3, 2), (5, 0), (6, 1), (7, 0)], [[], [0], [], [0, 1, 2], [], [0, 1, 2, 3, 4], [0, 1, 2, 3, 4, 5], [0, 1, 2, 3, 4, 5, 6]]), (2, [(0, 0), (1, 0), (2, 0), (3, 0), (4, 3), (6, 0), (7, 0), (8, 0), (9, 3), (5, 4), (10, 2), (11, 0), (12, 2)], [[], [], [1], [1, 2], [1, 2, 3], [1, 2, 3, 4], [], [6], [6, 7], [6, 7, 8], [1, 2, 3, 4, 5, 6, 7, 8, 9], [1, 2, 3, 4, 5, 6, 7, 8, 9, 10], [0, 1, 2, 3, 4, 5, 6, 7, 8, 9, 10, 11]])] [(ResultVar.tmp 4)] cd59 := ⟨by kernel_rfl, ⟨Tryd.f59, Tryd.func59, by kernel_rfl, by rfl, Tryd.ntmps59, congrArg Array.toList Tryd.results59⟩⟩
/-- (*examiner/conform.compared).run -/
def cd60 : CC := (.seq (.reg [⟨some 2, (Op.assign (Operand.const (Value.slice none 0 0))), none⟩,
  ⟨some 3, (Op.assign (Operand.const (Value.bool false))), none⟩])
 (.seq (.seq (.reg [⟨some 4, (Op.assign (Operand.const (Value.int IntKind.i64 0))), none⟩])
 (.block 0 (.loop (.seq (.seq (.reg [⟨some 12, (Op.move (Operand.tmp 4)), none⟩,
  ⟨some 13, (Op.move (Operand.tmp 0)), none⟩,
  ⟨some 14, (Op.nilCheck (Operand.tmp 13)), none⟩,
  ⟨some 15, (Op.fieldAddr 103 (Operand.tmp 14) 2), none⟩,
  ⟨some 16, (Op.load 100 (Operand.tmp 15)), none⟩,
  ⟨some 17, (Op.call { callee := (Callee.builtin Builtin.len), args := #[(Operand.tmp 16)], argTypes := #[100] }), none⟩,
  ⟨some 18, (Op.binOp BinOp.lss 3 (Operand.tmp 12) (Operand.tmp 17) 3), none⟩])
 (.cond (Operand.tmp 18) .skip (.exit 0)))
 (.seq (.block 1 (.seq (.reg [⟨some 21, (Op.move (Operand.tmp 0)), none⟩,
  ⟨some 22, (Op.nilCheck (Operand.tmp 21)), none⟩,
  ⟨some 23, (Op.fieldAddr 103 (Operand.tmp 22) 2), none⟩,
  ⟨some 24, (Op.load 100 (Operand.tmp 23)), none⟩,
  ⟨some 25, (Op.move (Operand.tmp 4)), none⟩,
  ⟨some 26, (Op.indexAddr 100 (Operand.tmp 24) (Operand.tmp 25)), none⟩,
  ⟨some 27, (Op.load 107 (Operand.tmp 26)), none⟩,
  ⟨some 5, (Op.alloc 107), none⟩,
  ⟨none, (Op.store 107 (Operand.tmp 5) (Operand.tmp 27)), none⟩])
 (.seq (.seq (.reg [⟨some 29, (Op.move (Operand.tmp 0)), none⟩,
  ⟨some 30, (Op.load 107 (Operand.tmp 5)), none⟩,
  ⟨some 31, (Op.call { callee := (Callee.value (Operand.func 87)), args := #[(Operand.tmp 29), (Operand.tmp 30)], argTypes := #[95, 107] }), none⟩,
  ⟨some 28, (Op.move (Operand.tmp 31)), none⟩,
  ⟨some 32, (Op.extract (Operand.tmp 28) 0), none⟩,
  ⟨some 33, (Op.extract (Operand.tmp 28) 1), none⟩,
  ⟨some 6, (Op.assign (Operand.tmp 32)), none⟩,
  ⟨some 7, (Op.assign (Operand.tmp 33)), none⟩])
 (.seq (.reg [⟨some 34, (Op.move (Operand.tmp 7)), none⟩])
 (.cond (Operand.tmp 34) (.seq (.reg [⟨some 35, (Op.move (Operand.tmp 6)), none⟩,
  ⟨some 36, (Op.buildSlice 27 1 #[(0, (Operand.tmp 35))]), none⟩,
  ⟨some 8, (Op.assign (Operand.tmp 36)), none⟩])
 (.seq (.seq (.reg [⟨some 37, (Op.move (Operand.tmp 4)), none⟩,
  ⟨some 9, (Op.assign (Operand.tmp 37)), none⟩])
 (.block 2 (.loop (.seq (.seq (.reg [⟨some 38, (Op.move (Operand.tmp 0)), none⟩,
  ⟨some 39, (Op.nilCheck (Operand.tmp 38)), none⟩,
  ⟨some 40, (Op.fieldAddr 103 (Operand.tmp 39) 3), none⟩,
  ⟨some 41, (Op.load 27 (Operand.tmp 40)), none⟩,
  ⟨some 42, (Op.move (Operand.tmp 9)), none⟩,
  ⟨some 43, (Op.indexAddr 27 (Operand.tmp 41) (Operand.tmp 42)), none⟩,
  ⟨some 44, (Op.load 3 (Operand.tmp 43)), none⟩,
  ⟨some 45, (Op.binOp BinOp.neq 3 (Operand.tmp 44) (Operand.const (Value.int IntKind.i64 (-1))) 3), none⟩])
 (.cond (Operand.tmp 45) .skip (.exit 2)))
 (.seq (.block 3 (.reg [⟨some 53, (Op.move (Operand.tmp 8)), none⟩,
  ⟨some 54, (Op.move (Operand.tmp 0)), none⟩,
  ⟨some 55, (Op.nilCheck (Operand.tmp 54)), none⟩,
  ⟨some 56, (Op.fieldAddr 103 (Operand.tmp 55) 4), none⟩,
  ⟨some 57, (Op.load 27 (Operand.tmp 56)), none⟩,
  ⟨some 58, (Op.move (Operand.tmp 9)), none⟩,
  ⟨some 59, (Op.indexAddr 27 (Operand.tmp 57) (Operand.tmp 58)), none⟩,
  ⟨some 60, (Op.load 3 (Operand.tmp 59)), none⟩,
  ⟨some 61, (Op.buildSlice 27 1 #[(0, (Operand.tmp 60))]), none⟩,
  ⟨some 62, (Op.call { callee := (Callee.builtin Builtin.append), args := #[(Operand.tmp 53), (Operand.tmp 61)], argTypes := #[27, 27] }), none⟩,
  ⟨some 8, (Op.assign (Operand.tmp 62)), none⟩]))
 (.reg [⟨some 46, (Op.move (Operand.tmp 0)), none⟩,
  ⟨some 47, (Op.nilCheck (Operand.tmp 46)), none⟩,
  ⟨some 48, (Op.fieldAddr 103 (Operand.tmp 47) 3), none⟩,
  ⟨some 49, (Op.load 27 (Operand.tmp 48)), none⟩,
  ⟨some 50, (Op.move (Operand.tmp 9)), none⟩,
  ⟨some 51, (Op.indexAddr 27 (Operand.tmp 49) (Operand.tmp 50)), none⟩,
  ⟨some 52, (Op.load 3 (Operand.tmp 51)), none⟩,
  ⟨some 9, (Op.assign (Operand.tmp 52)), none⟩]))))))
 (.seq (.reg [⟨some 63, (Op.move (Operand.tmp 8)), none⟩,
  ⟨some 64, (Op.call { callee := (Callee.value (Operand.func 102)), args := #[(Operand.tmp 63)], argTypes := #[27] }), none⟩])
 (.seq (.reg [⟨some 65, (Op.move (Operand.tmp 8)), none⟩,
  ⟨some 2, (Op.assign (Operand.tmp 65)), none⟩,
  ⟨some 3, (Op.assign (Operand.const (Value.bool true))), none⟩])
 .ret)))) .skip)))
 (.seq (.reg [⟨some 66, (Op.move (Operand.tmp 0)), none⟩,
  ⟨some 67, (Op.nilCheck (Operand.tmp 66)), none⟩,
  ⟨some 68, (Op.fieldAddr 103 (Operand.tmp 67) 0), none⟩,
  ⟨some 69, (Op.load 99 (Operand.tmp 68)), none⟩,
  ⟨some 70, (Op.call { callee := (Callee.value (Operand.func 73)), args := #[(Operand.tmp 69)], argTypes := #[99] }), none⟩,
  ⟨some 71, (Op.binOp BinOp.add 3 (Operand.tmp 70) (Operand.const (Value.int IntKind.i64 1)) 3), none⟩,
  ⟨some 72, (Op.move (Operand.const (Value.int IntKind.i64 0))), none⟩])
 (.block 4 (.loop (.seq (.reg [⟨some 73, (Op.binOp BinOp.lss 3 (Operand.tmp 72) (Operand.tmp 71) 3), none⟩])
 (.seq (.cond (Operand.tmp 73) .skip (.exit 4))
 (.seq (.block 5 (.seq (.reg [⟨some 74, (Op.move (Operand.tmp 72)), none⟩,
  ⟨some 10, (Op.assign (Operand.tmp 74)), none⟩])
 (.seq (.dr [⟨0, .F, ⟨some 75, (Op.move (Operand.tmp 0)), none⟩, [], false⟩,
  ⟨1, .F, ⟨some 76, (Op.nilCheck (Operand.tmp 75)), none⟩, [], false⟩,
  ⟨2, .F, ⟨some 77, (Op.fieldAddr 103 (Operand.tmp 76) 1), none⟩, [], false⟩,
  ⟨3, .R, ⟨some 78, (Op.load 99 (Operand.tmp 77)), none⟩, [], false⟩,
  ⟨4, .F, ⟨some 79, (Op.fieldAddr 107 (Operand.tmp 5) 1), none⟩, [], false⟩,
  ⟨5, .R, ⟨some 80, (Op.load 105 (Operand.tmp 79)), none⟩, [], false⟩,
  ⟨6, .F, ⟨some 81, (Op.move (Operand.tmp 10)), none⟩, [], false⟩,
  ⟨7, .E, ⟨some 82, (Op.call { callee := (Callee.value (Operand.func 74)), args := #[(Operand.tmp 78), (Operand.tmp 80), (Operand.tmp 81)], argTypes := #[99, 105, 3] }), none⟩, [], false⟩,
  ⟨8, .F, ⟨some 11, (Op.assign (Operand.tmp 82)), none⟩, [], false⟩])
 (.seq (.reg [⟨some 83, (Op.move (Operand.tmp 11)), none⟩,
  ⟨some 84, (Op.binOp BinOp.neq 105 (Operand.tmp 83) (Operand.const (Value.int IntKind.u64 0)) 105), none⟩])
 (.cond (Operand.tmp 84) (.dr [⟨0, .F, ⟨some 85, (Op.move (Operand.tmp 0)), none⟩, [], false⟩,
  ⟨1, .F, ⟨some 86, (Op.move (Operand.tmp 0)), none⟩, [], false⟩,
  ⟨2, .F, ⟨some 87, (Op.nilCheck (Operand.tmp 86)), none⟩, [], false⟩,
  ⟨3, .F, ⟨some 88, (Op.fieldAddr 103 (Operand.tmp 87) 0), none⟩, [], false⟩,
  ⟨4, .R, ⟨some 89, (Op.load 99 (Operand.tmp 88)), none⟩, [], false⟩,
  ⟨5, .F, ⟨some 90, (Op.fieldAddr 107 (Operand.tmp 5) 0), none⟩, [], false⟩,
  ⟨6, .R, ⟨some 91, (Op.load 105 (Operand.tmp 90)), none⟩, [], false⟩,
  ⟨7, .F, ⟨some 92, (Op.move (Operand.tmp 10)), none⟩, [], false⟩,
  ⟨9, .F, ⟨some 94, (Op.move (Operand.tmp 11)), none⟩, [], false⟩,
  ⟨11, .F, ⟨some 96, (Op.move (Operand.tmp 4)), none⟩, [], false⟩,
  ⟨12, .F, ⟨some 97, (Op.move (Operand.tmp 10)), none⟩, [], false⟩,
  ⟨8, .E, ⟨some 93, (Op.call { callee := (Callee.value (Operand.func 74)), args := #[(Operand.tmp 89), (Operand.tmp 91), (Operand.tmp 92)], argTypes := #[99, 105, 3] }), none⟩, [], false⟩,
  ⟨10, .F, ⟨some 95, (Op.build 107 #[(0, (Operand.tmp 93)), (1, (Operand.tmp 94))]), none⟩, [], false⟩,
  ⟨13, .E, ⟨some 98, (Op.call { callee := (Callee.value (Operand.func 101)), args := #[(Operand.tmp 85), (Operand.tmp 95), (Operand.tmp 96), (Operand.tmp 97)], argTypes := #[95, 107, 3, 3] }), none⟩, [], false⟩]) .skip)))))
 (.reg [⟨some 99, (Op.binOp BinOp.add 3 (Operand.tmp 72) (Operand.const (Value.int IntKind.i64 1)) 3), none⟩,
  ⟨some 72, (Op.move (Operand.tmp 99)), none⟩]))))))))))
 (.reg [⟨some 19, (Op.move (Operand.tmp 4)), none⟩,
  ⟨some 20, (Op.binOp BinOp.add 3 (Operand.tmp 19) (Operand.const (Value.int IntKind.i64 1)) 3), none⟩,
  ⟨some 4, (Op.assign (Operand.tmp 20)), none⟩]))))))
 (.seq (.reg [⟨some 2, (Op.assign (Operand.const (Value.slice none 0 0))), none⟩,
  ⟨some 3, (Op.assign (Operand.const (Value.bool false))), none⟩])
 .ret)))
theorem fn60 : FnFact Tryd.prog 60 100 [(17, [(0, 0), (1, 0), (2, 0), (3, 3), (4, 0), (5, 3), (6, 0), (7, 2), (8, 0)], [[], [0], [0, 1], [0, 1, 2], [], [4], [], [0, 1, 2, 3, 4, 5, 6], [0, 1, 2, 3, 4, 5, 6, 7]]), (19, [(0, 0), (1, 0), (2, 0), (3, 0), (4, 3), (5, 0), (6, 3), (7, 0), (9, 0), (11, 0), (12, 0), (8, 2), (10, 0), (13, 2)], [[], [], [1], [1, 2], [1, 2, 3], [], [5], [], [1, 2, 3, 4, 5, 6, 7], [], [1, 2, 3, 4, 5, 6, 7, 8, 9], [], [], [0, 1, 2, 3, 4, 5, 6, 7, 8, 9, 10, 11, 12]])] [(ResultVar.tmp 2), (ResultVar.tmp 3)] cd60 := ⟨by kernel_rfl, ⟨Tryd.f60, Tryd.func60, by kernel_rfl, by rfl, Tryd.ntmps60, congrArg Array.toList Tryd.results60⟩⟩
/-- examiner/conform.unless -/
def cd61 : CC := (.seq (.reg [⟨some 4, (Op.assign (Operand.const (Value.int IntKind.i64 0))), none⟩])
 (.seq (.seq (.reg [⟨some 5, (Op.move (Operand.tmp 0)), none⟩])
 (.cond (Operand.tmp 5) (.seq (.reg [⟨some 4, (Op.assign (Operand.const (Value.int IntKind.i64 0))), none⟩])
 .ret) .skip))
 (.seq (.reg [⟨some 6, (Op.move (Operand.tmp 1)), none⟩,
  ⟨some 4, (Op.assign (Operand.tmp 6)), none⟩])
 .ret)))
theorem fn61 : FnFact Tryd.prog 61 7 [] [(ResultVar.tmp 4)] cd61 := ⟨by kernel_rfl, ⟨Tryd.f61, Tryd.func61, by kernel_rfl, by rfl, Tryd.ntmps61, congrArg Array.toList Tryd.results61⟩⟩
/-- (examiner/conform.set).states -/
def cd62 : CC := (.seq (.reg [⟨some 2, (Op.assign (Operand.const (Value.slice none 0 0))), none⟩])
 (.seq (.reg [⟨some 3, (Op.assign (Operand.const (Value.slice none 0 0))), none⟩])
 (.seq (.block 0 (.loop (.seq (.seq (.reg [⟨some 4, (Op.move (Operand.tmp 0)), none⟩,
  ⟨some 5, (Op.binOp BinOp.neq 105 (Operand.tmp 4) (Operand.const (Value.int IntKind.u64 0)) 105), none⟩])
 (.cond (Operand.tmp 5) .skip (.exit 0)))
 (.seq (.block 1 (.reg [⟨some 10, (Op.move (Operand.tmp 3)), none⟩,
  ⟨some 11, (Op.move (Operand.tmp 0)), none⟩,
  ⟨some 12, (Op.call { callee := (Callee.value (Operand.func 103)), args := #[(Operand.tmp 11)], argTypes := #[104] }), none⟩,
  ⟨some 13, (Op.buildSlice 27 1 #[(0, (Operand.tmp 12))]), none⟩,
  ⟨some 14, (Op.call { callee := (Callee.builtin Builtin.append), args := #[(Operand.tmp 10), (Operand.tmp 13)], argTypes := #[27, 27] }), none⟩,
  ⟨some 3, (Op.assign (Operand.tmp 14)), none⟩]))
 (.reg [⟨some 6, (Op.move (Operand.tmp 0)), none⟩,
  ⟨some 7, (Op.move (Operand.tmp 0)), none⟩,
  ⟨some 8, (Op.binOp BinOp.sub 105 (Operand.tmp 7) (Operand.const (Value.int IntKind.u64 1)) 105), none⟩,
  ⟨some 9, (Op.binOp BinOp.and 105 (Operand.tmp 6) (Operand.tmp 8) 105), none⟩,
  ⟨some 0, (Op.assign (Operand.tmp 9)), none⟩])))))
 (.seq (.reg [⟨some 15, (Op.move (Operand.tmp 3)), none⟩,
  ⟨some 2, (Op.assign (Operand.tmp 15)), none⟩])
 .ret))))
theorem fn62 : FnFact Tryd.prog 62 16 [] [(ResultVar.tmp 2)] cd62 := ⟨by kernel_rfl, ⟨Tryd.f62, Tryd.func62, by kernel_rfl, by rfl, Tryd.ntmps62, congrArg Array.toList Tryd.results62⟩⟩
/-- examiner/conform.spans -/
def cd66 : CC := (.seq (.reg [⟨some 6, (Op.assign (Operand.const (Value.bool false))), none⟩])
 (.seq (.reg [⟨some 7, (Op.move (Operand.tmp 1)), none⟩,
  ⟨some 8, (Op.move (Operand.tmp 0)), none⟩,
  ⟨some 9, (Op.binOp BinOp.leq 3 (Operand.tmp 7) (Operand.tmp 8) 3), none⟩,
  ⟨some 10, (Op.move (Operand.tmp 9)), none⟩,
  ⟨some 11, (Op.move (Operand.tmp 0)), some (10, true)⟩,
  ⟨some 12, (Op.move (Operand.tmp 2)), some (10, true)⟩,
  ⟨some 13, (Op.binOp BinOp.leq 3 (Operand.tmp 11) (Operand.tmp 12) 3), some (10, true)⟩,
  ⟨some 14, (Op.pick (Operand.tmp 10) (Operand.tmp 13) (Operand.const (Value.bool false))), none⟩,
  ⟨some 6, (Op.assign (Operand.tmp 14)), none⟩])
 .ret))
theorem fn66 : FnFact Tryd.prog 66 15 [] [(ResultVar.tmp 6)] cd66 := ⟨by kernel_rfl, ⟨Tryd.f66, Tryd.func66, by kernel_rfl, by rfl, Tryd.ntmps66, congrArg Array.toList Tryd.results66⟩⟩
/-- examiner/conform.compareMoves -/
def cd67 : CC := (.seq (.reg [⟨some 2, (Op.box 113 (Operand.tmp 0)), none⟩,
  ⟨some 3, (Op.box 113 (Operand.tmp 1)), none⟩,
  ⟨some 4, (Op.assign (Operand.const (Value.int IntKind.i64 0))), none⟩])
 (.seq (.dr [⟨0, .F, ⟨some 5, (Op.fieldAddr 113 (Operand.tmp 2) 0), none⟩, [], false⟩,
  ⟨1, .R, ⟨some 6, (Op.load 3 (Operand.tmp 5)), none⟩, [], false⟩,
  ⟨2, .F, ⟨some 7, (Op.fieldAddr 113 (Operand.tmp 3) 0), none⟩, [], false⟩,
  ⟨3, .R, ⟨some 8, (Op.load 3 (Operand.tmp 7)), none⟩, [], false⟩,
  ⟨5, .F, ⟨some 10, (Op.fieldAddr 113 (Operand.tmp 2) 1), none⟩, [], false⟩,
  ⟨6, .F, ⟨some 11, (Op.load 3 (Operand.tmp 10)), none⟩, [], false⟩,
  ⟨7, .F, ⟨some 12, (Op.fieldAddr 113 (Operand.tmp 3) 1), none⟩, [], false⟩,
  ⟨8, .F, ⟨some 13, (Op.load 3 (Operand.tmp 12)), none⟩, [], false⟩,
  ⟨10, .F, ⟨some 15, (Op.fieldAddr 113 (Operand.tmp 2) 2), none⟩, [], false⟩,
  ⟨11, .F, ⟨some 16, (Op.load 3 (Operand.tmp 15)), none⟩, [], false⟩,
  ⟨12, .F, ⟨some 17, (Op.fieldAddr 113 (Operand.tmp 3) 2), none⟩, [], false⟩,
  ⟨13, .F, ⟨some 18, (Op.load 3 (Operand.tmp 17)), none⟩, [], false⟩,
  ⟨15, .F, ⟨some 20, (Op.fieldAddr 113 (Operand.tmp 2) 3), none⟩, [], false⟩,
  ⟨16, .F, ⟨some 21, (Op.load 3 (Operand.tmp 20)), none⟩, [], false⟩,
  ⟨17, .F, ⟨some 22, (Op.fieldAddr 113 (Operand.tmp 3) 3), none⟩, [], false⟩,
  ⟨18, .F, ⟨some 23, (Op.load 3 (Operand.tmp 22)), none⟩, [], false⟩,
  ⟨4, .E, ⟨some 9, (Op.call { callee := (Callee.value (Operand.func 106)), args := #[(Operand.tmp 6), (Operand.tmp 8)], argTypes := #[3, 3] }), none⟩, [], false⟩,
  ⟨9, .E, ⟨some 14, (Op.call { callee := (Callee.value (Operand.func 106)), args := #[(Operand.tmp 11), (Operand.tmp 13)], argTypes := #[3, 3] }), none⟩, [], false⟩,
  ⟨14, .E, ⟨some 19, (Op.call { callee := (Callee.value (Operand.func 106)), args := #[(Operand.tmp 16), (Operand.tmp 18)], argTypes := #[3, 3] }), none⟩, [], false⟩,
  ⟨19, .E, ⟨some 24, (Op.call { callee := (Callee.value (Operand.func 106)), args := #[(Operand.tmp 21), (Operand.tmp 23)], argTypes := #[3, 3] }), none⟩, [], false⟩,
  ⟨20, .F, ⟨some 25, (Op.buildSlice 27 4 #[(0, (Operand.tmp 9)), (1, (Operand.tmp 14)), (2, (Operand.tmp 19)), (3, (Operand.tmp 24))]), none⟩, [], false⟩,
  ⟨21, .E, ⟨some 26, (Op.call { callee := (Callee.value (Operand.func 105)), args := #[(Operand.tmp 25)], argTypes := #[27] }), none⟩, [], false⟩,
  ⟨22, .F, ⟨some 4, (Op.assign (Operand.tmp 26)), none⟩, [], false⟩])
 .ret))
theorem fn67 : FnFact Tryd.prog 67 27 [(1, [(0, 0), (1, 3), (2, 0), (3, 3), (5, 0), (6, 0), (7, 0), (8, 0), (10, 0), (11, 0), (12, 0), (13, 0), (15, 0), (16, 0), (17, 0), (18, 0), (4, 2), (9, 2), (14, 2), (19, 2), (20, 0), (21, 2), (22, 0)], [[], [0], [], [2], [0, 1, 2, 3], [], [5], [], [7], [0, 1, 2, 3, 4, 5, 6, 7, 8], [], [10], [], [12], [0, 1, 2, 3, 4, 5, 6, 7, 8, 9, 10, 11, 12, 13], [], [15], [], [17], [0, 1, 2, 3, 4, 5, 6, 7, 8, 9, 10, 11, 12, 13, 14, 15, 16, 17, 18], [0, 1, 2, 3, 4, 5, 6, 7, 8, 9, 10, 11, 12, 13, 14, 15, 16, 17, 18, 19], [0, 1, 2, 3, 4, 5, 6, 7, 8, 9, 10, 11, 12, 13, 14, 15, 16, 17, 18, 19, 20], [0, 1, 2, 3, 4, 5, 6, 7, 8, 9, 10, 11, 12, 13, 14, 15, 16, 17, 18, 19, 20, 21]])] [(ResultVar.tmp 4)] cd67 := ⟨by kernel_rfl, ⟨Tryd.f67, Tryd.func67, by kernel_rfl, by rfl, Tryd.ntmps67, congrArg Array.toList Tryd.results67⟩⟩
/-- examiner/examinerbase.CompareInts -/
def cd68 : CC := (.seq (.reg [⟨some 4, (Op.assign (Operand.const (Value.int IntKind.i64 0))), none⟩])
 (.seq (.seq (.reg [⟨some 5, (Op.assign (Operand.const (Value.int IntKind.i64 0))), none⟩])
 (.block 0 (.loop (.seq (.seq (.reg [⟨some 6, (Op.move (Operand.tmp 5)), none⟩,
  ⟨some 7, (Op.move (Operand.tmp 0)), none⟩,
  ⟨some 8, (Op.call { callee := (Callee.builtin Builtin.len), args := #[(Operand.tmp 7)], argTypes := #[27] }), none⟩,
  ⟨some 9, (Op.binOp BinOp.lss 3 (Operand.tmp 6) (Operand.tmp 8) 3), none⟩,
  ⟨some 10, (Op.move (Operand.tmp 9)), none⟩,
  ⟨some 11, (Op.move (Operand.tmp 5)), some (10, true)⟩,
  ⟨some 12, (Op.move (Operand.tmp 1)), some (10, true)⟩,
  ⟨some 13, (Op.call { callee := (Callee.builtin Builtin.len), args := #[(Operand.tmp 12)], argTypes := #[27] }), some (10, true)⟩,
  ⟨some 14, (Op.binOp BinOp.lss 3 (Operand.tmp 11) (Operand.tmp 13) 3), some (10, true)⟩,
  ⟨some 15, (Op.pick (Operand.tmp 10) (Operand.tmp 14) (Operand.const (Value.bool false))), none⟩])
 (.cond (Operand.tmp 15) .skip (.exit 0)))
 (.seq (.block 1 (.seq (.dr [⟨0, .F, ⟨some 18, (Op.move (Operand.tmp 0)), none⟩, [], false⟩,
  ⟨1, .F, ⟨some 19, (Op.move (Operand.tmp 5)), none⟩, [], false⟩,
  ⟨2, .F, ⟨some 20, (Op.indexAddr 27 (Operand.tmp 18) (Operand.tmp 19)), none⟩, [], false⟩,
  ⟨3, .R, ⟨some 21, (Op.load 3 (Operand.tmp 20)), none⟩, [], false⟩,
  ⟨4, .F, ⟨some 22, (Op.move (Operand.tmp 1)), none⟩, [], false⟩,
  ⟨5, .F, ⟨some 23, (Op.move (Operand.tmp 5)), none⟩, [], false⟩,
  ⟨6, .F, ⟨some 24, (Op.indexAddr 27 (Operand.tmp 22) (Operand.tmp 23)), none⟩, [], false⟩,
  ⟨7, .R, ⟨some 25, (Op.load 3 (Operand.tmp 24)), none⟩, [], false⟩,
  ⟨8, .F, ⟨some 26, (Op.binOp BinOp.neq 3 (Operand.tmp 21) (Operand.tmp 25) 3), none⟩, [], false⟩])
 (.cond (Operand.tmp 26) (.seq (.dr [⟨0, .F, ⟨some 27, (Op.move (Operand.tmp 0)), none⟩, [], false⟩,
  ⟨1, .F, ⟨some 28, (Op.move (Operand.tmp 5)), none⟩, [], false⟩,
  ⟨2, .F, ⟨some 29, (Op.indexAddr 27 (Operand.tmp 27) (Operand.tmp 28)), none⟩, [], false⟩,
  ⟨3, .R, ⟨some 30, (Op.load 3 (Operand.tmp 29)), none⟩, [], false⟩,
  ⟨4, .F, ⟨some 31, (Op.move (Operand.tmp 1)), none⟩, [], false⟩,
  ⟨5, .F, ⟨some 32, (Op.move (Operand.tmp 5)), none⟩, [], false⟩,
  ⟨6, .F, ⟨some 33, (Op.indexAddr 27 (Operand.tmp 31) (Operand.tmp 32)), none⟩, [], false⟩,
  ⟨7, .R, ⟨some 34, (Op.load 3 (Operand.tmp 33)), none⟩, [], false⟩,
  ⟨8, .F, ⟨some 35, (Op.binOp BinOp.gtr 3 (Operand.tmp 30) (Operand.tmp 34) 3), none⟩, [], false⟩,
  ⟨9, .E, ⟨some 36, (Op.call { callee := (Callee.value (Operand.func 107)), args := #[(Operand.tmp 35)], argTypes := #[4] }), none⟩, [], false⟩,
  ⟨10, .F, ⟨some 37, (Op.binOp BinOp.mul 3 (Operand.const (Value.int IntKind.i64 2)) (Operand.tmp 36) 3), none⟩, [], false⟩,
  ⟨11, .F, ⟨some 38, (Op.binOp BinOp.sub 3 (Operand.tmp 37) (Operand.const (Value.int IntKind.i64 1)) 3), none⟩, [], false⟩,
  ⟨12, .F, ⟨some 4, (Op.assign (Operand.tmp 38)), none⟩, [], false⟩])
 .ret) .skip)))
 (.reg [⟨some 16, (Op.move (Operand.tmp 5)), none⟩,
  ⟨some 17, (Op.binOp BinOp.add 3 (Operand.tmp 16) (Operand.const (Value.int IntKind.i64 1)) 3), none⟩,
  ⟨some 5, (Op.assign (Operand.tmp 17)), none⟩]))))))
 (.seq (.reg [⟨some 39, (Op.move (Operand.tmp 0)), none⟩,
  ⟨some 40, (Op.call { callee := (Callee.builtin Builtin.len), args := #[(Operand.tmp 39)], argTypes := #[27] }), none⟩,
  ⟨some 41, (Op.move (Operand.tmp 1)), none⟩,
  ⟨some 42, (Op.call { callee := (Callee.builtin Builtin.len), args := #[(Operand.tmp 41)], argTypes := #[27] }), none⟩,
  ⟨some 43, (Op.binOp BinOp.gtr 3 (Operand.tmp 40) (Operand.tmp 42) 3), none⟩,
  ⟨some 44, (Op.call { callee := (Callee.value (Operand.func 107)), args := #[(Operand.tmp 43)], argTypes := #[4] }), none⟩,
  ⟨some 45, (Op.move (Operand.tmp 0)), none⟩,
  ⟨some 46, (Op.call { callee := (Callee.builtin Builtin.len), args := #[(Operand.tmp 45)], argTypes := #[27] }), none⟩,
  ⟨some 47, (Op.move (Operand.tmp 1)), none⟩,
  ⟨some 48, (Op.call { callee := (Callee.builtin Builtin.len), args := #[(Operand.tmp 47)], argTypes := #[27] }), none⟩,
  ⟨some 49, (Op.binOp BinOp.lss 3 (Operand.tmp 46) (Operand.tmp 48) 3), none⟩,
  ⟨some 50, (Op.call { callee := (Callee.value (Operand.func 107)), args := #[(Operand.tmp 49)], argTypes := #[4] }), none⟩,
  ⟨some 51, (Op.binOp BinOp.sub 3 (Operand.tmp 44) (Operand.tmp 50) 3), none⟩,
  ⟨some 4, (Op.assign (Operand.tmp 51)), none⟩])
 .ret)))
theorem fn68 : FnFact Tryd.prog 68 52 [(4, [(0, 0), (1, 0), (2, 0), (3, 3), (4, 0), (5, 0), (6, 0), (7, 3), (8, 0)], [[], [], [0, 1], [0, 1, 2], [], [], [4, 5], [4, 5, 6], [0, 1, 2, 3, 4, 5, 6, 7]]), (5, [(0, 0), (1, 0), (2, 0), (3, 3), (4, 0), (5, 0), (6, 0), (7, 3), (8, 0), (9, 2), (10, 0), (11, 0), (12, 0)], [[], [], [0, 1], [0, 1, 2], [], [], [4, 5], [4, 5, 6], [0, 1, 2, 3, 4, 5, 6, 7], [0, 1, 2, 3, 4, 5, 6, 7, 8], [0, 1, 2, 3, 4, 5, 6, 7, 8, 9], [0, 1, 2, 3, 4, 5, 6, 7, 8, 9, 10], [0, 1, 2, 3, 4, 5, 6, 7, 8, 9, 10, 11]])] [(ResultVar.tmp 4)] cd68 := ⟨by kernel_rfl, ⟨Tryd.f68, Tryd.func68, by kernel_rfl, by rfl, Tryd.ntmps68, congrArg Array.toList Tryd.results68⟩⟩
/-- examiner/examinerref42.list -/
def cd69 : CC := (.seq (.reg [⟨some 1, (Op.box 113 (Operand.tmp 0)), none⟩,
  ⟨some 2, (Op.assign (Operand.const (Value.slice none 0 0))), none⟩])
 (.seq (.reg [⟨some 3, (Op.fieldAddr 113 (Operand.tmp 1) 0), none⟩,
  ⟨some 4, (Op.load 3 (Operand.tmp 3)), none⟩,
  ⟨some 5, (Op.fieldAddr 113 (Operand.tmp 1) 1), none⟩,
  ⟨some 6, (Op.load 3 (Operand.tmp 5)), none⟩,
  ⟨some 7, (Op.fieldAddr 113 (Operand.tmp 1) 2), none⟩,
  ⟨some 8, (Op.load 3 (Operand.tmp 7)), none⟩,
  ⟨some 9, (Op.fieldAddr 113 (Operand.tmp 1) 3), none⟩,
  ⟨some 10, (Op.load 3 (Operand.tmp 9)), none⟩,
  ⟨some 11, (Op.buildSlice 27 4 #[(0, (Operand.tmp 4)), (1, (Operand.tmp 6)), (2, (Operand.tmp 8)), (3, (Operand.tmp 10))]), none⟩,
  ⟨some 2, (Op.assign (Operand.tmp 11)), none⟩])
 .ret))
theorem fn69 : FnFact Tryd.prog 69 12 [] [(ResultVar.tmp 2)] cd69 := ⟨by kernel_rfl, ⟨Tryd.f69, Tryd.func69, by kernel_rfl, by rfl, Tryd.ntmps69, congrArg Array.toList Tryd.results69⟩⟩
/-- examiner/conform.systemErr -/
def cd70 : CC := (.seq (.reg [⟨some 1, (Op.box 24 (Operand.tmp 0)), none⟩,
  ⟨some 2, (Op.assign (Operand.const (Value.int IntKind.i64 0))), none⟩])
 (.seq (.reg [⟨some 6, (Op.load 24 (Operand.tmp 1)), none⟩,
  ⟨some 7, (Op.call { callee := (Callee.value (Operand.func 23)), args := #[(Operand.tmp 6)], argTypes := #[24] }), none⟩,
  ⟨some 5, (Op.move (Operand.tmp 7)), none⟩,
  ⟨some 8, (Op.extract (Operand.tmp 5) 0), none⟩,
  ⟨some 9, (Op.extract (Operand.tmp 5) 1), none⟩,
  ⟨some 3, (Op.assign (Operand.tmp 8)), none⟩,
  ⟨some 4, (Op.assign (Operand.tmp 9)), none⟩])
 (.seq (.reg [⟨some 10, (Op.move (Operand.tmp 4)), none⟩,
  ⟨some 2, (Op.assign (Operand.tmp 10)), none⟩])
 .ret)))
theorem fn70 : FnFact Tryd.prog 70 11 [] [(ResultVar.tmp 2)] cd70 := ⟨by kernel_rfl, ⟨Tryd.f70, Tryd.func70, by kernel_rfl, by rfl, Tryd.ntmps70, congrArg Array.toList Tryd.results70⟩⟩
/-- examiner/conform.systemOf -/
def cd71 : CC := (.seq (.reg [⟨some 1, (Op.box 24 (Operand.tmp 0)), none⟩,
  ⟨some 2, (Op.assign (Operand.const (Value.pointer none))), none⟩])
 (.seq (.dr [⟨0, .R, ⟨some 7, (Op.load 24 (Operand.tmp 1)), none⟩, [], false⟩,
  ⟨1, .F, ⟨some 8, (Op.fieldAddr 24 (Operand.tmp 1) 0), none⟩, [], false⟩,
  ⟨2, .R, ⟨some 9, (Op.load 3 (Operand.tmp 8)), none⟩, [], false⟩,
  ⟨3, .A, ⟨some 10, (Op.makeSlice 123 (Operand.tmp 9) (Operand.tmp 9)), none⟩, [], false⟩,
  ⟨4, .F, ⟨some 11, (Op.build 125 #[(0, (Operand.tmp 7)), (2, (Operand.tmp 10))]), none⟩, [], false⟩,
  ⟨5, .A, ⟨some 12, (Op.box 125 (Operand.tmp 11)), none⟩, [], false⟩,
  ⟨6, .F, ⟨some 3, (Op.assign (Operand.tmp 12)), none⟩, [], false⟩])
 (.seq (.seq (.reg [⟨some 13, (Op.fieldAddr 24 (Operand.tmp 1) 0), none⟩,
  ⟨some 14, (Op.load 3 (Operand.tmp 13)), none⟩,
  ⟨some 15, (Op.move (Operand.const (Value.int IntKind.i64 0))), none⟩])
 (.block 0 (.loop (.seq (.reg [⟨some 16, (Op.binOp BinOp.lss 3 (Operand.tmp 15) (Operand.tmp 14) 3), none⟩])
 (.seq (.cond (Operand.tmp 16) .skip (.exit 0))
 (.seq (.block 1 (.dr [⟨0, .F, ⟨some 17, (Op.move (Operand.tmp 3)), none⟩, [], false⟩,
  ⟨1, .F, ⟨some 18, (Op.move (Operand.tmp 3)), none⟩, [], false⟩,
  ⟨2, .F, ⟨some 19, (Op.nilCheck (Operand.tmp 18)), none⟩, [], false⟩,
  ⟨3, .F, ⟨some 20, (Op.fieldAddr 125 (Operand.tmp 19) 1), none⟩, [], false⟩,
  ⟨4, .R, ⟨some 21, (Op.load 122 (Operand.tmp 20)), none⟩, [], false⟩,
  ⟨5, .F, ⟨some 22, (Op.fieldAddr 24 (Operand.tmp 1) 2), none⟩, [], false⟩,
  ⟨6, .R, ⟨some 23, (Op.load 3 (Operand.tmp 22)), none⟩, [], false⟩,
  ⟨7, .F, ⟨some 24, (Op.fieldAddr 24 (Operand.tmp 1) 3), none⟩, [], false⟩,
  ⟨8, .R, ⟨some 25, (Op.load 3 (Operand.tmp 24)), none⟩, [], false⟩,
  ⟨9, .F, ⟨some 26, (Op.binOp BinOp.add 3 (Operand.tmp 23) (Operand.tmp 25) 3), none⟩, [], false⟩,
  ⟨10, .A, ⟨some 27, (Op.makeSlice 123 (Operand.tmp 26) (Operand.tmp 26)), none⟩, [], false⟩,
  ⟨11, .F, ⟨some 28, (Op.buildSlice 122 1 #[(0, (Operand.tmp 27))]), none⟩, [], false⟩,
  ⟨12, .E, ⟨some 29, (Op.call { callee := (Callee.builtin Builtin.append), args := #[(Operand.tmp 21), (Operand.tmp 28)], argTypes := #[122, 122] }), none⟩, [10], false⟩,
  ⟨13, .F, ⟨some 30, (Op.nilCheck (Operand.tmp 17)), none⟩, [], false⟩,
  ⟨14, .F, ⟨some 31, (Op.fieldAddr 125 (Operand.tmp 30) 1), none⟩, [], false⟩,
  ⟨15, .E, ⟨none, (Op.store 122 (Operand.tmp 31) (Operand.tmp 29)), none⟩, [10], false⟩]))
 (.reg [⟨some 32, (Op.binOp BinOp.add 3 (Operand.tmp 15) (Operand.const (Value.int IntKind.i64 1)) 3), none⟩,
  ⟨some 15, (Op.move (Operand.tmp 32)), none⟩])))))))
 (.seq (.seq (.reg [⟨some 33, (Op.fieldAddr 24 (Operand.tmp 1) 4), none⟩,
  ⟨some 34, (Op.load 22 (Operand.tmp 33)), none⟩,
  ⟨some 35, (Op.call { callee := (Callee.builtin Builtin.len), args := #[(Operand.tmp 34)], argTypes := #[22] }), none⟩,
  ⟨some 36, (Op.move (Operand.const (Value.int IntKind.i64 0))), none⟩])
 (.block 2 (.loop (.seq (.reg [⟨some 37, (Op.binOp BinOp.lss 3 (Operand.tmp 36) (Operand.tmp 35) 3), none⟩])
 (.seq (.cond (Operand.tmp 37) .skip (.exit 2))
 (.seq (.block 3 (.seq (.reg [⟨some 38, (Op.indexAddr 22 (Operand.tmp 34) (Operand.tmp 36)), none⟩,
  ⟨some 39, (Op.load 113 (Operand.tmp 38)), none⟩,
  ⟨some 5, (Op.alloc 113), none⟩,
  ⟨none, (Op.store 113 (Operand.tmp 5) (Operand.tmp 39)), none⟩])
 (.seq (.reg [⟨some 40, (Op.fieldAddr 113 (Operand.tmp 5) 3), none⟩,
  ⟨some 41, (Op.load 3 (Operand.tmp 40)), none⟩,
  ⟨some 42, (Op.binOp BinOp.shl 105 (Operand.const (Value.int IntKind.u64 1)) (Operand.tmp 41) 3), none⟩,
  ⟨some 6, (Op.assign (Operand.tmp 42)), none⟩])
 (.seq (.reg [⟨some 43, (Op.fieldAddr 113 (Operand.tmp 5) 1), none⟩,
  ⟨some 44, (Op.load 3 (Operand.tmp 43)), none⟩])
 (.block 4 (.seq (.reg [⟨some 57, (Op.binOp BinOp.eql 3 (Operand.tmp 44) (Operand.const (Value.int IntKind.i64 0)) 3), none⟩,
  ⟨some 56, (Op.assign (Operand.tmp 57)), none⟩])
 (.cond (Operand.tmp 56) (.dr [⟨0, .F, ⟨some 58, (Op.move (Operand.tmp 3)), none⟩, [], false⟩,
  ⟨1, .F, ⟨some 59, (Op.nilCheck (Operand.tmp 58)), none⟩, [], false⟩,
  ⟨2, .F, ⟨some 60, (Op.fieldAddr 125 (Operand.tmp 59) 1), none⟩, [], false⟩,
  ⟨3, .R, ⟨some 61, (Op.load 122 (Operand.tmp 60)), none⟩, [], false⟩,
  ⟨4, .F, ⟨some 62, (Op.fieldAddr 113 (Operand.tmp 5) 0), none⟩, [], false⟩,
  ⟨5, .R, ⟨some 63, (Op.load 3 (Operand.tmp 62)), none⟩, [], false⟩,
  ⟨6, .F, ⟨some 64, (Op.indexAddr 122 (Operand.tmp 61) (Operand.tmp 63)), none⟩, [], false⟩,
  ⟨7, .R, ⟨some 65, (Op.load 123 (Operand.tmp 64)), none⟩, [], false⟩,
  ⟨8, .F, ⟨some 66, (Op.fieldAddr 113 (Operand.tmp 5) 2), none⟩, [], false⟩,
  ⟨9, .R, ⟨some 67, (Op.load 3 (Operand.tmp 66)), none⟩, [], false⟩,
  ⟨10, .F, ⟨some 68, (Op.indexAddr 123 (Operand.tmp 65) (Operand.tmp 67)), none⟩, [], false⟩,
  ⟨11, .R, ⟨some 69, (Op.load 105 (Operand.tmp 68)), none⟩, [], false⟩,
  ⟨12, .F, ⟨some 70, (Op.move (Operand.tmp 6)), none⟩, [], false⟩,
  ⟨13, .F, ⟨some 71, (Op.binOp BinOp.or 105 (Operand.tmp 69) (Operand.tmp 70) 105), none⟩, [], false⟩,
  ⟨14, .F, ⟨some 72, (Op.indexAddr 123 (Operand.tmp 65) (Operand.tmp 67)), none⟩, [], false⟩,
  ⟨15, .E, ⟨none, (Op.store 105 (Operand.tmp 72) (Operand.tmp 71)), none⟩, [], false⟩]) (.seq (.reg [⟨some 74, (Op.binOp BinOp.eql 3 (Operand.tmp 44) (Operand.const (Value.int IntKind.i64 1)) 3), none⟩,
  ⟨some 73, (Op.assign (Operand.tmp 74)), none⟩])
 (.cond (Operand.tmp 73) (.dr [⟨0, .F, ⟨some 75, (Op.move (Operand.tmp 3)), none⟩, [], false⟩,
  ⟨1, .F, ⟨some 76, (Op.nilCheck (Operand.tmp 75)), none⟩, [], false⟩,
  ⟨2, .F, ⟨some 77, (Op.fieldAddr 125 (Operand.tmp 76) 1), none⟩, [], false⟩,
  ⟨3, .R, ⟨some 78, (Op.load 122 (Operand.tmp 77)), none⟩, [], false⟩,
  ⟨4, .F, ⟨some 79, (Op.fieldAddr 113 (Operand.tmp 5) 0), none⟩, [], false⟩,
  ⟨5, .R, ⟨some 80, (Op.load 3 (Operand.tmp 79)), none⟩, [], false⟩,
  ⟨6, .F, ⟨some 81, (Op.indexAddr 122 (Operand.tmp 78) (Operand.tmp 80)), none⟩, [], false⟩,
  ⟨7, .R, ⟨some 82, (Op.load 123 (Operand.tmp 81)), none⟩, [], false⟩,
  ⟨8, .F, ⟨some 83, (Op.fieldAddr 24 (Operand.tmp 1) 2), none⟩, [], false⟩,
  ⟨9, .R, ⟨some 84, (Op.load 3 (Operand.tmp 83)), none⟩, [], false⟩,
  ⟨10, .F, ⟨some 85, (Op.fieldAddr 113 (Operand.tmp 5) 2), none⟩, [], false⟩,
  ⟨11, .R, ⟨some 86, (Op.load 3 (Operand.tmp 85)), none⟩, [], false⟩,
  ⟨12, .F, ⟨some 87, (Op.binOp BinOp.add 3 (Operand.tmp 84) (Operand.tmp 86) 3), none⟩, [], false⟩,
  ⟨13, .F, ⟨some 88, (Op.indexAddr 123 (Operand.tmp 82) (Operand.tmp 87)), none⟩, [], false⟩,
  ⟨14, .R, ⟨some 89, (Op.load 105 (Operand.tmp 88)), none⟩, [], false⟩,
  ⟨15, .F, ⟨some 90, (Op.move (Operand.tmp 6)), none⟩, [], false⟩,
  ⟨16, .F, ⟨some 91, (Op.binOp BinOp.or 105 (Operand.tmp 89) (Operand.tmp 90) 105), none⟩, [], false⟩,
  ⟨17, .F, ⟨some 92, (Op.indexAddr 123 (Operand.tmp 82) (Operand.tmp 87)), none⟩, [], false⟩,
  ⟨18, .E, ⟨none, (Op.store 105 (Operand.tmp 92) (Operand.tmp 91)), none⟩, [], false⟩]) (.dr [⟨0, .F, ⟨some 45, (Op.move (Operand.tmp 3)), none⟩, [], false⟩,
  ⟨1, .F, ⟨some 46, (Op.nilCheck (Operand.tmp 45)), none⟩, [], false⟩,
  ⟨2, .F, ⟨some 47, (Op.fieldAddr 125 (Operand.tmp 46) 2), none⟩, [], false⟩,
  ⟨3, .R, ⟨some 48, (Op.load 123 (Operand.tmp 47)), none⟩, [], false⟩,
  ⟨4, .F, ⟨some 49, (Op.fieldAddr 113 (Operand.tmp 5) 0), none⟩, [], false⟩,
  ⟨5, .R, ⟨some 50, (Op.load 3 (Operand.tmp 49)), none⟩, [], false⟩,
  ⟨6, .F, ⟨some 51, (Op.indexAddr 123 (Operand.tmp 48) (Operand.tmp 50)), none⟩, [], false⟩,
  ⟨7, .R, ⟨some 52, (Op.load 105 (Operand.tmp 51)), none⟩, [], false⟩,
  ⟨8, .F, ⟨some 53, (Op.move (Operand.tmp 6)), none⟩, [], false⟩,
  ⟨9, .F, ⟨some 54, (Op.binOp BinOp.or 105 (Operand.tmp 52) (Operand.tmp 53) 105), none⟩, [], false⟩,
  ⟨10, .F, ⟨some 55, (Op.indexAddr 123 (Operand.tmp 48) (Operand.tmp 50)), none⟩, [], false⟩,
  ⟨11, .E, ⟨none, (Op.store 105 (Operand.tmp 55) (Operand.tmp 54)), none⟩, [], false⟩]))))))))))
 (.reg [⟨some 93, (Op.binOp BinOp.add 3 (Operand.tmp 36) (Operand.const (Value.int IntKind.i64 1)) 3), none⟩,
  ⟨some 36, (Op.move (Operand.tmp 93)), none⟩])))))))
 (.seq (.reg [⟨some 94, (Op.move (Operand.tmp 3)), none⟩,
  ⟨some 2, (Op.assign (Operand.tmp 94)), none⟩])
 .ret)))))
theorem fn71 : FnFact Tryd.prog 71 95 [(1, [(0, 3), (1, 0), (2, 3), (3, 1), (4, 0), (5, 1), (6, 0)], [[], [], [1], [1, 2], [0, 1, 2, 3], [0, 1, 2, 3, 4], [0, 1, 2, 3, 4, 5]]), (4, [(0, 0), (1, 0), (2, 0), (3, 0), (4, 3), (5, 0), (6, 3), (7, 0), (8, 3), (9, 0), (10, 1), (11, 0), (12, 2), (13, 0), (14, 0), (15, 2)], [[], [], [1], [1, 2], [1, 2, 3], [], [5], [], [7], [5, 6, 7, 8], [5, 6, 7, 8, 9], [5, 6, 7, 8, 9, 10], [1, 2, 3, 4, 5, 6, 7, 8, 9, 10, 11], [0, 1, 2, 3, 4, 5, 6, 7, 8, 9, 10, 11, 12], [0, 1, 2, 3, 4, 5, 6, 7, 8, 9, 10, 11, 12, 13], [0, 1, 2, 3, 4, 5, 6, 7, 8, 9, 10, 11, 12, 13, 14]]), (13, [(0, 0), (1, 0), (2, 0), (3, 3), (4, 0), (5, 3), (6, 0), (7, 3), (8, 0), (9, 3), (10, 0), (11, 3), (12, 0), (13, 0), (14, 0), (15, 2)], [[], [0], [0, 1], [0, 1, 2], [], [4], [0, 1, 2, 3, 4, 5], [0, 1, 2, 3, 4, 5, 6], [], [8], [0, 1, 2, 3, 4, 5, 6, 7, 8, 9], [0, 1, 2, 3, 4, 5, 6, 7, 8, 9, 10], [], [0, 1, 2, 3, 4, 5, 6, 7, 8, 9, 10, 11, 12], [0, 1, 2, 3, 4, 5, 6, 7, 8, 9, 10, 11, 12, 13], [0, 1, 2, 3, 4, 5, 6, 7, 8, 9, 10, 11, 12, 13, 14]]), (15, [(0, 0), (1, 0), (2, 0), (3, 3), (4, 0), (5, 3), (6, 0), (7, 3), (8, 0), (9, 3), (10, 0), (11, 3), (12, 0), (13, 0), (14, 3), (15, 0), (16, 0), (17, 0), (18, 2)], [[], [0], [0, 1], [0, 1, 2], [], [4], [0, 1, 2, 3, 4, 5], [0, 1, 2, 3, 4, 5, 6], [], [8], [], [10], [8, 9, 10, 11], [0, 1, 2, 3, 4, 5, 6, 7, 8, 9, 10, 11, 12], [0, 1, 2, 3, 4, 5, 6, 7, 8, 9, 10, 11, 12, 13], [], [0, 1, 2, 3, 4, 5, 6, 7, 8, 9, 10, 11, 12, 13, 14, 15], [0, 1, 2, 3, 4, 5, 6, 7, 8, 9, 10, 11, 12, 13, 14, 15, 16], [0, 1, 2, 3, 4, 5, 6, 7, 8, 9, 10, 11, 12, 13, 14, 15, 16, 17]]), (11, [(0, 0), (1, 0), (2, 0), (3, 3), (4, 0), (5, 3), (6, 0), (7, 3), (8, 0), (9, 0), (10, 0), (11, 2)], [[], [0], [0, 1], [0, 1, 2], [], [4], [0, 1, 2, 3, 4, 5], [0, 1, 2, 3, 4, 5, 6], [], [0, 1, 2, 3, 4, 5, 6, 7, 8], [0, 1, 2, 3, 4, 5, 6, 7, 8, 9], [0, 1, 2, 3, 4, 5, 6, 7, 8, 9, 10]])] [(ResultVar.tmp 2)] cd71 := ⟨by kernel_rfl, ⟨Tryd.f71, Tryd.func71, by kernel_rfl, by rfl, Tryd.ntmps71, congrArg Array.toList Tryd.results71⟩⟩
/-- (*examiner/conform.system).first -/
def cd72 : CC := (.seq (.reg [⟨some 2, (Op.assign (Operand.const (Value.int IntKind.u64 0))), none⟩])
 (.seq (.reg [⟨some 3, (Op.move (Operand.tmp 0)), none⟩,
  ⟨some 4, (Op.move (Operand.tmp 0)), none⟩,
  ⟨some 5, (Op.nilCheck (Operand.tmp 4)), none⟩,
  ⟨some 6, (Op.fieldAddr 125 (Operand.tmp 5) 0), none⟩,
  ⟨some 7, (Op.fieldAddr 24 (Operand.tmp 6) 1), none⟩,
  ⟨some 8, (Op.load 3 (Operand.tmp 7)), none⟩,
  ⟨some 9, (Op.binOp BinOp.shl 105 (Operand.const (Value.int IntKind.u64 1)) (Operand.tmp 8) 3), none⟩,
  ⟨some 10, (Op.call { callee := (Callee.value (Operand.func 75)), args := #[(Operand.tmp 3), (Operand.tmp 9)], argTypes := #[99, 105] }), none⟩,
  ⟨some 2, (Op.assign (Operand.tmp 10)), none⟩])
 .ret))
theorem fn72 : FnFact Tryd.prog 72 11 [] [(ResultVar.tmp 2)] cd72 := ⟨by kernel_rfl, ⟨Tryd.f72, Tryd.func72, by kernel_rfl, by rfl, Tryd.ntmps72, congrArg Array.toList Tryd.results72⟩⟩
/-- (*examiner/conform.system).silence -/
def cd73 : CC := (.seq (.reg [⟨some 2, (Op.assign (Operand.const (Value.int IntKind.i64 0))), none⟩])
 (.seq (.dr [⟨0, .F, ⟨some 3, (Op.move (Operand.tmp 0)), none⟩, [], false⟩,
  ⟨1, .F, ⟨some 4, (Op.nilCheck (Operand.tmp 3)), none⟩, [], false⟩,
  ⟨2, .F, ⟨some 5, (Op.fieldAddr 125 (Operand.tmp 4) 0), none⟩, [], false⟩,
  ⟨3, .F, ⟨some 6, (Op.fieldAddr 24 (Operand.tmp 5) 2), none⟩, [], false⟩,
  ⟨4, .R, ⟨some 7, (Op.load 3 (Operand.tmp 6)), none⟩, [], false⟩,
  ⟨5, .F, ⟨some 8, (Op.move (Operand.tmp 0)), none⟩, [], false⟩,
  ⟨6, .F, ⟨some 9, (Op.nilCheck (Operand.tmp 8)), none⟩, [], false⟩,
  ⟨7, .F, ⟨some 10, (Op.fieldAddr 125 (Operand.tmp 9) 0), none⟩, [], false⟩,
  ⟨8, .F, ⟨some 11, (Op.fieldAddr 24 (Operand.tmp 10) 3), none⟩, [], false⟩,
  ⟨9, .R, ⟨some 12, (Op.load 3 (Operand.tmp 11)), none⟩, [], false⟩,
  ⟨10, .F, ⟨some 13, (Op.binOp BinOp.add 3 (Operand.tmp 7) (Operand.tmp 12) 3), none⟩, [], false⟩,
  ⟨11, .F, ⟨some 2, (Op.assign (Operand.tmp 13)), none⟩, [], false⟩])
 .ret))
theorem fn73 : FnFact Tryd.prog 73 14 [(1, [(0, 0), (1, 0), (2, 0), (3, 0), (4, 3), (5, 0), (6, 0), (7, 0), (8, 0), (9, 3), (10, 0), (11, 0)], [[], [0], [0, 1], [0, 1, 2], [0, 1, 2, 3], [], [5], [5, 6], [5, 6, 7], [5, 6, 7, 8], [0, 1, 2, 3, 4, 5, 6, 7, 8, 9], [0, 1, 2, 3, 4, 5, 6, 7, 8, 9, 10]])] [(ResultVar.tmp 2)] cd73 := ⟨by kernel_rfl, ⟨Tryd.f73, Tryd.func73, by kernel_rfl, by rfl, Tryd.ntmps73, congrArg Array.toList Tryd.results73⟩⟩
/-- (*examiner/conform.system).after -/
def cd74 : CC := (.seq (.reg [⟨some 6, (Op.assign (Operand.const (Value.int IntKind.u64 0))), none⟩])
 (.seq (.reg [⟨some 7, (Op.assign (Operand.const (Value.int IntKind.u64 0))), none⟩])
 (.seq (.seq (.reg [⟨some 10, (Op.move (Operand.tmp 1)), none⟩,
  ⟨some 11, (Op.call { callee := (Callee.value (Operand.func 62)), args := #[(Operand.tmp 10)], argTypes := #[105] }), none⟩,
  ⟨some 12, (Op.call { callee := (Callee.builtin Builtin.len), args := #[(Operand.tmp 11)], argTypes := #[27] }), none⟩,
  ⟨some 13, (Op.move (Operand.const (Value.int IntKind.i64 0))), none⟩])
 (.block 0 (.loop (.seq (.reg [⟨some 14, (Op.binOp BinOp.lss 3 (Operand.tmp 13) (Operand.tmp 12) 3), none⟩])
 (.seq (.cond (Operand.tmp 14) .skip (.exit 0))
 (.seq (.block 1 (.seq (.reg [⟨some 15, (Op.indexAddr 27 (Operand.tmp 11) (Operand.tmp 13)), none⟩,
  ⟨some 16, (Op.load 3 (Operand.tmp 15)), none⟩,
  ⟨some 9, (Op.assign (Operand.tmp 16)), none⟩])
 (.block 2 (.seq (.reg [⟨some 18, (Op.move (Operand.tmp 2)), none⟩,
  ⟨some 19, (Op.move (Operand.tmp 0)), none⟩,
  ⟨some 20, (Op.call { callee := (Callee.value (Operand.func 73)), args := #[(Operand.tmp 19)], argTypes := #[99] }), none⟩,
  ⟨some 21, (Op.binOp BinOp.lss 3 (Operand.tmp 18) (Operand.tmp 20) 3), none⟩,
  ⟨some 17, (Op.assign (Operand.tmp 21)), none⟩])
 (.cond (Operand.tmp 17) (.reg [⟨some 22, (Op.move (Operand.tmp 7)), none⟩,
  ⟨some 23, (Op.move (Operand.tmp 0)), none⟩,
  ⟨some 24, (Op.nilCheck (Operand.tmp 23)), none⟩,
  ⟨some 25, (Op.fieldAddr 125 (Operand.tmp 24) 1), none⟩,
  ⟨some 26, (Op.load 122 (Operand.tmp 25)), none⟩,
  ⟨some 27, (Op.move (Operand.tmp 9)), none⟩,
  ⟨some 28, (Op.indexAddr 122 (Operand.tmp 26) (Operand.tmp 27)), none⟩,
  ⟨some 29, (Op.load 123 (Operand.tmp 28)), none⟩,
  ⟨some 30, (Op.move (Operand.tmp 2)), none⟩,
  ⟨some 31, (Op.indexAddr 123 (Operand.tmp 29) (Operand.tmp 30)), none⟩,
  ⟨some 32, (Op.load 105 (Operand.tmp 31)), none⟩,
  ⟨some 33, (Op.binOp BinOp.or 105 (Operand.tmp 22) (Operand.tmp 32) 105), none⟩,
  ⟨some 7, (Op.assign (Operand.tmp 33)), none⟩]) (.seq (.reg [⟨some 35, (Op.move (Operand.tmp 0)), none⟩,
  ⟨some 36, (Op.move (Operand.tmp 9)), none⟩,
  ⟨some 37, (Op.call { callee := (Callee.value (Operand.func 108)), args := #[(Operand.tmp 35), (Operand.tmp 36)], argTypes := #[99, 3] }), none⟩,
  ⟨some 34, (Op.assign (Operand.tmp 37)), none⟩])
 (.cond (Operand.tmp 34) (.reg [⟨some 38, (Op.move (Operand.tmp 7)), none⟩,
  ⟨some 39, (Op.move (Operand.tmp 9)), none⟩,
  ⟨some 40, (Op.binOp BinOp.shl 105 (Operand.const (Value.int IntKind.u64 1)) (Operand.tmp 39) 3), none⟩,
  ⟨some 41, (Op.binOp BinOp.or 105 (Operand.tmp 38) (Operand.tmp 40) 105), none⟩,
  ⟨some 7, (Op.assign (Operand.tmp 41)), none⟩]) .skip)))))))
 (.reg [⟨some 42, (Op.binOp BinOp.add 3 (Operand.tmp 13) (Operand.const (Value.int IntKind.i64 1)) 3), none⟩,
  ⟨some 13, (Op.move (Operand.tmp 42)), none⟩])))))))
 (.seq (.reg [⟨some 43, (Op.move (Operand.tmp 0)), none⟩,
  ⟨some 44, (Op.move (Operand.tmp 7)), none⟩,
  ⟨some 45, (Op.call { callee := (Callee.value (Operand.func 75)), args := #[(Operand.tmp 43), (Operand.tmp 44)], argTypes := #[99, 105] }), none⟩,
  ⟨some 6, (Op.assign (Operand.tmp 45)), none⟩])
 .ret))))
theorem fn74 : FnFact Tryd.prog 74 46 [] [(ResultVar.tmp 6)] cd74 := ⟨by kernel_rfl, ⟨Tryd.f74, Tryd.func74, by kernel_rfl, by rfl, Tryd.ntmps74, congrArg Array.toList Tryd.results74⟩⟩
/-- (*examiner/conform.system).closed -/
def cd75 : CC := (.seq (.reg [⟨some 4, (Op.assign (Operand.const (Value.int IntKind.u64 0))), none⟩])
 (.block 0 (.loop (.block 1 (.seq (.reg [⟨some 8, (Op.move (Operand.tmp 1)), none⟩,
  ⟨some 5, (Op.assign (Operand.tmp 8)), none⟩])
 (.seq (.seq (.reg [⟨some 9, (Op.move (Operand.tmp 1)), none⟩,
  ⟨some 10, (Op.call { callee := (Callee.value (Operand.func 62)), args := #[(Operand.tmp 9)], argTypes := #[105] }), none⟩,
  ⟨some 11, (Op.call { callee := (Callee.builtin Builtin.len), args := #[(Operand.tmp 10)], argTypes := #[27] }), none⟩,
  ⟨some 12, (Op.move (Operand.const (Value.int IntKind.i64 0))), none⟩])
 (.block 2 (.loop (.seq (.reg [⟨some 13, (Op.binOp BinOp.lss 3 (Operand.tmp 12) (Operand.tmp 11) 3), none⟩])
 (.seq (.cond (Operand.tmp 13) .skip (.exit 2))
 (.seq (.block 3 (.seq (.reg [⟨some 14, (Op.indexAddr 27 (Operand.tmp 10) (Operand.tmp 12)), none⟩,
  ⟨some 15, (Op.load 3 (Operand.tmp 14)), none⟩,
  ⟨some 7, (Op.assign (Operand.tmp 15)), none⟩])
 (.reg [⟨some 16, (Op.move (Operand.tmp 5)), none⟩,
  ⟨some 17, (Op.move (Operand.tmp 0)), none⟩,
  ⟨some 18, (Op.nilCheck (Operand.tmp 17)), none⟩,
  ⟨some 19, (Op.fieldAddr 125 (Operand.tmp 18) 2), none⟩,
  ⟨some 20, (Op.load 123 (Operand.tmp 19)), none⟩,
  ⟨some 21, (Op.move (Operand.tmp 7)), none⟩,
  ⟨some 22, (Op.indexAddr 123 (Operand.tmp 20) (Operand.tmp 21)), none⟩,
  ⟨some 23, (Op.load 105 (Operand.tmp 22)), none⟩,
  ⟨some 24, (Op.binOp BinOp.or 105 (Operand.tmp 16) (Operand.tmp 23) 105), none⟩,
  ⟨some 5, (Op.assign (Operand.tmp 24)), none⟩])))
 (.reg [⟨some 25, (Op.binOp BinOp.add 3 (Operand.tmp 12) (Operand.const (Value.int IntKind.i64 1)) 3), none⟩,
  ⟨some 12, (Op.move (Operand.tmp 25)), none⟩])))))))
 (.seq (.seq (.reg [⟨some 26, (Op.move (Operand.tmp 5)), none⟩,
  ⟨some 27, (Op.move (Operand.tmp 1)), none⟩,
  ⟨some 28, (Op.binOp BinOp.eql 105 (Operand.tmp 26) (Operand.tmp 27) 105), none⟩])
 (.cond (Operand.tmp 28) (.seq (.reg [⟨some 29, (Op.move (Operand.tmp 1)), none⟩,
  ⟨some 4, (Op.assign (Operand.tmp 29)), none⟩])
 .ret) .skip))
 (.reg [⟨some 30, (Op.move (Operand.tmp 5)), none⟩,
  ⟨some 1, (Op.assign (Operand.tmp 30)), none⟩]))))))))
theorem fn75 : FnFact Tryd.prog 75 31 [] [(ResultVar.tmp 4)] cd75 := ⟨by kernel_rfl, ⟨Tryd.f75, Tryd.func75, by kernel_rfl, by rfl, Tryd.ntmps75, congrArg Array.toList Tryd.results75⟩⟩
/-- examiner/conform.traceErr -/
def cd77 : CC := (.seq (.reg [⟨some 2, (Op.box 24 (Operand.tmp 0)), none⟩,
  ⟨some 4, (Op.assign (Operand.const (Value.int IntKind.i64 0))), none⟩])
 (.seq (.reg [⟨some 6, (Op.makeFunc (Fn.func 109) #[] #[(Operand.tmp 2)]), none⟩,
  ⟨some 5, (Op.assign (Operand.tmp 6)), none⟩])
 (.seq (.seq (.reg [⟨some 7, (Op.move (Operand.tmp 1)), none⟩,
  ⟨some 8, (Op.call { callee := (Callee.builtin Builtin.len), args := #[(Operand.tmp 7)], argTypes := #[27] }), none⟩,
  ⟨some 9, (Op.binOp BinOp.gtr 3 (Operand.tmp 8) (Operand.const (Value.int IntKind.i64 40)) 3), none⟩])
 (.cond (Operand.tmp 9) (.seq (.reg [⟨some 4, (Op.assign (Operand.const (Value.int IntKind.i64 2))), none⟩])
 .ret) .skip))
 (.seq (.reg [⟨some 10, (Op.move (Operand.tmp 1)), none⟩,
  ⟨some 11, (Op.move (Operand.tmp 5)), none⟩,
  ⟨some 12, (Op.call { callee := (Callee.value (Operand.func 110)), args := #[(Operand.tmp 10), (Operand.tmp 11)], argTypes := #[27, 156] }), none⟩,
  ⟨some 13, (Op.unOp UnOp.not 4 (Operand.tmp 12)), none⟩,
  ⟨some 14, (Op.call { callee := (Callee.value (Operand.func 61)), args := #[(Operand.tmp 13), (Operand.const (Value.int IntKind.i64 3))], argTypes := #[4, 28] }), none⟩,
  ⟨some 4, (Op.assign (Operand.tmp 14)), none⟩])
 .ret))))
theorem fn77 : FnFact Tryd.prog 77 15 [] [(ResultVar.tmp 4)] cd77 := ⟨by kernel_rfl, ⟨Tryd.f77, Tryd.func77, by kernel_rfl, by rfl, Tryd.ntmps77, congrArg Array.toList Tryd.results77⟩⟩
/-- (*examiner/conform.system).along -/
def cd78 : CC := (.seq (.reg [⟨some 4, (Op.assign (Operand.const (Value.int IntKind.u64 0))), none⟩])
 (.seq (.reg [⟨some 8, (Op.move (Operand.tmp 0)), none⟩,
  ⟨some 9, (Op.call { callee := (Callee.value (Operand.func 72)), args := #[(Operand.tmp 8)], argTypes := #[99] }), none⟩,
  ⟨some 5, (Op.assign (Operand.tmp 9)), none⟩])
 (.seq (.seq (.reg [⟨some 10, (Op.move (Operand.tmp 1)), none⟩,
  ⟨some 11, (Op.call { callee := (Callee.builtin Builtin.len), args := #[(Operand.tmp 10)], argTypes := #[27] }), none⟩,
  ⟨some 12, (Op.move (Operand.const (Value.int IntKind.i64 0))), none⟩])
 (.block 0 (.loop (.seq (.reg [⟨some 13, (Op.binOp BinOp.lss 3 (Operand.tmp 12) (Operand.tmp 11) 3), none⟩])
 (.seq (.cond (Operand.tmp 13) .skip (.exit 0))
 (.seq (.block 1 (.seq (.reg [⟨some 14, (Op.indexAddr 27 (Operand.tmp 10) (Operand.tmp 12)), none⟩,
  ⟨some 15, (Op.load 3 (Operand.tmp 14)), none⟩,
  ⟨some 7, (Op.assign (Operand.tmp 15)), none⟩])
 (.reg [⟨some 16, (Op.move (Operand.tmp 0)), none⟩,
  ⟨some 17, (Op.move (Operand.tmp 5)), none⟩,
  ⟨some 18, (Op.move (Operand.tmp 7)), none⟩,
  ⟨some 19, (Op.call { callee := (Callee.value (Operand.func 74)), args := #[(Operand.tmp 16), (Operand.tmp 17), (Operand.tmp 18)], argTypes := #[99, 105, 3] }), none⟩,
  ⟨some 5, (Op.assign (Operand.tmp 19)), none⟩])))
 (.reg [⟨some 20, (Op.binOp BinOp.add 3 (Operand.tmp 12) (Operand.const (Value.int IntKind.i64 1)) 3), none⟩,
  ⟨some 12, (Op.move (Operand.tmp 20)), none⟩])))))))
 (.seq (.reg [⟨some 21, (Op.move (Operand.tmp 5)), none⟩,
  ⟨some 4, (Op.assign (Operand.tmp 21)), none⟩])
 .ret))))
theorem fn78 : FnFact Tryd.prog 78 22 [] [(ResultVar.tmp 4)] cd78 := ⟨by kernel_rfl, ⟨Tryd.f78, Tryd.func78, by kernel_rfl, by rfl, Tryd.ntmps78, congrArg Array.toList Tryd.results78⟩⟩
/-- (*examiner/conform.system).shows -/
def cd80 : CC := (.seq (.reg [⟨some 6, (Op.assign (Operand.const (Value.bool false))), none⟩])
 (.seq (.reg [⟨some 7, (Op.move (Operand.tmp 2)), none⟩,
  ⟨some 8, (Op.move (Operand.tmp 0)), none⟩,
  ⟨some 9, (Op.nilCheck (Operand.tmp 8)), none⟩,
  ⟨some 10, (Op.fieldAddr 125 (Operand.tmp 9) 0), none⟩,
  ⟨some 11, (Op.fieldAddr 24 (Operand.tmp 10) 2), none⟩,
  ⟨some 12, (Op.load 3 (Operand.tmp 11)), none⟩,
  ⟨some 13, (Op.binOp BinOp.geq 3 (Operand.tmp 7) (Operand.tmp 12) 3), none⟩,
  ⟨some 14, (Op.move (Operand.tmp 13)), none⟩,
  ⟨some 15, (Op.move (Operand.tmp 0)), some (14, true)⟩,
  ⟨some 16, (Op.move (Operand.tmp 1)), some (14, true)⟩,
  ⟨some 17, (Op.move (Operand.tmp 2)), some (14, true)⟩,
  ⟨some 18, (Op.call { callee := (Callee.value (Operand.func 74)), args := #[(Operand.tmp 15), (Operand.tmp 16), (Operand.tmp 17)], argTypes := #[99, 105, 3] }), some (14, true)⟩,
  ⟨some 19, (Op.binOp BinOp.neq 105 (Operand.tmp 18) (Operand.const (Value.int IntKind.u64 0)) 105), some (14, true)⟩,
  ⟨some 20, (Op.pick (Operand.tmp 14) (Operand.tmp 19) (Operand.const (Value.bool false))), none⟩,
  ⟨some 6, (Op.assign (Operand.tmp 20)), none⟩])
 .ret))
theorem fn80 : FnFact Tryd.prog 80 21 [] [(ResultVar.tmp 6)] cd80 := ⟨by kernel_rfl, ⟨Tryd.f80, Tryd.func80, by kernel_rfl, by rfl, Tryd.ntmps80, congrArg Array.toList Tryd.results80⟩⟩
/-- cmp.Or[examiner/api.Errno] -/
def cd82 : CC := (.seq (.reg [⟨some 2, (Op.assign (Operand.const (Value.int IntKind.i64 0))), none⟩])
 (.seq (.reg [⟨some 3, (Op.assign (Operand.const (Value.int IntKind.i64 0))), none⟩])
 (.seq (.seq (.reg [⟨some 6, (Op.move (Operand.tmp 0)), none⟩,
  ⟨some 7, (Op.call { callee := (Callee.builtin Builtin.len), args := #[(Operand.tmp 6)], argTypes := #[165] }), none⟩,
  ⟨some 8, (Op.move (Operand.const (Value.int IntKind.i64 0))), none⟩])
 (.block 0 (.loop (.seq (.reg [⟨some 9, (Op.binOp BinOp.lss 3 (Operand.tmp 8) (Operand.tmp 7) 3), none⟩])
 (.seq (.cond (Operand.tmp 9) .skip (.exit 0))
 (.seq (.block 1 (.seq (.reg [⟨some 10, (Op.indexAddr 165 (Operand.tmp 6) (Operand.tmp 8)), none⟩,
  ⟨some 11, (Op.load 28 (Operand.tmp 10)), none⟩,
  ⟨some 5, (Op.assign (Operand.tmp 11)), none⟩])
 (.seq (.reg [⟨some 12, (Op.move (Operand.tmp 5)), none⟩,
  ⟨some 13, (Op.move (Operand.tmp 3)), none⟩,
  ⟨some 14, (Op.binOp BinOp.neq 28 (Operand.tmp 12) (Operand.tmp 13) 28), none⟩])
 (.cond (Operand.tmp 14) (.seq (.reg [⟨some 15, (Op.move (Operand.tmp 5)), none⟩,
  ⟨some 2, (Op.assign (Operand.tmp 15)), none⟩])
 .ret) .skip))))
 (.reg [⟨some 16, (Op.binOp BinOp.add 3 (Operand.tmp 8) (Operand.const (Value.int IntKind.i64 1)) 3), none⟩,
  ⟨some 8, (Op.move (Operand.tmp 16)), none⟩])))))))
 (.seq (.reg [⟨some 17, (Op.move (Operand.tmp 3)), none⟩,
  ⟨some 2, (Op.assign (Operand.tmp 17)), none⟩])
 .ret))))
theorem fn82 : FnFact Tryd.prog 82 18 [] [(ResultVar.tmp 2)] cd82 := ⟨by kernel_rfl, ⟨Tryd.f82, Tryd.func82, by kernel_rfl, by rfl, Tryd.ntmps82, congrArg Array.toList Tryd.results82⟩⟩
/-- (*examiner/conform.compared).fails -/
def cd87 : CC := (.seq (.reg [⟨some 3, (Op.box 107 (Operand.tmp 1)), none⟩,
  ⟨some 4, (Op.assign (Operand.const (Value.int IntKind.i64 0))), none⟩,
  ⟨some 5, (Op.assign (Operand.const (Value.bool false))), none⟩])
 (.seq (.seq (.reg [⟨some 7, (Op.move (Operand.tmp 0)), none⟩,
  ⟨some 8, (Op.nilCheck (Operand.tmp 7)), none⟩,
  ⟨some 9, (Op.fieldAddr 103 (Operand.tmp 8) 0), none⟩,
  ⟨some 10, (Op.load 99 (Operand.tmp 9)), none⟩,
  ⟨some 11, (Op.nilCheck (Operand.tmp 10)), none⟩,
  ⟨some 12, (Op.fieldAddr 125 (Operand.tmp 11) 0), none⟩,
  ⟨some 13, (Op.fieldAddr 24 (Operand.tmp 12) 2), none⟩,
  ⟨some 14, (Op.load 3 (Operand.tmp 13)), none⟩,
  ⟨some 6, (Op.assign (Operand.tmp 14)), none⟩])
 (.block 0 (.loop (.seq (.seq (.reg [⟨some 15, (Op.move (Operand.tmp 6)), none⟩,
  ⟨some 16, (Op.move (Operand.tmp 0)), none⟩,
  ⟨some 17, (Op.nilCheck (Operand.tmp 16)), none⟩,
  ⟨some 18, (Op.fieldAddr 103 (Operand.tmp 17) 0), none⟩,
  ⟨some 19, (Op.load 99 (Operand.tmp 18)), none⟩,
  ⟨some 20, (Op.call { callee := (Callee.value (Operand.func 73)), args := #[(Operand.tmp 19)], argTypes := #[99] }), none⟩,
  ⟨some 21, (Op.binOp BinOp.leq 3 (Operand.tmp 15) (Operand.tmp 20) 3), none⟩])
 (.cond (Operand.tmp 21) .skip (.exit 0)))
 (.seq (.block 1 (.seq (.dr [⟨0, .F, ⟨some 24, (Op.move (Operand.tmp 0)), none⟩, [], false⟩,
  ⟨1, .F, ⟨some 25, (Op.nilCheck (Operand.tmp 24)), none⟩, [], false⟩,
  ⟨2, .F, ⟨some 26, (Op.fieldAddr 103 (Operand.tmp 25) 0), none⟩, [], false⟩,
  ⟨3, .R, ⟨some 27, (Op.load 99 (Operand.tmp 26)), none⟩, [], false⟩,
  ⟨4, .F, ⟨some 28, (Op.fieldAddr 107 (Operand.tmp 3) 0), none⟩, [], false⟩,
  ⟨5, .R, ⟨some 29, (Op.load 105 (Operand.tmp 28)), none⟩, [], false⟩,
  ⟨6, .F, ⟨some 30, (Op.move (Operand.tmp 6)), none⟩, [], false⟩,
  ⟨7, .E, ⟨some 31, (Op.call { callee := (Callee.value (Operand.func 80)), args := #[(Operand.tmp 27), (Operand.tmp 29), (Operand.tmp 30)], argTypes := #[99, 105, 3] }), none⟩, [], false⟩,
  ⟨8, .F, ⟨some 32, (Op.move (Operand.tmp 31)), none⟩, [], false⟩,
  ⟨9, .F, ⟨some 33, (Op.move (Operand.tmp 0)), some (32, true)⟩, [], false⟩,
  ⟨10, .F, ⟨some 34, (Op.nilCheck (Operand.tmp 33)), some (32, true)⟩, [], false⟩,
  ⟨11, .F, ⟨some 35, (Op.fieldAddr 103 (Operand.tmp 34) 1), some (32, true)⟩, [], false⟩,
  ⟨12, .R, ⟨some 36, (Op.load 99 (Operand.tmp 35)), some (32, true)⟩, [], false⟩,
  ⟨13, .F, ⟨some 37, (Op.fieldAddr 107 (Operand.tmp 3) 1), some (32, true)⟩, [], false⟩,
  ⟨14, .R, ⟨some 38, (Op.load 105 (Operand.tmp 37)), some (32, true)⟩, [], false⟩,
  ⟨15, .F, ⟨some 39, (Op.move (Operand.tmp 6)), some (32, true)⟩, [], false⟩,
  ⟨16, .E, ⟨some 40, (Op.call { callee := (Callee.value (Operand.func 80)), args := #[(Operand.tmp 36), (Operand.tmp 38), (Operand.tmp 39)], argTypes := #[99, 105, 3] }), some (32, true)⟩, [], false⟩,
  ⟨17, .F, ⟨some 41, (Op.unOp UnOp.not 4 (Operand.tmp 40)), some (32, true)⟩, [], false⟩,
  ⟨18, .F, ⟨some 42, (Op.pick (Operand.tmp 32) (Operand.tmp 41) (Operand.const (Value.bool false))), none⟩, [], false⟩])
 (.cond (Operand.tmp 42) (.seq (.reg [⟨some 43, (Op.move (Operand.tmp 6)), none⟩,
  ⟨some 4, (Op.assign (Operand.tmp 43)), none⟩,
  ⟨some 5, (Op.assign (Operand.const (Value.bool true))), none⟩])
 .ret) .skip)))
 (.reg [⟨some 22, (Op.move (Operand.tmp 6)), none⟩,
  ⟨some 23, (Op.binOp BinOp.add 3 (Operand.tmp 22) (Operand.const (Value.int IntKind.i64 1)) 3), none⟩,
  ⟨some 6, (Op.assign (Operand.tmp 23)), none⟩]))))))
 (.seq (.reg [⟨some 4, (Op.assign (Operand.const (Value.int IntKind.i64 0))), none⟩,
  ⟨some 5, (Op.assign (Operand.const (Value.bool false))), none⟩])
 .ret)))
theorem fn87 : FnFact Tryd.prog 87 44 [(4, [(0, 0), (1, 0), (2, 0), (3, 3), (4, 0), (5, 3), (6, 0), (7, 2), (8, 0), (9, 0), (10, 0), (11, 0), (12, 3), (13, 0), (14, 3), (15, 0), (16, 2), (17, 0), (18, 0)], [[], [0], [0, 1], [0, 1, 2], [], [4], [], [0, 1, 2, 3, 4, 5, 6], [0, 1, 2, 3, 4, 5, 6, 7], [0, 1, 2, 3, 4, 5, 6, 7, 8], [0, 1, 2, 3, 4, 5, 6, 7, 8, 9], [0, 1, 2, 3, 4, 5, 6, 7, 8, 9, 10], [0, 1, 2, 3, 4, 5, 6, 7, 8, 9, 10, 11], [0, 1, 2, 3, 4, 5, 6, 7, 8], [0, 1, 2, 3, 4, 5, 6, 7, 8, 13], [0, 1, 2, 3, 4, 5, 6, 7, 8], [0, 1, 2, 3, 4, 5, 6, 7, 8, 9, 10, 11, 12, 13, 14, 15], [0, 1, 2, 3, 4, 5, 6, 7, 8, 9, 10, 11, 12, 13, 14, 15, 16], [0, 1, 2, 3, 4, 5, 6, 7, 8, 9, 10, 11, 12, 13, 14, 15, 16, 17]])] [(ResultVar.tmp 4), (ResultVar.tmp 5)] cd87 := ⟨by kernel_rfl, ⟨Tryd.f87, Tryd.func87, by kernel_rfl, by rfl, Tryd.ntmps87, congrArg Array.toList Tryd.results87⟩⟩
/-- (*examiner/conform.compared).add -/
def cd101 : CC := (.seq (.reg [⟨some 5, (Op.box 107 (Operand.tmp 1)), none⟩])
 (.seq (.dr [⟨0, .F, ⟨some 8, (Op.move (Operand.tmp 0)), none⟩, [], false⟩,
  ⟨1, .F, ⟨some 9, (Op.nilCheck (Operand.tmp 8)), none⟩, [], false⟩,
  ⟨2, .F, ⟨some 10, (Op.fieldAddr 103 (Operand.tmp 9) 5), none⟩, [], false⟩,
  ⟨3, .R, ⟨some 11, (Op.load 101 (Operand.tmp 10)), none⟩, [], false⟩,
  ⟨4, .R, ⟨some 12, (Op.load 107 (Operand.tmp 5)), none⟩, [], false⟩,
  ⟨5, .E, ⟨some 13, (Op.lookup 101 (Operand.tmp 11) (Operand.tmp 12) false), none⟩, [], false⟩,
  ⟨6, .F, ⟨some 14, (Op.unOp UnOp.not 4 (Operand.tmp 13)), none⟩, [], false⟩])
 (.cond (Operand.tmp 14) (.seq (.dr [⟨0, .F, ⟨some 15, (Op.move (Operand.tmp 0)), none⟩, [], false⟩,
  ⟨1, .F, ⟨some 16, (Op.nilCheck (Operand.tmp 15)), none⟩, [], false⟩,
  ⟨2, .F, ⟨some 17, (Op.fieldAddr 103 (Operand.tmp 16) 5), none⟩, [], false⟩,
  ⟨3, .R, ⟨some 18, (Op.load 101 (Operand.tmp 17)), none⟩, [], false⟩,
  ⟨4, .R, ⟨some 19, (Op.load 107 (Operand.tmp 5)), none⟩, [], false⟩,
  ⟨5, .E, ⟨none, (Op.mapUpdate 101 (Operand.tmp 18) (Operand.tmp 19) (Operand.const (Value.bool true))), none⟩, [], false⟩])
 (.dr [⟨0, .F, ⟨some 20, (Op.move (Operand.tmp 0)), none⟩, [], false⟩,
  ⟨1, .F, ⟨some 21, (Op.move (Operand.tmp 0)), none⟩, [], false⟩,
  ⟨2, .F, ⟨some 22, (Op.move (Operand.tmp 0)), none⟩, [], false⟩,
  ⟨3, .F, ⟨some 23, (Op.move (Operand.tmp 0)), none⟩, [], false⟩,
  ⟨4, .F, ⟨some 24, (Op.nilCheck (Operand.tmp 23)), none⟩, [], false⟩,
  ⟨5, .F, ⟨some 25, (Op.fieldAddr 103 (Operand.tmp 24) 2), none⟩, [], false⟩,
  ⟨6, .R, ⟨some 26, (Op.load 100 (Operand.tmp 25)), none⟩, [], false⟩,
  ⟨7, .R, ⟨some 27, (Op.load 107 (Operand.tmp 5)), none⟩, [], false⟩,
  ⟨8, .F, ⟨some 28, (Op.buildSlice 100 1 #[(0, (Operand.tmp 27))]), none⟩, [], false⟩,
  ⟨10, .F, ⟨some 30, (Op.move (Operand.tmp 0)), none⟩, [], false⟩,
  ⟨11, .F, ⟨some 31, (Op.nilCheck (Operand.tmp 30)), none⟩, [], false⟩,
  ⟨12, .F, ⟨some 32, (Op.fieldAddr 103 (Operand.tmp 31) 3), none⟩, [], false⟩,
  ⟨13, .R, ⟨some 33, (Op.load 27 (Operand.tmp 32)), none⟩, [], false⟩,
  ⟨14, .F, ⟨some 34, (Op.move (Operand.tmp 2)), none⟩, [], false⟩,
  ⟨15, .F, ⟨some 35, (Op.buildSlice 27 1 #[(0, (Operand.tmp 34))]), none⟩, [], false⟩,
  ⟨17, .F, ⟨some 37, (Op.move (Operand.tmp 0)), none⟩, [], false⟩,
  ⟨18, .F, ⟨some 38, (Op.nilCheck (Operand.tmp 37)), none⟩, [], false⟩,
  ⟨19, .F, ⟨some 39, (Op.fieldAddr 103 (Operand.tmp 38) 4), none⟩, [], false⟩,
  ⟨20, .R, ⟨some 40, (Op.load 27 (Operand.tmp 39)), none⟩, [], false⟩,
  ⟨21, .F, ⟨some 41, (Op.move (Operand.tmp 3)), none⟩, [], false⟩,
  ⟨22, .F, ⟨some 42, (Op.buildSlice 27 1 #[(0, (Operand.tmp 41))]), none⟩, [], false⟩,
  ⟨9, .E, ⟨some 29, (Op.call { callee := (Callee.builtin Builtin.append), args := #[(Operand.tmp 26), (Operand.tmp 28)], argTypes := #[100, 100] }), none⟩, [], true⟩,
  ⟨16, .E, ⟨some 36, (Op.call { callee := (Callee.builtin Builtin.append), args := #[(Operand.tmp 33), (Operand.tmp 35)], argTypes := #[27, 27] }), none⟩, [], true⟩,
  ⟨23, .E, ⟨some 43, (Op.call { callee := (Callee.builtin Builtin.append), args := #[(Operand.tmp 40), (Operand.tmp 42)], argTypes := #[27, 27] }), none⟩, [], false⟩,
  ⟨24, .F, ⟨some 44, (Op.nilCheck (Operand.tmp 20)), none⟩, [], false⟩,
  ⟨25, .F, ⟨some 45, (Op.fieldAddr 103 (Operand.tmp 44) 2), none⟩, [], false⟩,
  ⟨26, .E, ⟨none, (Op.store 100 (Operand.tmp 45) (Operand.tmp 29)), none⟩, [], false⟩,
  ⟨27, .F, ⟨some 46, (Op.nilCheck (Operand.tmp 21)), none⟩, [], false⟩,
  ⟨28, .F, ⟨some 47, (Op.fieldAddr 103 (Operand.tmp 46) 3), none⟩, [], false⟩,
  ⟨29, .E, ⟨none, (Op.store 27 (Operand.tmp 47) (Operand.tmp 36)), none⟩, [], false⟩,
  ⟨30, .F, ⟨some 48, (Op.nilCheck (Operand.tmp 22)), none⟩, [], false⟩,
  ⟨31, .F, ⟨some 49, (Op.fieldAddr 103 (Operand.tmp 48) 4), none⟩, [], false⟩,
  ⟨32, .E, ⟨none, (Op.store 27 (Operand.tmp 49) (Operand.tmp 43)), none⟩, [], false⟩])) .skip)))
theorem fn101 : FnFact Tryd.prog 101 50 [(1, [(0, 0), (1, 0), (2, 0), (3, 3), (4, 3), (5, 2), (6, 0)], [[], [0], [0, 1], [0, 1, 2], [], [0, 1, 2, 3, 4], [0, 1, 2, 3, 4, 5]]), (2, [(0, 0), (1, 0), (2, 0), (3, 3), (4, 3), (5, 2)], [[], [0], [0, 1], [0, 1, 2], [], [0, 1, 2, 3, 4]]), (3, [(0, 0), (1, 0), (2, 0), (3, 0), (4, 0), (5, 0), (6, 3), (7, 3), (8, 0), (10, 0), (11, 0), (12, 0), (13, 3), (14, 0), (15, 0), (17, 0), (18, 0), (19, 0), (20, 3), (21, 0), (22, 0), (9, 4), (16, 4), (23, 2), (24, 0), (25, 0), (26, 2), (27, 0), (28, 0), (29, 2), (30, 0), (31, 0), (32, 2)], [[], [], [], [], [3], [3, 4], [3, 4, 5], [], [7], [3, 4, 5, 6, 7, 8], [], [10], [10, 11], [10, 11, 12], [], [14], [3, 4, 5, 6, 7, 8, 9, 10, 11, 12, 13, 14, 15], [], [17], [17, 18], [17, 18, 19], [], [21], [3, 4, 5, 6, 7, 8, 9, 10, 11, 12, 13, 14, 15, 16, 17, 18, 19, 20, 21, 22], [0, 3, 4, 5, 6, 7, 8, 9, 10, 11, 12, 13, 14, 15, 16, 17, 18, 19, 20, 21, 22, 23], [0, 3, 4, 5, 6, 7, 8, 9, 10, 11, 12, 13, 14, 15, 16, 17, 18, 19, 20, 21, 22, 23, 24], [0, 3, 4, 5, 6, 7, 8, 9, 10, 11, 12, 13, 14, 15, 16, 17, 18, 19, 20, 21, 22, 23, 24, 25], [0, 1, 3, 4, 5, 6, 7, 8, 9, 10, 11, 12, 13, 14, 15, 16, 17, 18, 19, 20, 21, 22, 23, 24, 25, 26], [0, 1, 3, 4, 5, 6, 7, 8, 9, 10, 11, 12, 13, 14, 15, 16, 17, 18, 19, 20, 21, 22, 23, 24, 25, 26, 27], [0, 1, 3, 4, 5, 6, 7, 8, 9, 10, 11, 12, 13, 14, 15, 16, 17, 18, 19, 20, 21, 22, 23, 24, 25, 26, 27, 28], [0, 1, 2, 3, 4, 5, 6, 7, 8, 9, 10, 11, 12, 13, 14, 15, 16, 17, 18, 19, 20, 21, 22, 23, 24, 25, 26, 27, 28, 29], [0, 1, 2, 3, 4, 5, 6, 7, 8, 9, 10, 11, 12, 13, 14, 15, 16, 17, 18, 19, 20, 21, 22, 23, 24, 25, 26, 27, 28, 29, 30], [0, 1, 2, 3, 4, 5, 6, 7, 8, 9, 10, 11, 12, 13, 14, 15, 16, 17, 18, 19, 20, 21, 22, 23, 24, 25, 26, 27, 28, 29, 30, 31]])] [] cd101 := ⟨by kernel_rfl, ⟨Tryd.f101, Tryd.func101, by kernel_rfl, by rfl, Tryd.ntmps101, congrArg Array.toList Tryd.results101⟩⟩
/-- slices.Reverse[[]int,int] -/
def cd102 : CC := (.seq (.reg [⟨some 4, (Op.move (Operand.tmp 0)), none⟩,
  ⟨some 5, (Op.call { callee := (Callee.builtin Builtin.len), args := #[(Operand.tmp 4)], argTypes := #[27] }), none⟩,
  ⟨some 6, (Op.binOp BinOp.sub 3 (Operand.tmp 5) (Operand.const (Value.int IntKind.i64 1)) 3), none⟩,
  ⟨some 2, (Op.assign (Operand.const (Value.int IntKind.i64 0))), none⟩,
  ⟨some 3, (Op.assign (Operand.tmp 6)), none⟩])
 (.block 0 (.loop (.seq (.seq (.reg [⟨some 7, (Op.move (Operand.tmp 2)), none⟩,
  ⟨some 8, (Op.move (Operand.tmp 3)), none⟩,
  ⟨some 9, (Op.binOp BinOp.lss 3 (Operand.tmp 7) (Operand.tmp 8) 3), none⟩])
 (.cond (Operand.tmp 9) .skip (.exit 0)))
 (.seq (.block 1 (.dr [⟨0, .F, ⟨some 14, (Op.move (Operand.tmp 0)), none⟩, [], false⟩,
  ⟨1, .F, ⟨some 15, (Op.move (Operand.tmp 2)), none⟩, [], false⟩,
  ⟨2, .F, ⟨some 16, (Op.move (Operand.tmp 0)), none⟩, [], false⟩,
  ⟨3, .F, ⟨some 17, (Op.move (Operand.tmp 3)), none⟩, [], false⟩,
  ⟨4, .F, ⟨some 18, (Op.move (Operand.tmp 0)), none⟩, [], false⟩,
  ⟨5, .F, ⟨some 19, (Op.move (Operand.tmp 3)), none⟩, [], false⟩,
  ⟨6, .F, ⟨some 20, (Op.indexAddr 27 (Operand.tmp 18) (Operand.tmp 19)), none⟩, [], false⟩,
  ⟨7, .R, ⟨some 21, (Op.load 3 (Operand.tmp 20)), none⟩, [], false⟩,
  ⟨8, .F, ⟨some 22, (Op.move (Operand.tmp 0)), none⟩, [], false⟩,
  ⟨9, .F, ⟨some 23, (Op.move (Operand.tmp 2)), none⟩, [], false⟩,
  ⟨10, .F, ⟨some 24, (Op.indexAddr 27 (Operand.tmp 22) (Operand.tmp 23)), none⟩, [], false⟩,
  ⟨11, .R, ⟨some 25, (Op.load 3 (Operand.tmp 24)), none⟩, [], false⟩,
  ⟨12, .F, ⟨some 26, (Op.indexAddr 27 (Operand.tmp 14) (Operand.tmp 15)), none⟩, [], false⟩,
  ⟨13, .E, ⟨none, (Op.store 3 (Operand.tmp 26) (Operand.tmp 21)), none⟩, [], false⟩,
  ⟨14, .F, ⟨some 27, (Op.indexAddr 27 (Operand.tmp 16) (Operand.tmp 17)), none⟩, [], false⟩,
  ⟨15, .E, ⟨none, (Op.store 3 (Operand.tmp 27) (Operand.tmp 25)), none⟩, [], false⟩]))
 (.reg [⟨some 10, (Op.move (Operand.tmp 2)), none⟩,
  ⟨some 11, (Op.binOp BinOp.add 3 (Operand.tmp 10) (Operand.const (Value.int IntKind.i64 1)) 3), none⟩,
  ⟨some 12, (Op.move (Operand.tmp 3)), none⟩,
  ⟨some 13, (Op.binOp BinOp.sub 3 (Operand.tmp 12) (Operand.const (Value.int IntKind.i64 1)) 3), none⟩,
  ⟨some 2, (Op.assign (Operand.tmp 11)), none⟩,
  ⟨some 3, (Op.assign (Operand.tmp 13)), none⟩]))))))
theorem fn102 : FnFact Tryd.prog 102 28 [(3, [(0, 0), (1, 0), (2, 0), (3, 0), (4, 0), (5, 0), (6, 0), (7, 3), (8, 0), (9, 0), (10, 0), (11, 3), (12, 0), (13, 2), (14, 0), (15, 2)], [[], [], [], [], [], [], [4, 5], [4, 5, 6], [], [], [8, 9], [8, 9, 10], [0, 1, 4, 5, 6, 7, 8, 9, 10, 11], [0, 1, 4, 5, 6, 7, 8, 9, 10, 11, 12], [0, 1, 2, 3, 4, 5, 6, 7, 8, 9, 10, 11, 12, 13], [0, 1, 2, 3, 4, 5, 6, 7, 8, 9, 10, 11, 12, 13, 14]])] [] cd102 := ⟨by kernel_rfl, ⟨Tryd.f102, Tryd.func102, by kernel_rfl, by rfl, Tryd.ntmps102, congrArg Array.toList Tryd.results102⟩⟩
/-- math/bits.TrailingZeros -/
def cd103 : CC := (.seq (.reg [⟨some 2, (Op.assign (Operand.const (Value.int IntKind.i64 0))), none⟩])
 (.seq (.cond (Operand.const (Value.bool false)) (.seq (.reg [⟨some 3, (Op.move (Operand.tmp 0)), none⟩,
  ⟨some 4, (Op.convert 104 174 (Operand.tmp 3)), none⟩,
  ⟨some 5, (Op.call { callee := (Callee.value (Operand.func 120)), args := #[(Operand.tmp 4)], argTypes := #[174] }), none⟩,
  ⟨some 2, (Op.assign (Operand.tmp 5)), none⟩])
 .ret) .skip)
 (.seq (.reg [⟨some 6, (Op.move (Operand.tmp 0)), none⟩,
  ⟨some 7, (Op.call { callee := (Callee.value (Operand.func 121)), args := #[(Operand.tmp 6)], argTypes := #[176] }), none⟩,
  ⟨some 2, (Op.assign (Operand.tmp 7)), none⟩])
 .ret)))
theorem fn103 : FnFact Tryd.prog 103 8 [] [(ResultVar.tmp 2)] cd103 := ⟨by kernel_rfl, ⟨Tryd.f103, Tryd.func103, by kernel_rfl, by rfl, Tryd.ntmps103, congrArg Array.toList Tryd.results103⟩⟩
/-- cmp.Or[int] -/
def cd105 : CC := (.seq (.reg [⟨some 2, (Op.assign (Operand.const (Value.int IntKind.i64 0))), none⟩])
 (.seq (.reg [⟨some 3, (Op.assign (Operand.const (Value.int IntKind.i64 0))), none⟩])
 (.seq (.seq (.reg [⟨some 6, (Op.move (Operand.tmp 0)), none⟩,
  ⟨some 7, (Op.call { callee := (Callee.builtin Builtin.len), args := #[(Operand.tmp 6)], argTypes := #[27] }), none⟩,
  ⟨some 8, (Op.move (Operand.const (Value.int IntKind.i64 0))), none⟩])
 (.block 0 (.loop (.seq (.reg [⟨some 9, (Op.binOp BinOp.lss 3 (Operand.tmp 8) (Operand.tmp 7) 3), none⟩])
 (.seq (.cond (Operand.tmp 9) .skip (.exit 0))
 (.seq (.block 1 (.seq (.reg [⟨some 10, (Op.indexAddr 27 (Operand.tmp 6) (Operand.tmp 8)), none⟩,
  ⟨some 11, (Op.load 3 (Operand.tmp 10)), none⟩,
  ⟨some 5, (Op.assign (Operand.tmp 11)), none⟩])
 (.seq (.reg [⟨some 12, (Op.move (Operand.tmp 5)), none⟩,
  ⟨some 13, (Op.move (Operand.tmp 3)), none⟩,
  ⟨some 14, (Op.binOp BinOp.neq 3 (Operand.tmp 12) (Operand.tmp 13) 3), none⟩])
 (.cond (Operand.tmp 14) (.seq (.reg [⟨some 15, (Op.move (Operand.tmp 5)), none⟩,
  ⟨some 2, (Op.assign (Operand.tmp 15)), none⟩])
 .ret) .skip))))
 (.reg [⟨some 16, (Op.binOp BinOp.add 3 (Operand.tmp 8) (Operand.const (Value.int IntKind.i64 1)) 3), none⟩,
  ⟨some 8, (Op.move (Operand.tmp 16)), none⟩])))))))
 (.seq (.reg [⟨some 17, (Op.move (Operand.tmp 3)), none⟩,
  ⟨some 2, (Op.assign (Operand.tmp 17)), none⟩])
 .ret))))
theorem fn105 : FnFact Tryd.prog 105 18 [] [(ResultVar.tmp 2)] cd105 := ⟨by kernel_rfl, ⟨Tryd.f105, Tryd.func105, by kernel_rfl, by rfl, Tryd.ntmps105, congrArg Array.toList Tryd.results105⟩⟩
/-- cmp.Compare[int] -/
def cd106 : CC := (.seq (.reg [⟨some 4, (Op.assign (Operand.const (Value.int IntKind.i64 0))), none⟩])
 (.seq (.reg [⟨some 7, (Op.move (Operand.tmp 0)), none⟩,
  ⟨some 8, (Op.call { callee := (Callee.value (Operand.func 122)), args := #[(Operand.tmp 7)], argTypes := #[3] }), none⟩,
  ⟨some 5, (Op.assign (Operand.tmp 8)), none⟩])
 (.seq (.reg [⟨some 9, (Op.move (Operand.tmp 1)), none⟩,
  ⟨some 10, (Op.call { callee := (Callee.value (Operand.func 122)), args := #[(Operand.tmp 9)], argTypes := #[3] }), none⟩,
  ⟨some 6, (Op.assign (Operand.tmp 10)), none⟩])
 (.seq (.seq (.reg [⟨some 11, (Op.move (Operand.tmp 5)), none⟩])
 (.cond (Operand.tmp 11) (.seq (.seq (.reg [⟨some 12, (Op.move (Operand.tmp 6)), none⟩])
 (.cond (Operand.tmp 12) (.seq (.reg [⟨some 4, (Op.assign (Operand.const (Value.int IntKind.i64 0))), none⟩])
 .ret) .skip))
 (.seq (.reg [⟨some 4, (Op.assign (Operand.const (Value.int IntKind.i64 (-1)))), none⟩])
 .ret)) .skip))
 (.seq (.seq (.reg [⟨some 13, (Op.move (Operand.tmp 6)), none⟩])
 (.cond (Operand.tmp 13) (.seq (.reg [⟨some 4, (Op.assign (Operand.const (Value.int IntKind.i64 1))), none⟩])
 .ret) .skip))
 (.seq (.seq (.reg [⟨some 14, (Op.move (Operand.tmp 0)), none⟩,
  ⟨some 15, (Op.move (Operand.tmp 1)), none⟩,
  ⟨some 16, (Op.binOp BinOp.lss 3 (Operand.tmp 14) (Operand.tmp 15) 3), none⟩])
 (.cond (Operand.tmp 16) (.seq (.reg [⟨some 4, (Op.assign (Operand.const (Value.int IntKind.i64 (-1)))), none⟩])
 .ret) .skip))
 (.seq (.seq (.reg [⟨some 17, (Op.move (Operand.tmp 0)), none⟩,
  ⟨some 18, (Op.move (Operand.tmp 1)), none⟩,
  ⟨some 19, (Op.binOp BinOp.gtr 3 (Operand.tmp 17) (Operand.tmp 18) 3), none⟩])
 (.cond (Operand.tmp 19) (.seq (.reg [⟨some 4, (Op.assign (Operand.const (Value.int IntKind.i64 1))), none⟩])
 .ret) .skip))
 (.seq (.reg [⟨some 4, (Op.assign (Operand.const (Value.int IntKind.i64 0))), none⟩])
 .ret))))))))
theorem fn106 : FnFact Tryd.prog 106 20 [] [(ResultVar.tmp 4)] cd106 := ⟨by kernel_rfl, ⟨Tryd.f106, Tryd.func106, by kernel_rfl, by rfl, Tryd.ntmps106, congrArg Array.toList Tryd.results106⟩⟩
/-- examiner/examinerbase.Count -/
def cd107 : CC := (.seq (.reg [⟨some 2, (Op.assign (Operand.const (Value.int IntKind.i64 0))), none⟩])
 (.seq (.seq (.reg [⟨some 3, (Op.move (Operand.tmp 0)), none⟩])
 (.cond (Operand.tmp 3) (.seq (.reg [⟨some 2, (Op.assign (Operand.const (Value.int IntKind.i64 1))), none⟩])
 .ret) .skip))
 (.seq (.reg [⟨some 2, (Op.assign (Operand.const (Value.int IntKind.i64 0))), none⟩])
 .ret)))
theorem fn107 : FnFact Tryd.prog 107 4 [] [(ResultVar.tmp 2)] cd107 := ⟨by kernel_rfl, ⟨Tryd.f107, Tryd.func107, by kernel_rfl, by rfl, Tryd.ntmps107, congrArg Array.toList Tryd.results107⟩⟩
/-- (*examiner/conform.system).isQuiet -/
def cd108 : CC := (.seq (.reg [⟨some 4, (Op.assign (Operand.const (Value.bool false))), none⟩])
 (.seq (.seq (.reg [⟨some 6, (Op.move (Operand.tmp 0)), none⟩,
  ⟨some 7, (Op.nilCheck (Operand.tmp 6)), none⟩,
  ⟨some 8, (Op.fieldAddr 125 (Operand.tmp 7) 0), none⟩,
  ⟨some 9, (Op.fieldAddr 24 (Operand.tmp 8) 3), none⟩,
  ⟨some 10, (Op.load 3 (Operand.tmp 9)), none⟩,
  ⟨some 11, (Op.move (Operand.const (Value.int IntKind.i64 0))), none⟩])
 (.block 0 (.loop (.seq (.reg [⟨some 12, (Op.binOp BinOp.lss 3 (Operand.tmp 11) (Operand.tmp 10) 3), none⟩])
 (.seq (.cond (Operand.tmp 12) .skip (.exit 0))
 (.seq (.block 1 (.seq (.reg [⟨some 13, (Op.move (Operand.tmp 11)), none⟩,
  ⟨some 5, (Op.assign (Operand.tmp 13)), none⟩])
 (.seq (.dr [⟨0, .F, ⟨some 14, (Op.move (Operand.tmp 0)), none⟩, [], false⟩,
  ⟨1, .F, ⟨some 15, (Op.nilCheck (Operand.tmp 14)), none⟩, [], false⟩,
  ⟨2, .F, ⟨some 16, (Op.fieldAddr 125 (Operand.tmp 15) 1), none⟩, [], false⟩,
  ⟨3, .R, ⟨some 17, (Op.load 122 (Operand.tmp 16)), none⟩, [], false⟩,
  ⟨4, .F, ⟨some 18, (Op.move (Operand.tmp 1)), none⟩, [], false⟩,
  ⟨5, .F, ⟨some 19, (Op.indexAddr 122 (Operand.tmp 17) (Operand.tmp 18)), none⟩, [], false⟩,
  ⟨6, .R, ⟨some 20, (Op.load 123 (Operand.tmp 19)), none⟩, [], false⟩,
  ⟨7, .F, ⟨some 21, (Op.move (Operand.tmp 0)), none⟩, [], false⟩,
  ⟨8, .F, ⟨some 22, (Op.nilCheck (Operand.tmp 21)), none⟩, [], false⟩,
  ⟨9, .F, ⟨some 23, (Op.fieldAddr 125 (Operand.tmp 22) 0), none⟩, [], false⟩,
  ⟨10, .F, ⟨some 24, (Op.fieldAddr 24 (Operand.tmp 23) 2), none⟩, [], false⟩,
  ⟨11, .R, ⟨some 25, (Op.load 3 (Operand.tmp 24)), none⟩, [], false⟩,
  ⟨12, .F, ⟨some 26, (Op.move (Operand.tmp 5)), none⟩, [], false⟩,
  ⟨13, .F, ⟨some 27, (Op.binOp BinOp.add 3 (Operand.tmp 25) (Operand.tmp 26) 3), none⟩, [], false⟩,
  ⟨14, .F, ⟨some 28, (Op.indexAddr 123 (Operand.tmp 20) (Operand.tmp 27)), none⟩, [], false⟩,
  ⟨15, .R, ⟨some 29, (Op.load 105 (Operand.tmp 28)), none⟩, [], false⟩,
  ⟨16, .F, ⟨some 30, (Op.binOp BinOp.neq 105 (Operand.tmp 29) (Operand.const (Value.int IntKind.u64 0)) 105), none⟩, [], false⟩])
 (.cond (Operand.tmp 30) (.seq (.reg [⟨some 4, (Op.assign (Operand.const (Value.bool false))), none⟩])
 .ret) .skip))))
 (.reg [⟨some 31, (Op.binOp BinOp.add 3 (Operand.tmp 11) (Operand.const (Value.int IntKind.i64 1)) 3), none⟩,
  ⟨some 11, (Op.move (Operand.tmp 31)), none⟩])))))))
 (.seq (.reg [⟨some 32, (Op.move (Operand.tmp 0)), none⟩,
  ⟨some 33, (Op.nilCheck (Operand.tmp 32)), none⟩,
  ⟨some 34, (Op.fieldAddr 125 (Operand.tmp 33) 2), none⟩,
  ⟨some 35, (Op.load 123 (Operand.tmp 34)), none⟩,
  ⟨some 36, (Op.move (Operand.tmp 1)), none⟩,
  ⟨some 37, (Op.indexAddr 123 (Operand.tmp 35) (Operand.tmp 36)), none⟩,
  ⟨some 38, (Op.load 105 (Operand.tmp 37)), none⟩,
  ⟨some 39, (Op.binOp BinOp.eql 105 (Operand.tmp 38) (Operand.const (Value.int IntKind.u64 0)) 105), none⟩,
  ⟨some 4, (Op.assign (Operand.tmp 39)), none⟩])
 .ret)))
theorem fn108 : FnFact Tryd.prog 108 40 [(4, [(0, 0), (1, 0), (2, 0), (3, 3), (4, 0), (5, 0), (6, 3), (7, 0), (8, 0), (9, 0), (10, 0), (11, 3), (12, 0), (13, 0), (14, 0), (15, 3), (16, 0)], [[], [0], [0, 1], [0, 1, 2], [], [0, 1, 2, 3, 4], [0, 1, 2, 3, 4, 5], [], [7], [7, 8], [7, 8, 9], [7, 8, 9, 10], [], [7, 8, 9, 10, 11, 12], [0, 1, 2, 3, 4, 5, 6, 7, 8, 9, 10, 11, 12, 13], [0, 1, 2, 3, 4, 5, 6, 7, 8, 9, 10, 11, 12, 13, 14], [0, 1, 2, 3, 4, 5, 6, 7, 8, 9, 10, 11, 12, 13, 14, 15]])] [(ResultVar.tmp 4)] cd108 := ⟨by kernel_rfl, ⟨Tryd.f108, Tryd.func108, by kernel_rfl, by rfl, Tryd.ntmps108, congrArg Array.toList Tryd.results108⟩⟩
/-- examiner/conform.traceErr$1 -/
def cd109 : CC := (.seq (.reg [⟨some 3, (Op.assign (Operand.const (Value.bool false))), none⟩])
 (.seq (.reg [⟨some 4, (Op.move (Operand.tmp 0)), none⟩,
  ⟨some 5, (Op.fieldAddr 24 (Operand.tmp 1) 2), none⟩,
  ⟨some 6, (Op.load 3 (Operand.tmp 5)), none⟩,
  ⟨some 7, (Op.fieldAddr 24 (Operand.tmp 1) 3), none⟩,
  ⟨some 8, (Op.load 3 (Operand.tmp 7)), none⟩,
  ⟨some 9, (Op.binOp BinOp.add 3 (Operand.tmp 6) (Operand.tmp 8) 3), none⟩,
  ⟨some 10, (Op.call { callee := (Callee.value (Operand.func 66)), args := #[(Operand.tmp 4), (Operand.const (Value.int IntKind.i64 0)), (Operand.tmp 9)], argTypes := #[3, 3, 3] }), none⟩,
  ⟨some 11, (Op.unOp UnOp.not 4 (Operand.tmp 10)), none⟩,
  ⟨some 3, (Op.assign (Operand.tmp 11)), none⟩])
 .ret))
theorem fn109 : FnFact Tryd.prog 109 12 [] [(ResultVar.tmp 3)] cd109 := ⟨by kernel_rfl, ⟨Tryd.f109, Tryd.func109, by kernel_rfl, by rfl, Tryd.ntmps109, congrArg Array.toList Tryd.results109⟩⟩
/-- slices.ContainsFunc[[]int,int] -/
def cd110 : CC := (.seq (.reg [⟨some 4, (Op.assign (Operand.const (Value.bool false))), none⟩])
 (.seq (.reg [⟨some 5, (Op.move (Operand.tmp 0)), none⟩,
  ⟨some 6, (Op.move (Operand.tmp 1)), none⟩,
  ⟨some 7, (Op.call { callee := (Callee.value (Operand.func 123)), args := #[(Operand.tmp 5), (Operand.tmp 6)], argTypes := #[27, 156] }), none⟩,
  ⟨some 8, (Op.binOp BinOp.geq 3 (Operand.tmp 7) (Operand.const (Value.int IntKind.i64 0)) 3), none⟩,
  ⟨some 4, (Op.assign (Operand.tmp 8)), none⟩])
 .ret))
theorem fn110 : FnFact Tryd.prog 110 9 [] [(ResultVar.tmp 4)] cd110 := ⟨by kernel_rfl, ⟨Tryd.f110, Tryd.func110, by kernel_rfl, by rfl, Tryd.ntmps110, congrArg Array.toList Tryd.results110⟩⟩
/-- math/bits.TrailingZeros64 -/
def cd121 : CC := (.seq (.reg [⟨some 2, (Op.assign (Operand.const (Value.int IntKind.i64 0))), none⟩])
 (.seq (.seq (.reg [⟨some 3, (Op.move (Operand.tmp 0)), none⟩,
  ⟨some 4, (Op.binOp BinOp.eql 176 (Operand.tmp 3) (Operand.const (Value.int IntKind.u64 0)) 176), none⟩])
 (.cond (Operand.tmp 4) (.seq (.reg [⟨some 2, (Op.assign (Operand.const (Value.int IntKind.i64 64))), none⟩])
 .ret) .skip))
 (.seq (.reg [⟨some 5, (Op.move (Operand.tmp 0)), none⟩,
  ⟨some 6, (Op.move (Operand.tmp 0)), none⟩,
  ⟨some 7, (Op.unOp UnOp.neg 176 (Operand.tmp 6)), none⟩,
  ⟨some 8, (Op.binOp BinOp.and 176 (Operand.tmp 5) (Operand.tmp 7) 176), none⟩,
  ⟨some 9, (Op.binOp BinOp.mul 176 (Operand.tmp 8) (Operand.const (Value.int IntKind.u64 285870213051353865)) 176), none⟩,
  ⟨some 10, (Op.binOp BinOp.shr 176 (Operand.tmp 9) (Operand.const (Value.int IntKind.u64 58)) 104), none⟩,
  ⟨some 11, (Op.indexAddr 180 (Operand.global 1) (Operand.tmp 10)), none⟩,
  ⟨some 12, (Op.load 5 (Operand.tmp 11)), none⟩,
  ⟨some 13, (Op.convert 5 3 (Operand.tmp 12)), none⟩,
  ⟨some 2, (Op.assign (Operand.tmp 13)), none⟩])
 .ret)))
theorem fn121 : FnFact Tryd.prog 121 14 [] [(ResultVar.tmp 2)] cd121 := ⟨by kernel_rfl, ⟨Tryd.f121, Tryd.func121, by kernel_rfl, by rfl, Tryd.ntmps121, congrArg Array.toList Tryd.results121⟩⟩
/-- cmp.isNaN[int] -/
def cd122 : CC := (.seq (.reg [⟨some 2, (Op.assign (Operand.const (Value.bool false))), none⟩])
 (.seq (.reg [⟨some 3, (Op.move (Operand.tmp 0)), none⟩,
  ⟨some 4, (Op.move (Operand.tmp 0)), none⟩,
  ⟨some 5, (Op.binOp BinOp.neq 3 (Operand.tmp 3) (Operand.tmp 4) 3), none⟩,
  ⟨some 2, (Op.assign (Operand.tmp 5)), none⟩])
 .ret))
theorem fn122 : FnFact Tryd.prog 122 6 [] [(ResultVar.tmp 2)] cd122 := ⟨by kernel_rfl, ⟨Tryd.f122, Tryd.func122, by kernel_rfl, by rfl, Tryd.ntmps122, congrArg Array.toList Tryd.results122⟩⟩
/-- slices.IndexFunc[[]int,int] -/
def cd123 : CC := (.seq (.reg [⟨some 4, (Op.assign (Operand.const (Value.int IntKind.i64 0))), none⟩])
 (.seq (.seq (.reg [⟨some 6, (Op.move (Operand.tmp 0)), none⟩,
  ⟨some 7, (Op.call { callee := (Callee.builtin Builtin.len), args := #[(Operand.tmp 6)], argTypes := #[27] }), none⟩,
  ⟨some 8, (Op.move (Operand.const (Value.int IntKind.i64 0))), none⟩])
 (.block 0 (.loop (.seq (.reg [⟨some 9, (Op.binOp BinOp.lss 3 (Operand.tmp 8) (Operand.tmp 7) 3), none⟩])
 (.seq (.cond (Operand.tmp 9) .skip (.exit 0))
 (.seq (.block 1 (.seq (.reg [⟨some 10, (Op.move (Operand.tmp 8)), none⟩,
  ⟨some 5, (Op.assign (Operand.tmp 10)), none⟩])
 (.seq (.reg [⟨some 11, (Op.move (Operand.tmp 1)), none⟩,
  ⟨some 12, (Op.move (Operand.tmp 0)), none⟩,
  ⟨some 13, (Op.move (Operand.tmp 5)), none⟩,
  ⟨some 14, (Op.indexAddr 27 (Operand.tmp 12) (Operand.tmp 13)), none⟩,
  ⟨some 15, (Op.load 3 (Operand.tmp 14)), none⟩,
  ⟨some 16, (Op.call { callee := (Callee.value (Operand.tmp 11)), args := #[(Operand.tmp 15)], argTypes := #[3] }), none⟩])
 (.cond (Operand.tmp 16) (.seq (.reg [⟨some 17, (Op.move (Operand.tmp 5)), none⟩,
  ⟨some 4, (Op.assign (Operand.tmp 17)), none⟩])
 .ret) .skip))))
 (.reg [⟨some 18, (Op.binOp BinOp.add 3 (Operand.tmp 8) (Operand.const (Value.int IntKind.i64 1)) 3), none⟩,
  ⟨some 8, (Op.move (Operand.tmp 18)), none⟩])))))))
 (.seq (.reg [⟨some 4, (Op.assign (Operand.const (Value.int IntKind.i64 (-1)))), none⟩])
 .ret)))
theorem fn123 : FnFact Tryd.prog 123 19 [] [(ResultVar.tmp 4)] cd123 := ⟨by kernel_rfl, ⟨Tryd.f123, Tryd.func123, by kernel_rfl, by rfl, Tryd.ntmps123, congrArg Array.toList Tryd.results123⟩⟩
end Cd
end Go.Proofs.YtchpcjmgifnmdaaDoor

/- The code of functions without what an evaluation has no need of, by program. -/
namespace Go.Proofs.YtchpcjmgifnmdaaDoor
open Go Go.Proofs.YtchpcjmgifnmdaaDoor.Ab
namespace Cd
/-- examiner/examinerlaw42.ConformChain -/
def cd5 : CC := (.seq (.reg [⟨some 3, (Op.box 24 (Operand.tmp 0)), none⟩,
  ⟨some 4, (Op.box 24 (Operand.tmp 1)), none⟩,
  ⟨some 5, (Op.box 24 (Operand.tmp 2)), none⟩,
  ⟨some 6, (Op.assign (Operand.const (Value.bool false))), none⟩])
 (.seq (.seq (.reg [⟨some 16, (Op.call { callee := (Callee.value (Operand.func 15)), args := #[], argTypes := #[] }), none⟩,
  ⟨some 17, (Op.unOp UnOp.not 4 (Operand.tmp 16)), none⟩])
 (.cond (Operand.tmp 17) (.seq (.reg [⟨some 6, (Op.assign (Operand.const (Value.bool false))), none⟩])
 .ret) .skip))
 (.seq (.seq (.reg [⟨some 18, (Op.load 24 (Operand.tmp 3)), none⟩,
  ⟨some 19, (Op.load 24 (Operand.tmp 4)), none⟩,
  ⟨some 20, (Op.call { callee := (Callee.value (Operand.func 20)), args := #[(Operand.tmp 18), (Operand.tmp 19)], argTypes := #[24, 24] }), none⟩,
  ⟨some 21, (Op.binOp BinOp.neq 3 (Operand.tmp 20) (Operand.const (Value.int IntKind.i64 0)) 3), none⟩,
  ⟨some 22, (Op.move (Operand.tmp 21)), none⟩,
  ⟨some 23, (Op.load 24 (Operand.tmp 4)), some (22, false)⟩,
  ⟨some 24, (Op.load 24 (Operand.tmp 5)), some (22, false)⟩,
  ⟨some 25, (Op.call { callee := (Callee.value (Operand.func 20)), args := #[(Operand.tmp 23), (Operand.tmp 24)], argTypes := #[24, 24] }), some (22, false)⟩,
  ⟨some 26, (Op.binOp BinOp.neq 3 (Operand.tmp 25) (Operand.const (Value.int IntKind.i64 0)) 3), some (22, false)⟩,
  ⟨some 27, (Op.pick (Operand.tmp 22) (Operand.const (Value.bool true)) (Operand.tmp 26)), none⟩,
  ⟨some 28, (Op.move (Operand.tmp 27)), none⟩,
  ⟨some 29, (Op.load 24 (Operand.tmp 3)), some (28, false)⟩,
  ⟨some 30, (Op.call { callee := (Callee.value (Operand.func 16)), args := #[(Operand.tmp 29)], argTypes := #[24] }), some (28, false)⟩,
  ⟨some 31, (Op.unOp UnOp.not 4 (Operand.tmp 30)), some (28, false)⟩,
  ⟨some 32, (Op.pick (Operand.tmp 28) (Operand.const (Value.bool true)) (Operand.tmp 31)), none⟩,
  ⟨some 33, (Op.move (Operand.tmp 32)), none⟩,
  ⟨some 34, (Op.load 24 (Operand.tmp 4)), some (33, false)⟩,
  ⟨some 35, (Op.call { callee := (Callee.value (Operand.func 16)), args := #[(Operand.tmp 34)], argTypes := #[24] }), some (33, false)⟩,
  ⟨some 36, (Op.unOp UnOp.not 4 (Operand.tmp 35)), some (33, false)⟩,
  ⟨some 37, (Op.pick (Operand.tmp 33) (Operand.const (Value.bool true)) (Operand.tmp 36)), none⟩,
  ⟨some 38, (Op.move (Operand.tmp 37)), none⟩,
  ⟨some 39, (Op.load 24 (Operand.tmp 5)), some (38, false)⟩,
  ⟨some 40, (Op.call { callee := (Callee.value (Operand.func 16)), args := #[(Operand.tmp 39)], argTypes := #[24] }), some (38, false)⟩,
  ⟨some 41, (Op.unOp UnOp.not 4 (Operand.tmp 40)), some (38, false)⟩,
  ⟨some 42, (Op.pick (Operand.tmp 38) (Operand.const (Value.bool true)) (Operand.tmp 41)), none⟩])
 (.cond (Operand.tmp 42) (.seq (.reg [⟨some 6, (Op.assign (Operand.const (Value.bool true))), none⟩])
 .ret) .skip))
 (.seq (.dr [⟨0, .R, ⟨some 44, (Op.load 24 (Operand.tmp 3)), none⟩, [], false⟩,
  ⟨2, .F, ⟨some 46, (Op.load 24 (Operand.tmp 4)), none⟩, [], false⟩,
  ⟨1, .E, ⟨some 45, (Op.call { callee := (Callee.value (Operand.func 18)), args := #[(Operand.tmp 44)], argTypes := #[24] }), none⟩, [], false⟩,
  ⟨3, .E, ⟨some 47, (Op.call { callee := (Callee.value (Operand.func 18)), args := #[(Operand.tmp 46)], argTypes := #[24] }), none⟩, [], false⟩,
  ⟨4, .E, ⟨some 48, (Op.call { callee := (Callee.value (Operand.func 17)), args := #[(Operand.tmp 45), (Operand.tmp 47)], argTypes := #[24, 24] }), none⟩, [], false⟩,
  ⟨5, .F, ⟨some 43, (Op.move (Operand.tmp 48)), none⟩, [], false⟩,
  ⟨6, .F, ⟨some 49, (Op.extract (Operand.tmp 43) 0), none⟩, [], false⟩,
  ⟨7, .F, ⟨some 50, (Op.extract (Operand.tmp 43) 1), none⟩, [], false⟩,
  ⟨8, .F, ⟨some 7, (Op.assign (Operand.tmp 49)), none⟩, [], false⟩,
  ⟨9, .F, ⟨some 8, (Op.assign (Operand.tmp 50)), none⟩, [], false⟩])
 (.seq (.dr [⟨0, .R, ⟨some 52, (Op.load 24 (Operand.tmp 4)), none⟩, [], false⟩,
  ⟨2, .F, ⟨some 54, (Op.load 24 (Operand.tmp 5)), none⟩, [], false⟩,
  ⟨1, .E, ⟨some 53, (Op.call { callee := (Callee.value (Operand.func 18)), args := #[(Operand.tmp 52)], argTypes := #[24] }), none⟩, [], false⟩,
  ⟨3, .E, ⟨some 55, (Op.call { callee := (Callee.value (Operand.func 18)), args := #[(Operand.tmp 54)], argTypes := #[24] }), none⟩, [], false⟩,
  ⟨4, .E, ⟨some 56, (Op.call { callee := (Callee.value (Operand.func 17)), args := #[(Operand.tmp 53), (Operand.tmp 55)], argTypes := #[24, 24] }), none⟩, [], false⟩,
  ⟨5, .F, ⟨some 51, (Op.move (Operand.tmp 56)), none⟩, [], false⟩,
  ⟨6, .F, ⟨some 57, (Op.extract (Operand.tmp 51) 0), none⟩, [], false⟩,
  ⟨7, .F, ⟨some 58, (Op.extract (Operand.tmp 51) 1), none⟩, [], false⟩,
  ⟨8, .F, ⟨some 9, (Op.assign (Operand.tmp 57)), none⟩, [], false⟩,
  ⟨9, .F, ⟨some 10, (Op.assign (Operand.tmp 58)), none⟩, [], false⟩])
 (.seq (.dr [⟨0, .R, ⟨some 60, (Op.load 24 (Operand.tmp 3)), none⟩, [], false⟩,
  ⟨2, .F, ⟨some 62, (Op.load 24 (Operand.tmp 5)), none⟩, [], false⟩,
  ⟨1, .E, ⟨some 61, (Op.call { callee := (Callee.value (Operand.func 18)), args := #[(Operand.tmp 60)], argTypes := #[24] }), none⟩, [], false⟩,
  ⟨3, .E, ⟨some 63, (Op.call { callee := (Callee.value (Operand.func 18)), args := #[(Operand.tmp 62)], argTypes := #[24] }), none⟩, [], false⟩,
  ⟨4, .E, ⟨some 64, (Op.call { callee := (Callee.value (Operand.func 17)), args := #[(Operand.tmp 61), (Operand.tmp 63)], argTypes := #[24, 24] }), none⟩, [], false⟩,
  ⟨5, .F, ⟨some 59, (Op.move (Operand.tmp 64)), none⟩, [], false⟩,
  ⟨6, .F, ⟨some 65, (Op.extract (Operand.tmp 59) 0), none⟩, [], false⟩,
  ⟨7, .F, ⟨some 66, (Op.extract (Operand.tmp 59) 1), none⟩, [], false⟩,
  ⟨8, .F, ⟨some 11, (Op.assign (Operand.tmp 65)), none⟩, [], false⟩,
  ⟨9, .F, ⟨some 12, (Op.assign (Operand.tmp 66)), none⟩, [], false⟩])
 (.seq (.reg [⟨some 68, (Op.load 24 (Operand.tmp 4)), none⟩,
  ⟨some 69, (Op.call { callee := (Callee.value (Operand.func 18)), args := #[(Operand.tmp 68)], argTypes := #[24] }), none⟩,
  ⟨some 70, (Op.call { callee := (Callee.value (Operand.func 25)), args := #[(Operand.tmp 69)], argTypes := #[24] }), none⟩,
  ⟨some 67, (Op.move (Operand.tmp 70)), none⟩,
  ⟨some 71, (Op.extract (Operand.tmp 67) 0), none⟩,
  ⟨some 72, (Op.extract (Operand.tmp 67) 1), none⟩,
  ⟨some 73, (Op.extract (Operand.tmp 67) 2), none⟩,
  ⟨some 13, (Op.assign (Operand.tmp 71)), none⟩,
  ⟨some 14, (Op.assign (Operand.tmp 72)), none⟩,
  ⟨some 15, (Op.assign (Operand.tmp 73)), none⟩])
 (.seq (.reg [⟨some 74, (Op.move (Operand.tmp 8)), none⟩,
  ⟨some 75, (Op.binOp BinOp.neq 28 (Operand.tmp 74) (Operand.const (Value.int IntKind.i64 0)) 28), none⟩,
  ⟨some 76, (Op.move (Operand.tmp 75)), none⟩,
  ⟨some 77, (Op.move (Operand.tmp 10)), some (76, false)⟩,
  ⟨some 78, (Op.binOp BinOp.neq 28 (Operand.tmp 77) (Operand.const (Value.int IntKind.i64 0)) 28), some (76, false)⟩,
  ⟨some 79, (Op.pick (Operand.tmp 76) (Operand.const (Value.bool true)) (Operand.tmp 78)), none⟩,
  ⟨some 80, (Op.move (Operand.tmp 79)), none⟩,
  ⟨some 81, (Op.move (Operand.tmp 15)), some (80, false)⟩,
  ⟨some 82, (Op.binOp BinOp.neq 28 (Operand.tmp 81) (Operand.const (Value.int IntKind.i64 0)) 28), some (80, false)⟩,
  ⟨some 83, (Op.pick (Operand.tmp 80) (Operand.const (Value.bool true)) (Operand.tmp 82)), none⟩,
  ⟨some 84, (Op.move (Operand.tmp 83)), none⟩,
  ⟨some 85, (Op.move (Operand.tmp 12)), some (84, false)⟩,
  ⟨some 86, (Op.binOp BinOp.eql 28 (Operand.tmp 85) (Operand.const (Value.int IntKind.i64 0)) 28), some (84, false)⟩,
  ⟨some 87, (Op.pick (Operand.tmp 84) (Operand.const (Value.bool true)) (Operand.tmp 86)), none⟩,
  ⟨some 6, (Op.assign (Operand.tmp 87)), none⟩])
 .ret))))))))
theorem fn5 : FnFact Tryd.prog 5 88 [(5, [(0, 3), (2, 0), (1, 2), (3, 2), (4, 2), (5, 0), (6, 0), (7, 0), (8, 0), (9, 0)], [[], [0], [], [0, 1, 2], [0, 1, 2, 3], [0, 1, 2, 3, 4], [0, 1, 2, 3, 4, 5], [0, 1, 2, 3, 4, 5], [0, 1, 2, 3, 4, 5, 6], [0, 1, 2, 3, 4, 5, 6, 7, 8]]), (6, [(0, 3), (2, 0), (1, 2), (3, 2), (4, 2), (5, 0), (6, 0), (7, 0), (8, 0), (9, 0)], [[], [0], [], [0, 1, 2], [0, 1, 2, 3], [0, 1, 2, 3, 4], [0, 1, 2, 3, 4, 5], [0, 1, 2, 3, 4, 5], [0, 1, 2, 3, 4, 5, 6], [0, 1, 2, 3, 4, 5, 6, 7, 8]]), (7, [(0, 3), (2, 0), (1, 2), (3, 2), (4, 2), (5, 0), (6, 0), (7, 0), (8, 0), (9, 0)], [[], [0], [], [0, 1, 2], [0, 1, 2, 3], [0, 1, 2, 3, 4], [0, 1, 2, 3, 4, 5], [0, 1, 2, 3, 4, 5], [0, 1, 2, 3, 4, 5, 6], [0, 1, 2, 3, 4, 5, 6, 7, 8]])] [(ResultVar.tmp 6)] cd5 := ⟨by kernel_rfl, ⟨Tryd.f5, Tryd.func5, by kernel_rfl, by rfl, Tryd.ntmps5, congrArg Array.toList Tryd.results5⟩⟩
/-- examiner/examinerlaw42.awake -/
def cd15 : CC := (.seq (.reg [⟨some 0, (Op.assign (Operand.const (Value.bool false))), none⟩])
 (.seq (.reg [⟨some 6, (Op.call { callee := (Callee.value (Operand.func 56)), args := #[], argTypes := #[] }), none⟩,
  ⟨some 7, (Op.call { callee := (Callee.value (Operand.func 57)), args := #[], argTypes := #[] }), none⟩,
  ⟨some 8, (Op.call { callee := (Callee.value (Operand.func 17)), args := #[(Operand.tmp 6), (Operand.tmp 7)], argTypes := #[24, 24] }), none⟩,
  ⟨some 5, (Op.move (Operand.tmp 8)), none⟩,
  ⟨some 9, (Op.extract (Operand.tmp 5) 0), none⟩,
  ⟨some 10, (Op.extract (Operand.tmp 5) 1), none⟩,
  ⟨some 1, (Op.assign (Operand.tmp 9)), none⟩,
  ⟨some 2, (Op.assign (Operand.tmp 10)), none⟩])
 (.seq (.reg [⟨some 12, (Op.call { callee := (Callee.value (Operand.func 57)), args := #[], argTypes := #[] }), none⟩,
  ⟨some 13, (Op.buildSlice 27 2 #[(0, (Operand.const (Value.int IntKind.i64 0))), (1, (Operand.const (Value.int IntKind.i64 1)))]), none⟩,
  ⟨some 14, (Op.call { callee := (Callee.value (Operand.func 29)), args := #[(Operand.tmp 12), (Operand.tmp 13)], argTypes := #[24, 27] }), none⟩,
  ⟨some 11, (Op.move (Operand.tmp 14)), none⟩,
  ⟨some 15, (Op.extract (Operand.tmp 11) 0), none⟩,
  ⟨some 16, (Op.extract (Operand.tmp 11) 1), none⟩,
  ⟨some 3, (Op.assign (Operand.tmp 15)), none⟩,
  ⟨some 4, (Op.assign (Operand.tmp 16)), none⟩])
 (.seq (.reg [⟨some 17, (Op.move (Operand.tmp 2)), none⟩,
  ⟨some 18, (Op.binOp BinOp.eql 28 (Operand.tmp 17) (Operand.const (Value.int IntKind.i64 29)) 28), none⟩,
  ⟨some 19, (Op.move (Operand.tmp 18)), none⟩,
  ⟨some 20, (Op.move (Operand.tmp 1)), some (19, true)⟩,
  ⟨some 21, (Op.buildSlice 27 2 #[(0, (Operand.const (Value.int IntKind.i64 0))), (1, (Operand.const (Value.int IntKind.i64 2)))]), some (19, true)⟩,
  ⟨some 22, (Op.call { callee := (Callee.value (Operand.func 22)), args := #[(Operand.tmp 20), (Operand.tmp 21)], argTypes := #[27, 27] }), some (19, true)⟩,
  ⟨some 23, (Op.pick (Operand.tmp 19) (Operand.tmp 22) (Operand.const (Value.bool false))), none⟩,
  ⟨some 24, (Op.move (Operand.tmp 23)), none⟩,
  ⟨some 25, (Op.move (Operand.tmp 4)), some (24, true)⟩,
  ⟨some 26, (Op.binOp BinOp.eql 28 (Operand.tmp 25) (Operand.const (Value.int IntKind.i64 0)) 28), some (24, true)⟩,
  ⟨some 27, (Op.pick (Operand.tmp 24) (Operand.tmp 26) (Operand.const (Value.bool false))), none⟩,
  ⟨some 28, (Op.move (Operand.tmp 27)), none⟩,
  ⟨some 29, (Op.move (Operand.tmp 3)), some (28, true)⟩,
  ⟨some 30, (Op.buildSlice 27 1 #[(0, (Operand.const (Value.int IntKind.i64 2)))]), some (28, true)⟩,
  ⟨some 31, (Op.call { callee := (Callee.value (Operand.func 22)), args := #[(Operand.tmp 29), (Operand.tmp 30)], argTypes := #[27, 27] }), some (28, true)⟩,
  ⟨some 32, (Op.pick (Operand.tmp 28) (Operand.tmp 31) (Operand.const (Value.bool false))), none⟩,
  ⟨some 0, (Op.assign (Operand.tmp 32)), none⟩])
 .ret))))
theorem fn15 : FnFact Tryd.prog 15 33 [] [(ResultVar.tmp 0)] cd15 := ⟨by kernel_rfl, ⟨Tryd.f15, Tryd.func15, by kernel_rfl, by rfl, Tryd.ntmps15, congrArg Array.toList Tryd.results15⟩⟩
/-- examiner/examinerlaw42.few -/
def cd16 : CC := (.seq (.reg [⟨some 1, (Op.box 24 (Operand.tmp 0)), none⟩,
  ⟨some 2, (Op.assign (Operand.const (Value.bool false))), none⟩])
 (.seq (.reg [⟨some 3, (Op.load 24 (Operand.tmp 1)), none⟩,
  ⟨some 4, (Op.call { callee := (Callee.value (Operand.func 27)), args := #[(Operand.tmp 3)], argTypes := #[24] }), none⟩,
  ⟨some 5, (Op.binOp BinOp.neq 3 (Operand.tmp 4) (Operand.const (Value.int IntKind.i64 0)) 3), none⟩,
  ⟨some 6, (Op.move (Operand.tmp 5)), none⟩,
  ⟨some 7, (Op.fieldAddr 24 (Operand.tmp 1) 0), some (6, false)⟩,
  ⟨some 8, (Op.load 3 (Operand.tmp 7)), some (6, false)⟩,
  ⟨some 9, (Op.binOp BinOp.leq 3 (Operand.tmp 8) (Operand.const (Value.int IntKind.i64 6)) 3), some (6, false)⟩,
  ⟨some 10, (Op.move (Operand.tmp 9)), some (6, false)⟩,
  ⟨some 11, (Op.fieldAddr 24 (Operand.tmp 1) 2), some (10, true)⟩,
  ⟨some 12, (Op.load 3 (Operand.tmp 11)), some (10, true)⟩,
  ⟨some 13, (Op.binOp BinOp.leq 3 (Operand.tmp 12) (Operand.const (Value.int IntKind.i64 2)) 3), some (10, true)⟩,
  ⟨some 14, (Op.pick (Operand.tmp 10) (Operand.tmp 13) (Operand.const (Value.bool false))), some (6, false)⟩,
  ⟨some 15, (Op.move (Operand.tmp 14)), some (6, false)⟩,
  ⟨some 16, (Op.fieldAddr 24 (Operand.tmp 1) 3), some (15, true)⟩,
  ⟨some 17, (Op.load 3 (Operand.tmp 16)), some (15, true)⟩,
  ⟨some 18, (Op.binOp BinOp.leq 3 (Operand.tmp 17) (Operand.const (Value.int IntKind.i64 2)) 3), some (15, true)⟩,
  ⟨some 19, (Op.pick (Operand.tmp 15) (Operand.tmp 18) (Operand.const (Value.bool false))), some (6, false)⟩,
  ⟨some 20, (Op.move (Operand.tmp 19)), some (6, false)⟩,
  ⟨some 21, (Op.fieldAddr 24 (Operand.tmp 1) 4), some (20, true)⟩,
  ⟨some 22, (Op.load 22 (Operand.tmp 21)), some (20, true)⟩,
  ⟨some 23, (Op.call { callee := (Callee.builtin Builtin.len), args := #[(Operand.tmp 22)], argTypes := #[22] }), some (20, true)⟩,
  ⟨some 24, (Op.binOp BinOp.leq 3 (Operand.tmp 23) (Operand.const (Value.int IntKind.i64 20)) 3), some (20, true)⟩,
  ⟨some 25, (Op.pick (Operand.tmp 20) (Operand.tmp 24) (Operand.const (Value.bool false))), some (6, false)⟩,
  ⟨some 26, (Op.pick (Operand.tmp 6) (Operand.const (Value.bool true)) (Operand.tmp 25)), none⟩,
  ⟨some 2, (Op.assign (Operand.tmp 26)), none⟩])
 .ret))
theorem fn16 : FnFact Tryd.prog 16 27 [] [(ResultVar.tmp 2)] cd16 := ⟨by kernel_rfl, ⟨Tryd.f16, Tryd.func16, by kernel_rfl, by rfl, Tryd.ntmps16, congrArg Array.toList Tryd.results16⟩⟩
/-- examiner/conform.Conforms -/
def cd17 : CC := (.seq (.reg [⟨some 2, (Op.box 24 (Operand.tmp 0)), none⟩,
  ⟨some 3, (Op.box 24 (Operand.tmp 1)), none⟩,
  ⟨some 4, (Op.assign (Operand.const (Value.slice none 0 0))), none⟩,
  ⟨some 5, (Op.assign (Operand.const (Value.int IntKind.i64 0))), none⟩])
 (.seq (.seq (.reg [⟨some 9, (Op.load 24 (Operand.tmp 2)), none⟩,
  ⟨some 10, (Op.load 24 (Operand.tmp 3)), none⟩,
  ⟨some 11, (Op.call { callee := (Callee.value (Operand.func 58)), args := #[(Operand.tmp 9), (Operand.tmp 10)], argTypes := #[24, 24] }), none⟩,
  ⟨some 6, (Op.assign (Operand.tmp 11)), none⟩])
 (.seq (.reg [⟨some 12, (Op.move (Operand.tmp 6)), none⟩,
  ⟨some 13, (Op.binOp BinOp.neq 28 (Operand.tmp 12) (Operand.const (Value.int IntKind.i64 0)) 28), none⟩])
 (.cond (Operand.tmp 13) (.seq (.reg [⟨some 14, (Op.move (Operand.tmp 6)), none⟩,
  ⟨some 4, (Op.assign (Operand.const (Value.slice none 0 0))), none⟩,
  ⟨some 5, (Op.assign (Operand.tmp 14)), none⟩])
 .ret) .skip)))
 (.seq (.reg [⟨some 16, (Op.load 24 (Operand.tmp 2)), none⟩,
  ⟨some 17, (Op.load 24 (Operand.tmp 3)), none⟩,
  ⟨some 18, (Op.call { callee := (Callee.value (Operand.func 59)), args := #[(Operand.tmp 16), (Operand.tmp 17)], argTypes := #[24, 24] }), none⟩,
  ⟨some 19, (Op.call { callee := (Callee.value (Operand.func 60)), args := #[(Operand.tmp 18)], argTypes := #[95] }), none⟩,
  ⟨some 15, (Op.move (Operand.tmp 19)), none⟩,
  ⟨some 20, (Op.extract (Operand.tmp 15) 0), none⟩,
  ⟨some 21, (Op.extract (Operand.tmp 15) 1), none⟩,
  ⟨some 7, (Op.assign (Operand.tmp 20)), none⟩,
  ⟨some 8, (Op.assign (Operand.tmp 21)), none⟩])
 (.seq (.reg [⟨some 22, (Op.move (Operand.tmp 7)), none⟩,
  ⟨some 23, (Op.move (Operand.tmp 8)), none⟩,
  ⟨some 24, (Op.unOp UnOp.not 4 (Operand.tmp 23)), none⟩,
  ⟨some 25, (Op.call { callee := (Callee.value (Operand.func 61)), args := #[(Operand.tmp 24), (Operand.const (Value.int IntKind.i64 29))], argTypes := #[4, 28] }), none⟩,
  ⟨some 4, (Op.assign (Operand.tmp 22)), none⟩,
  ⟨some 5, (Op.assign (Operand.tmp 25)), none⟩])
 .ret))))
theorem fn17 : FnFact Tryd.prog 17 26 [] [(ResultVar.tmp 4), (ResultVar.tmp 5)] cd17 := ⟨by kernel_rfl, ⟨Tryd.f17, Tryd.func17, by kernel_rfl, by rfl, Tryd.ntmps17, congrArg Array.toList Tryd.results17⟩⟩
/-- examiner/examinerref42.Own -/
def cd18 : CC := (.seq (.reg [⟨some 1, (Op.box 24 (Operand.tmp 0)), none⟩,
  ⟨some 2, (Op.alloc 24), none⟩])
 (.seq (.reg [⟨some 3, (Op.buildSlice 22 0 #[]), none⟩,
  ⟨some 4, (Op.fieldAddr 24 (Operand.tmp 1) 4), none⟩,
  ⟨some 5, (Op.load 22 (Operand.tmp 4)), none⟩,
  ⟨some 6, (Op.call { callee := (Callee.builtin Builtin.append), args := #[(Operand.tmp 3), (Operand.tmp 5)], argTypes := #[22, 22] }), none⟩,
  ⟨some 7, (Op.fieldAddr 24 (Operand.tmp 1) 4), none⟩,
  ⟨none, (Op.store 22 (Operand.tmp 7) (Operand.tmp 6)), none⟩])
 (.seq (.reg [⟨some 8, (Op.load 24 (Operand.tmp 1)), none⟩,
  ⟨none, (Op.store 24 (Operand.tmp 2) (Operand.tmp 8)), none⟩])
 .ret)))
theorem fn18 : FnFact Tryd.prog 18 9 [] [(ResultVar.cell 2 24)] cd18 := ⟨by kernel_rfl, ⟨Tryd.f18, Tryd.func18, by kernel_rfl, by rfl, Tryd.ntmps18, congrArg Array.toList Tryd.results18⟩⟩
/-- examiner/examinerref42.TwoErr -/
def cd20 : CC := (.seq (.reg [⟨some 2, (Op.box 24 (Operand.tmp 0)), none⟩,
  ⟨some 3, (Op.box 24 (Operand.tmp 1)), none⟩,
  ⟨some 4, (Op.assign (Operand.const (Value.int IntKind.i64 0))), none⟩])
 (.seq (.seq (.reg [⟨some 7, (Op.load 24 (Operand.tmp 2)), none⟩,
  ⟨some 8, (Op.call { callee := (Callee.value (Operand.func 27)), args := #[(Operand.tmp 7)], argTypes := #[24] }), none⟩,
  ⟨some 5, (Op.assign (Operand.tmp 8)), none⟩])
 (.seq (.reg [⟨some 9, (Op.move (Operand.tmp 5)), none⟩,
  ⟨some 10, (Op.binOp BinOp.neq 3 (Operand.tmp 9) (Operand.const (Value.int IntKind.i64 0)) 3), none⟩])
 (.cond (Operand.tmp 10) (.seq (.reg [⟨some 11, (Op.move (Operand.tmp 5)), none⟩,
  ⟨some 4, (Op.assign (Operand.tmp 11)), none⟩])
 .ret) .skip)))
 (.seq (.seq (.reg [⟨some 12, (Op.load 24 (Operand.tmp 3)), none⟩,
  ⟨some 13, (Op.call { callee := (Callee.value (Operand.func 27)), args := #[(Operand.tmp 12)], argTypes := #[24] }), none⟩,
  ⟨some 6, (Op.assign (Operand.tmp 13)), none⟩])
 (.seq (.reg [⟨some 14, (Op.move (Operand.tmp 6)), none⟩,
  ⟨some 15, (Op.binOp BinOp.neq 3 (Operand.tmp 14) (Operand.const (Value.int IntKind.i64 0)) 3), none⟩])
 (.cond (Operand.tmp 15) (.seq (.reg [⟨some 16, (Op.move (Operand.tmp 6)), none⟩,
  ⟨some 4, (Op.assign (Operand.tmp 16)), none⟩])
 .ret) .skip)))
 (.seq (.seq (.reg [⟨some 17, (Op.fieldAddr 24 (Operand.tmp 2) 2), none⟩,
  ⟨some 18, (Op.load 3 (Operand.tmp 17)), none⟩,
  ⟨some 19, (Op.fieldAddr 24 (Operand.tmp 3) 2), none⟩,
  ⟨some 20, (Op.load 3 (Operand.tmp 19)), none⟩,
  ⟨some 21, (Op.binOp BinOp.neq 3 (Operand.tmp 18) (Operand.tmp 20) 3), none⟩,
  ⟨some 22, (Op.move (Operand.tmp 21)), none⟩,
  ⟨some 23, (Op.fieldAddr 24 (Operand.tmp 2) 3), some (22, false)⟩,
  ⟨some 24, (Op.load 3 (Operand.tmp 23)), some (22, false)⟩,
  ⟨some 25, (Op.fieldAddr 24 (Operand.tmp 3) 3), some (22, false)⟩,
  ⟨some 26, (Op.load 3 (Operand.tmp 25)), some (22, false)⟩,
  ⟨some 27, (Op.binOp BinOp.neq 3 (Operand.tmp 24) (Operand.tmp 26) 3), some (22, false)⟩,
  ⟨some 28, (Op.pick (Operand.tmp 22) (Operand.const (Value.bool true)) (Operand.tmp 27)), none⟩])
 (.cond (Operand.tmp 28) (.seq (.reg [⟨some 4, (Op.assign (Operand.const (Value.int IntKind.i64 6))), none⟩])
 .ret) .skip))
 (.seq (.reg [⟨some 4, (Op.assign (Operand.const (Value.int IntKind.i64 0))), none⟩])
 .ret)))))
theorem fn20 : FnFact Tryd.prog 20 29 [] [(ResultVar.tmp 4)] cd20 := ⟨by kernel_rfl, ⟨Tryd.f20, Tryd.func20, by kernel_rfl, by rfl, Tryd.ntmps20, congrArg Array.toList Tryd.results20⟩⟩
/-- examiner/examinerbase.SameInts -/
def cd22 : CC := (.seq (.reg [⟨some 4, (Op.assign (Operand.const (Value.bool false))), none⟩])
 (.seq (.seq (.reg [⟨some 6, (Op.move (Operand.tmp 0)), none⟩,
  ⟨some 7, (Op.call { callee := (Callee.builtin Builtin.len), args := #[(Operand.tmp 6)], argTypes := #[27] }), none⟩,
  ⟨some 8, (Op.move (Operand.tmp 1)), none⟩,
  ⟨some 9, (Op.call { callee := (Callee.builtin Builtin.len), args := #[(Operand.tmp 8)], argTypes := #[27] }), none⟩,
  ⟨some 10, (Op.binOp BinOp.neq 3 (Operand.tmp 7) (Operand.tmp 9) 3), none⟩])
 (.cond (Operand.tmp 10) (.seq (.reg [⟨some 4, (Op.assign (Operand.const (Value.bool false))), none⟩])
 .ret) .skip))
 (.seq (.seq (.reg [⟨some 5, (Op.assign (Operand.const (Value.int IntKind.i64 0))), none⟩])
 (.block 0 (.loop (.seq (.seq (.reg [⟨some 11, (Op.move (Operand.tmp 5)), none⟩,
  ⟨some 12, (Op.move (Operand.tmp 0)), none⟩,
  ⟨some 13, (Op.call { callee := (Callee.builtin Builtin.len), args := #[(Operand.tmp 12)], argTypes := #[27] }), none⟩,
  ⟨some 14, (Op.binOp BinOp.lss 3 (Operand.tmp 11) (Operand.tmp 13) 3), none⟩])
 (.cond (Operand.tmp 14) .skip (.exit 0)))
 (.seq (.block 1 (.seq (.dr [⟨0, .F, ⟨some 17, (Op.move (Operand.tmp 0)), none⟩, [], false⟩,
  ⟨1, .F, ⟨some 18, (Op.move (Operand.tmp 5)), none⟩, [], false⟩,
  ⟨2, .F, ⟨some 19, (Op.indexAddr 27 (Operand.tmp 17) (Operand.tmp 18)), none⟩, [], false⟩,
  ⟨3, .R, ⟨some 20, (Op.load 3 (Operand.tmp 19)), none⟩, [], false⟩,
  ⟨4, .F, ⟨some 21, (Op.move (Operand.tmp 1)), none⟩, [], false⟩,
  ⟨5, .F, ⟨some 22, (Op.move (Operand.tmp 5)), none⟩, [], false⟩,
  ⟨6, .F, ⟨some 23, (Op.indexAddr 27 (Operand.tmp 21) (Operand.tmp 22)), none⟩, [], false⟩,
  ⟨7, .R, ⟨some 24, (Op.load 3 (Operand.tmp 23)), none⟩, [], false⟩,
  ⟨8, .F, ⟨some 25, (Op.binOp BinOp.neq 3 (Operand.tmp 20) (Operand.tmp 24) 3), none⟩, [], false⟩])
 (.cond (Operand.tmp 25) (.seq (.reg [⟨some 4, (Op.assign (Operand.const (Value.bool false))), none⟩])
 .ret) .skip)))
 (.reg [⟨some 15, (Op.move (Operand.tmp 5)), none⟩,
  ⟨some 16, (Op.binOp BinOp.add 3 (Operand.tmp 15) (Operand.const (Value.int IntKind.i64 1)) 3), none⟩,
  ⟨some 5, (Op.assign (Operand.tmp 16)), none⟩]))))))
 (.seq (.reg [⟨some 4, (Op.assign (Operand.const (Value.bool true))), none⟩])
 .ret))))
theorem fn22 : FnFact Tryd.prog 22 26 [(6, [(0, 0), (1, 0), (2, 0), (3, 3), (4, 0), (5, 0), (6, 0), (7, 3), (8, 0)], [[], [], [0, 1], [0, 1, 2], [], [], [4, 5], [4, 5, 6], [0, 1, 2, 3, 4, 5, 6, 7]])] [(ResultVar.tmp 4)] cd22 := ⟨by kernel_rfl, ⟨Tryd.f22, Tryd.func22, by kernel_rfl, by rfl, Tryd.ntmps22, congrArg Array.toList Tryd.results22⟩⟩
/-- examiner/conform.CheckReactive -/
def cd23 : CC := (.seq (.reg [⟨some 1, (Op.box 24 (Operand.tmp 0)), none⟩,
  ⟨some 2, (Op.assign (Operand.const (Value.int IntKind.i64 0))), none⟩,
  ⟨some 3, (Op.assign (Operand.const (Value.int IntKind.i64 0))), none⟩])
 (.seq (.seq (.reg [⟨some 7, (Op.fieldAddr 24 (Operand.tmp 1) 0), none⟩,
  ⟨some 8, (Op.load 3 (Operand.tmp 7)), none⟩,
  ⟨some 9, (Op.call { callee := (Callee.value (Operand.func 66)), args := #[(Operand.tmp 8), (Operand.const (Value.int IntKind.i64 1)), (Operand.const (Value.int IntKind.i64 10))], argTypes := #[3, 3, 3] }), none⟩,
  ⟨some 10, (Op.unOp UnOp.not 4 (Operand.tmp 9)), none⟩,
  ⟨some 11, (Op.move (Operand.tmp 10)), none⟩,
  ⟨some 12, (Op.fieldAddr 24 (Operand.tmp 1) 1), some (11, false)⟩,
  ⟨some 13, (Op.load 3 (Operand.tmp 12)), some (11, false)⟩,
  ⟨some 14, (Op.fieldAddr 24 (Operand.tmp 1) 0), some (11, false)⟩,
  ⟨some 15, (Op.load 3 (Operand.tmp 14)), some (11, false)⟩,
  ⟨some 16, (Op.binOp BinOp.sub 3 (Operand.tmp 15) (Operand.const (Value.int IntKind.i64 1)) 3), some (11, false)⟩,
  ⟨some 17, (Op.call { callee := (Callee.value (Operand.func 66)), args := #[(Operand.tmp 13), (Operand.const (Value.int IntKind.i64 0)), (Operand.tmp 16)], argTypes := #[3, 3, 3] }), some (11, false)⟩,
  ⟨some 18, (Op.unOp UnOp.not 4 (Operand.tmp 17)), some (11, false)⟩,
  ⟨some 19, (Op.pick (Operand.tmp 11) (Operand.const (Value.bool true)) (Operand.tmp 18)), none⟩,
  ⟨some 20, (Op.move (Operand.tmp 19)), none⟩,
  ⟨some 21, (Op.fieldAddr 24 (Operand.tmp 1) 2), some (20, false)⟩,
  ⟨some 22, (Op.load 3 (Operand.tmp 21)), some (20, false)⟩,
  ⟨some 23, (Op.call { callee := (Callee.value (Operand.func 66)), args := #[(Operand.tmp 22), (Operand.const (Value.int IntKind.i64 0)), (Operand.const (Value.int IntKind.i64 4))], argTypes := #[3, 3, 3] }), some (20, false)⟩,
  ⟨some 24, (Op.unOp UnOp.not 4 (Operand.tmp 23)), some (20, false)⟩,
  ⟨some 25, (Op.pick (Operand.tmp 20) (Operand.const (Value.bool true)) (Operand.tmp 24)), none⟩,
  ⟨some 26, (Op.move (Operand.tmp 25)), none⟩,
  ⟨some 27, (Op.fieldAddr 24 (Operand.tmp 1) 3), some (26, false)⟩,
  ⟨some 28, (Op.load 3 (Operand.tmp 27)), some (26, false)⟩,
  ⟨some 29, (Op.call { callee := (Callee.value (Operand.func 66)), args := #[(Operand.tmp 28), (Operand.const (Value.int IntKind.i64 0)), (Operand.const (Value.int IntKind.i64 4))], argTypes := #[3, 3, 3] }), some (26, false)⟩,
  ⟨some 30, (Op.unOp UnOp.not 4 (Operand.tmp 29)), some (26, false)⟩,
  ⟨some 31, (Op.pick (Operand.tmp 26) (Operand.const (Value.bool true)) (Operand.tmp 30)), none⟩])
 (.cond (Operand.tmp 31) (.seq (.reg [⟨some 2, (Op.assign (Operand.const (Value.int IntKind.i64 0))), none⟩,
  ⟨some 3, (Op.assign (Operand.const (Value.int IntKind.i64 3))), none⟩])
 .ret) .skip))
 (.seq (.seq (.reg [⟨some 32, (Op.fieldAddr 24 (Operand.tmp 1) 4), none⟩,
  ⟨some 33, (Op.load 22 (Operand.tmp 32)), none⟩,
  ⟨some 34, (Op.call { callee := (Callee.builtin Builtin.len), args := #[(Operand.tmp 33)], argTypes := #[22] }), none⟩,
  ⟨some 35, (Op.binOp BinOp.gtr 3 (Operand.tmp 34) (Operand.const (Value.int IntKind.i64 80)) 3), none⟩])
 (.cond (Operand.tmp 35) (.seq (.reg [⟨some 2, (Op.assign (Operand.const (Value.int IntKind.i64 0))), none⟩,
  ⟨some 3, (Op.assign (Operand.const (Value.int IntKind.i64 2))), none⟩])
 .ret) .skip))
 (.seq (.seq (.reg [⟨some 36, (Op.fieldAddr 24 (Operand.tmp 1) 4), none⟩,
  ⟨some 37, (Op.load 22 (Operand.tmp 36)), none⟩,
  ⟨some 38, (Op.call { callee := (Callee.builtin Builtin.len), args := #[(Operand.tmp 37)], argTypes := #[22] }), none⟩,
  ⟨some 39, (Op.move (Operand.const (Value.int IntKind.i64 0))), none⟩])
 (.block 0 (.loop (.seq (.reg [⟨some 40, (Op.binOp BinOp.lss 3 (Operand.tmp 39) (Operand.tmp 38) 3), none⟩])
 (.seq (.cond (Operand.tmp 40) .skip (.exit 0))
 (.seq (.block 1 (.seq (.reg [⟨some 41, (Op.move (Operand.tmp 39)), none⟩,
  ⟨some 42, (Op.indexAddr 22 (Operand.tmp 37) (Operand.tmp 39)), none⟩,
  ⟨some 43, (Op.load 113 (Operand.tmp 42)), none⟩,
  ⟨some 5, (Op.alloc 113), none⟩,
  ⟨some 4, (Op.assign (Operand.tmp 41)), none⟩,
  ⟨none, (Op.store 113 (Operand.tmp 5) (Operand.tmp 43)), none⟩])
 (.seq (.reg [⟨some 6, (Op.assign (Operand.const (Value.int IntKind.i64 1))), none⟩])
 (.seq (.seq (.reg [⟨some 44, (Op.fieldAddr 113 (Operand.tmp 5) 1), none⟩,
  ⟨some 45, (Op.load 3 (Operand.tmp 44)), none⟩])
 (.block 2 (.seq (.reg [⟨some 48, (Op.binOp BinOp.eql 3 (Operand.tmp 45) (Operand.const (Value.int IntKind.i64 0)) 3), none⟩,
  ⟨some 47, (Op.assign (Operand.tmp 48)), none⟩])
 (.cond (Operand.tmp 47) (.reg [⟨some 49, (Op.fieldAddr 24 (Operand.tmp 1) 2), none⟩,
  ⟨some 50, (Op.load 3 (Operand.tmp 49)), none⟩,
  ⟨some 6, (Op.assign (Operand.tmp 50)), none⟩]) (.seq (.reg [⟨some 52, (Op.binOp BinOp.eql 3 (Operand.tmp 45) (Operand.const (Value.int IntKind.i64 1)) 3), none⟩,
  ⟨some 51, (Op.assign (Operand.tmp 52)), none⟩])
 (.cond (Operand.tmp 51) (.reg [⟨some 53, (Op.fieldAddr 24 (Operand.tmp 1) 3), none⟩,
  ⟨some 54, (Op.load 3 (Operand.tmp 53)), none⟩,
  ⟨some 6, (Op.assign (Operand.tmp 54)), none⟩]) (.seq (.reg [⟨some 56, (Op.binOp BinOp.eql 3 (Operand.tmp 45) (Operand.const (Value.int IntKind.i64 2)) 3), none⟩,
  ⟨some 55, (Op.assign (Operand.tmp 56)), none⟩])
 (.cond (Operand.tmp 55) .skip (.seq (.reg [⟨some 46, (Op.move (Operand.tmp 4)), none⟩,
  ⟨some 2, (Op.assign (Operand.tmp 46)), none⟩,
  ⟨some 3, (Op.assign (Operand.const (Value.int IntKind.i64 4))), none⟩])
 .ret)))))))))
 (.seq (.seq (.reg [⟨some 57, (Op.fieldAddr 113 (Operand.tmp 5) 0), none⟩,
  ⟨some 58, (Op.load 3 (Operand.tmp 57)), none⟩,
  ⟨some 59, (Op.fieldAddr 24 (Operand.tmp 1) 0), none⟩,
  ⟨some 60, (Op.load 3 (Operand.tmp 59)), none⟩,
  ⟨some 61, (Op.binOp BinOp.sub 3 (Operand.tmp 60) (Operand.const (Value.int IntKind.i64 1)) 3), none⟩,
  ⟨some 62, (Op.call { callee := (Callee.value (Operand.func 66)), args := #[(Operand.tmp 58), (Operand.const (Value.int IntKind.i64 0)), (Operand.tmp 61)], argTypes := #[3, 3, 3] }), none⟩,
  ⟨some 63, (Op.unOp UnOp.not 4 (Operand.tmp 62)), none⟩,
  ⟨some 64, (Op.move (Operand.tmp 63)), none⟩,
  ⟨some 65, (Op.fieldAddr 113 (Operand.tmp 5) 3), some (64, false)⟩,
  ⟨some 66, (Op.load 3 (Operand.tmp 65)), some (64, false)⟩,
  ⟨some 67, (Op.fieldAddr 24 (Operand.tmp 1) 0), some (64, false)⟩,
  ⟨some 68, (Op.load 3 (Operand.tmp 67)), some (64, false)⟩,
  ⟨some 69, (Op.binOp BinOp.sub 3 (Operand.tmp 68) (Operand.const (Value.int IntKind.i64 1)) 3), some (64, false)⟩,
  ⟨some 70, (Op.call { callee := (Callee.value (Operand.func 66)), args := #[(Operand.tmp 66), (Operand.const (Value.int IntKind.i64 0)), (Operand.tmp 69)], argTypes := #[3, 3, 3] }), some (64, false)⟩,
  ⟨some 71, (Op.unOp UnOp.not 4 (Operand.tmp 70)), some (64, false)⟩,
  ⟨some 72, (Op.pick (Operand.tmp 64) (Operand.const (Value.bool true)) (Operand.tmp 71)), none⟩,
  ⟨some 73, (Op.move (Operand.tmp 72)), none⟩,
  ⟨some 74, (Op.fieldAddr 113 (Operand.tmp 5) 2), some (73, false)⟩,
  ⟨some 75, (Op.load 3 (Operand.tmp 74)), some (73, false)⟩,
  ⟨some 76, (Op.move (Operand.tmp 6)), some (73, false)⟩,
  ⟨some 77, (Op.binOp BinOp.sub 3 (Operand.tmp 76) (Operand.const (Value.int IntKind.i64 1)) 3), some (73, false)⟩,
  ⟨some 78, (Op.call { callee := (Callee.value (Operand.func 66)), args := #[(Operand.tmp 75), (Operand.const (Value.int IntKind.i64 0)), (Operand.tmp 77)], argTypes := #[3, 3, 3] }), some (73, false)⟩,
  ⟨some 79, (Op.unOp UnOp.not 4 (Operand.tmp 78)), some (73, false)⟩,
  ⟨some 80, (Op.pick (Operand.tmp 73) (Operand.const (Value.bool true)) (Operand.tmp 79)), none⟩])
 (.cond (Operand.tmp 80) (.seq (.reg [⟨some 81, (Op.move (Operand.tmp 4)), none⟩,
  ⟨some 2, (Op.assign (Operand.tmp 81)), none⟩,
  ⟨some 3, (Op.assign (Operand.const (Value.int IntKind.i64 3))), none⟩])
 .ret) .skip))
 (.seq (.dr [⟨0, .F, ⟨some 82, (Op.move (Operand.tmp 4)), none⟩, [], false⟩,
  ⟨1, .F, ⟨some 83, (Op.binOp BinOp.gtr 3 (Operand.tmp 82) (Operand.const (Value.int IntKind.i64 0)) 3), none⟩, [], false⟩,
  ⟨2, .F, ⟨some 84, (Op.move (Operand.tmp 83)), none⟩, [], false⟩,
  ⟨3, .F, ⟨some 85, (Op.fieldAddr 24 (Operand.tmp 1) 4), some (84, true)⟩, [], false⟩,
  ⟨4, .R, ⟨some 86, (Op.load 22 (Operand.tmp 85)), some (84, true)⟩, [], false⟩,
  ⟨5, .F, ⟨some 87, (Op.move (Operand.tmp 4)), some (84, true)⟩, [], false⟩,
  ⟨6, .F, ⟨some 88, (Op.binOp BinOp.sub 3 (Operand.tmp 87) (Operand.const (Value.int IntKind.i64 1)) 3), some (84, true)⟩, [], false⟩,
  ⟨7, .F, ⟨some 89, (Op.indexAddr 22 (Operand.tmp 86) (Operand.tmp 88)), some (84, true)⟩, [], false⟩,
  ⟨8, .R, ⟨some 90, (Op.load 113 (Operand.tmp 89)), some (84, true)⟩, [], false⟩,
  ⟨9, .R, ⟨some 91, (Op.load 113 (Operand.tmp 5)), some (84, true)⟩, [], false⟩,
  ⟨10, .E, ⟨some 92, (Op.call { callee := (Callee.value (Operand.func 67)), args := #[(Operand.tmp 90), (Operand.tmp 91)], argTypes := #[113, 113] }), some (84, true)⟩, [], false⟩,
  ⟨11, .F, ⟨some 93, (Op.binOp BinOp.geq 3 (Operand.tmp 92) (Operand.const (Value.int IntKind.i64 0)) 3), some (84, true)⟩, [], false⟩,
  ⟨12, .F, ⟨some 94, (Op.pick (Operand.tmp 84) (Operand.tmp 93) (Operand.const (Value.bool false))), none⟩, [], false⟩])
 (.cond (Operand.tmp 94) (.seq (.reg [⟨some 95, (Op.move (Operand.tmp 4)), none⟩,
  ⟨some 2, (Op.assign (Operand.tmp 95)), none⟩,
  ⟨some 3, (Op.assign (Operand.const (Value.int IntKind.i64 14))), none⟩])
 .ret) .skip)))))))
 (.reg [⟨some 96, (Op.binOp BinOp.add 3 (Operand.tmp 39) (Operand.const (Value.int IntKind.i64 1)) 3), none⟩,
  ⟨some 39, (Op.move (Operand.tmp 96)), none⟩])))))))
 (.seq (.reg [⟨some 2, (Op.assign (Operand.const (Value.int IntKind.i64 0))), none⟩,
  ⟨some 3, (Op.assign (Operand.const (Value.int IntKind.i64 0))), none⟩])
 .ret)))))
theorem fn23 : FnFact Tryd.prog 23 97 [(18, [(0, 0), (1, 0), (2, 0), (3, 0), (4, 3), (5, 0), (6, 0), (7, 0), (8, 3), (9, 3), (10, 2), (11, 0), (12, 0)], [[], [0], [0, 1], [0, 1, 2], [0, 1, 2, 3], [0, 1, 2], [0, 1, 2, 5], [0, 1, 2, 3, 4, 5, 6], [0, 1, 2, 3, 4, 5, 6, 7], [0, 1, 2], [0, 1, 2, 3, 4, 5, 6, 7, 8, 9], [0, 1, 2, 3, 4, 5, 6, 7, 8, 9, 10], [0, 1, 2, 3, 4, 5, 6, 7, 8, 9, 10, 11]])] [(ResultVar.tmp 2), (ResultVar.tmp 3)] cd23 := ⟨by kernel_rfl, ⟨Tryd.f23, Tryd.func23, by kernel_rfl, by rfl, Tryd.ntmps23, congrArg Array.toList Tryd.results23⟩⟩
/-- examiner/examinerref42.ReactErr -/
def cd24 : CC := (.seq (.reg [⟨some 1, (Op.box 24 (Operand.tmp 0)), none⟩,
  ⟨some 2, (Op.assign (Operand.const (Value.int IntKind.i64 0))), none⟩,
  ⟨some 3, (Op.assign (Operand.const (Value.int IntKind.i64 0))), none⟩])
 (.seq (.seq (.reg [⟨some 7, (Op.fieldAddr 24 (Operand.tmp 1) 0), none⟩,
  ⟨some 8, (Op.load 3 (Operand.tmp 7)), none⟩,
  ⟨some 9, (Op.call { callee := (Callee.value (Operand.func 36)), args := #[(Operand.tmp 8), (Operand.const (Value.int IntKind.i64 1)), (Operand.const (Value.int IntKind.i64 10))], argTypes := #[3, 3, 3] }), none⟩,
  ⟨some 10, (Op.unOp UnOp.not 4 (Operand.tmp 9)), none⟩,
  ⟨some 11, (Op.move (Operand.tmp 10)), none⟩,
  ⟨some 12, (Op.fieldAddr 24 (Operand.tmp 1) 1), some (11, false)⟩,
  ⟨some 13, (Op.load 3 (Operand.tmp 12)), some (11, false)⟩,
  ⟨some 14, (Op.fieldAddr 24 (Operand.tmp 1) 0), some (11, false)⟩,
  ⟨some 15, (Op.load 3 (Operand.tmp 14)), some (11, false)⟩,
  ⟨some 16, (Op.binOp BinOp.sub 3 (Operand.tmp 15) (Operand.const (Value.int IntKind.i64 1)) 3), some (11, false)⟩,
  ⟨some 17, (Op.call { callee := (Callee.value (Operand.func 36)), args := #[(Operand.tmp 13), (Operand.const (Value.int IntKind.i64 0)), (Operand.tmp 16)], argTypes := #[3, 3, 3] }), some (11, false)⟩,
  ⟨some 18, (Op.unOp UnOp.not 4 (Operand.tmp 17)), some (11, false)⟩,
  ⟨some 19, (Op.pick (Operand.tmp 11) (Operand.const (Value.bool true)) (Operand.tmp 18)), none⟩,
  ⟨some 20, (Op.move (Operand.tmp 19)), none⟩,
  ⟨some 21, (Op.fieldAddr 24 (Operand.tmp 1) 2), some (20, false)⟩,
  ⟨some 22, (Op.load 3 (Operand.tmp 21)), some (20, false)⟩,
  ⟨some 23, (Op.call { callee := (Callee.value (Operand.func 36)), args := #[(Operand.tmp 22), (Operand.const (Value.int IntKind.i64 0)), (Operand.const (Value.int IntKind.i64 4))], argTypes := #[3, 3, 3] }), some (20, false)⟩,
  ⟨some 24, (Op.unOp UnOp.not 4 (Operand.tmp 23)), some (20, false)⟩,
  ⟨some 25, (Op.pick (Operand.tmp 20) (Operand.const (Value.bool true)) (Operand.tmp 24)), none⟩,
  ⟨some 26, (Op.move (Operand.tmp 25)), none⟩,
  ⟨some 27, (Op.fieldAddr 24 (Operand.tmp 1) 3), some (26, false)⟩,
  ⟨some 28, (Op.load 3 (Operand.tmp 27)), some (26, false)⟩,
  ⟨some 29, (Op.call { callee := (Callee.value (Operand.func 36)), args := #[(Operand.tmp 28), (Operand.const (Value.int IntKind.i64 0)), (Operand.const (Value.int IntKind.i64 4))], argTypes := #[3, 3, 3] }), some (26, false)⟩,
  ⟨some 30, (Op.unOp UnOp.not 4 (Operand.tmp 29)), some (26, false)⟩,
  ⟨some 31, (Op.pick (Operand.tmp 26) (Operand.const (Value.bool true)) (Operand.tmp 30)), none⟩])
 (.cond (Operand.tmp 31) (.seq (.reg [⟨some 2, (Op.assign (Operand.const (Value.int IntKind.i64 0))), none⟩,
  ⟨some 3, (Op.assign (Operand.const (Value.int IntKind.i64 3))), none⟩])
 .ret) .skip))
 (.seq (.seq (.reg [⟨some 32, (Op.fieldAddr 24 (Operand.tmp 1) 4), none⟩,
  ⟨some 33, (Op.load 22 (Operand.tmp 32)), none⟩,
  ⟨some 34, (Op.call { callee := (Callee.builtin Builtin.len), args := #[(Operand.tmp 33)], argTypes := #[22] }), none⟩,
  ⟨some 35, (Op.binOp BinOp.gtr 3 (Operand.tmp 34) (Operand.const (Value.int IntKind.i64 80)) 3), none⟩])
 (.cond (Operand.tmp 35) (.seq (.reg [⟨some 2, (Op.assign (Operand.const (Value.int IntKind.i64 0))), none⟩,
  ⟨some 3, (Op.assign (Operand.const (Value.int IntKind.i64 2))), none⟩])
 .ret) .skip))
 (.seq (.seq (.reg [⟨some 4, (Op.assign (Operand.const (Value.int IntKind.i64 0))), none⟩])
 (.block 0 (.loop (.seq (.seq (.reg [⟨some 36, (Op.move (Operand.tmp 4)), none⟩,
  ⟨some 37, (Op.fieldAddr 24 (Operand.tmp 1) 4), none⟩,
  ⟨some 38, (Op.load 22 (Operand.tmp 37)), none⟩,
  ⟨some 39, (Op.call { callee := (Callee.builtin Builtin.len), args := #[(Operand.tmp 38)], argTypes := #[22] }), none⟩,
  ⟨some 40, (Op.binOp BinOp.lss 3 (Operand.tmp 36) (Operand.tmp 39) 3), none⟩])
 (.cond (Operand.tmp 40) .skip (.exit 0)))
 (.seq (.block 1 (.seq (.reg [⟨some 43, (Op.fieldAddr 24 (Operand.tmp 1) 4), none⟩,
  ⟨some 44, (Op.load 22 (Operand.tmp 43)), none⟩,
  ⟨some 45, (Op.move (Operand.tmp 4)), none⟩,
  ⟨some 46, (Op.indexAddr 22 (Operand.tmp 44) (Operand.tmp 45)), none⟩,
  ⟨some 47, (Op.load 113 (Operand.tmp 46)), none⟩,
  ⟨some 5, (Op.alloc 113), none⟩,
  ⟨none, (Op.store 113 (Operand.tmp 5) (Operand.tmp 47)), none⟩])
 (.seq (.seq (.reg [⟨some 48, (Op.fieldAddr 113 (Operand.tmp 5) 1), none⟩,
  ⟨some 49, (Op.load 3 (Operand.tmp 48)), none⟩,
  ⟨some 50, (Op.call { callee := (Callee.value (Operand.func 36)), args := #[(Operand.tmp 49), (Operand.const (Value.int IntKind.i64 0)), (Operand.const (Value.int IntKind.i64 2))], argTypes := #[3, 3, 3] }), none⟩,
  ⟨some 51, (Op.unOp UnOp.not 4 (Operand.tmp 50)), none⟩])
 (.cond (Operand.tmp 51) (.seq (.reg [⟨some 52, (Op.move (Operand.tmp 4)), none⟩,
  ⟨some 2, (Op.assign (Operand.tmp 52)), none⟩,
  ⟨some 3, (Op.assign (Operand.const (Value.int IntKind.i64 4))), none⟩])
 .ret) .skip))
 (.seq (.reg [⟨some 6, (Op.assign (Operand.const (Value.int IntKind.i64 0))), none⟩])
 (.seq (.seq (.reg [⟨some 53, (Op.fieldAddr 113 (Operand.tmp 5) 1), none⟩,
  ⟨some 54, (Op.load 3 (Operand.tmp 53)), none⟩,
  ⟨some 55, (Op.binOp BinOp.eql 3 (Operand.tmp 54) (Operand.const (Value.int IntKind.i64 0)) 3), none⟩])
 (.cond (Operand.tmp 55) (.reg [⟨some 56, (Op.fieldAddr 24 (Operand.tmp 1) 2), none⟩,
  ⟨some 57, (Op.load 3 (Operand.tmp 56)), none⟩,
  ⟨some 58, (Op.binOp BinOp.sub 3 (Operand.tmp 57) (Operand.const (Value.int IntKind.i64 1)) 3), none⟩,
  ⟨some 6, (Op.assign (Operand.tmp 58)), none⟩]) .skip))
 (.seq (.seq (.reg [⟨some 59, (Op.fieldAddr 113 (Operand.tmp 5) 1), none⟩,
  ⟨some 60, (Op.load 3 (Operand.tmp 59)), none⟩,
  ⟨some 61, (Op.binOp BinOp.eql 3 (Operand.tmp 60) (Operand.const (Value.int IntKind.i64 1)) 3), none⟩])
 (.cond (Operand.tmp 61) (.reg [⟨some 62, (Op.fieldAddr 24 (Operand.tmp 1) 3), none⟩,
  ⟨some 63, (Op.load 3 (Operand.tmp 62)), none⟩,
  ⟨some 64, (Op.binOp BinOp.sub 3 (Operand.tmp 63) (Operand.const (Value.int IntKind.i64 1)) 3), none⟩,
  ⟨some 6, (Op.assign (Operand.tmp 64)), none⟩]) .skip))
 (.seq (.seq (.reg [⟨some 65, (Op.fieldAddr 113 (Operand.tmp 5) 0), none⟩,
  ⟨some 66, (Op.load 3 (Operand.tmp 65)), none⟩,
  ⟨some 67, (Op.fieldAddr 24 (Operand.tmp 1) 0), none⟩,
  ⟨some 68, (Op.load 3 (Operand.tmp 67)), none⟩,
  ⟨some 69, (Op.binOp BinOp.sub 3 (Operand.tmp 68) (Operand.const (Value.int IntKind.i64 1)) 3), none⟩,
  ⟨some 70, (Op.call { callee := (Callee.value (Operand.func 36)), args := #[(Operand.tmp 66), (Operand.const (Value.int IntKind.i64 0)), (Operand.tmp 69)], argTypes := #[3, 3, 3] }), none⟩,
  ⟨some 71, (Op.unOp UnOp.not 4 (Operand.tmp 70)), none⟩,
  ⟨some 72, (Op.move (Operand.tmp 71)), none⟩,
  ⟨some 73, (Op.fieldAddr 113 (Operand.tmp 5) 3), some (72, false)⟩,
  ⟨some 74, (Op.load 3 (Operand.tmp 73)), some (72, false)⟩,
  ⟨some 75, (Op.fieldAddr 24 (Operand.tmp 1) 0), some (72, false)⟩,
  ⟨some 76, (Op.load 3 (Operand.tmp 75)), some (72, false)⟩,
  ⟨some 77, (Op.binOp BinOp.sub 3 (Operand.tmp 76) (Operand.const (Value.int IntKind.i64 1)) 3), some (72, false)⟩,
  ⟨some 78, (Op.call { callee := (Callee.value (Operand.func 36)), args := #[(Operand.tmp 74), (Operand.const (Value.int IntKind.i64 0)), (Operand.tmp 77)], argTypes := #[3, 3, 3] }), some (72, false)⟩,
  ⟨some 79, (Op.unOp UnOp.not 4 (Operand.tmp 78)), some (72, false)⟩,
  ⟨some 80, (Op.pick (Operand.tmp 72) (Operand.const (Value.bool true)) (Operand.tmp 79)), none⟩,
  ⟨some 81, (Op.move (Operand.tmp 80)), none⟩,
  ⟨some 82, (Op.fieldAddr 113 (Operand.tmp 5) 2), some (81, false)⟩,
  ⟨some 83, (Op.load 3 (Operand.tmp 82)), some (81, false)⟩,
  ⟨some 84, (Op.move (Operand.tmp 6)), some (81, false)⟩,
  ⟨some 85, (Op.call { callee := (Callee.value (Operand.func 36)), args := #[(Operand.tmp 83), (Operand.const (Value.int IntKind.i64 0)), (Operand.tmp 84)], argTypes := #[3, 3, 3] }), some (81, false)⟩,
  ⟨some 86, (Op.unOp UnOp.not 4 (Operand.tmp 85)), some (81, false)⟩,
  ⟨some 87, (Op.pick (Operand.tmp 81) (Operand.const (Value.bool true)) (Operand.tmp 86)), none⟩])
 (.cond (Operand.tmp 87) (.seq (.reg [⟨some 88, (Op.move (Operand.tmp 4)), none⟩,
  ⟨some 2, (Op.assign (Operand.tmp 88)), none⟩,
  ⟨some 3, (Op.assign (Operand.const (Value.int IntKind.i64 3))), none⟩])
 .ret) .skip))
 (.seq (.dr [⟨0, .F, ⟨some 89, (Op.move (Operand.tmp 4)), none⟩, [], false⟩,
  ⟨1, .F, ⟨some 90, (Op.binOp BinOp.gtr 3 (Operand.tmp 89) (Operand.const (Value.int IntKind.i64 0)) 3), none⟩, [], false⟩,
  ⟨2, .F, ⟨some 91, (Op.move (Operand.tmp 90)), none⟩, [], false⟩,
  ⟨3, .F, ⟨some 92, (Op.fieldAddr 24 (Operand.tmp 1) 4), some (91, true)⟩, [], false⟩,
  ⟨4, .R, ⟨some 93, (Op.load 22 (Operand.tmp 92)), some (91, true)⟩, [], false⟩,
  ⟨5, .F, ⟨some 94, (Op.move (Operand.tmp 4)), some (91, true)⟩, [], false⟩,
  ⟨6, .F, ⟨some 95, (Op.binOp BinOp.sub 3 (Operand.tmp 94) (Operand.const (Value.int IntKind.i64 1)) 3), some (91, true)⟩, [], false⟩,
  ⟨7, .F, ⟨some 96, (Op.indexAddr 22 (Operand.tmp 93) (Operand.tmp 95)), some (91, true)⟩, [], false⟩,
  ⟨8, .R, ⟨some 97, (Op.load 113 (Operand.tmp 96)), some (91, true)⟩, [], false⟩,
  ⟨10, .R, ⟨some 99, (Op.load 113 (Operand.tmp 5)), some (91, true)⟩, [], false⟩,
  ⟨9, .E, ⟨some 98, (Op.call { callee := (Callee.value (Operand.func 69)), args := #[(Operand.tmp 97)], argTypes := #[113] }), some (91, true)⟩, [], true⟩,
  ⟨11, .E, ⟨some 100, (Op.call { callee := (Callee.value (Operand.func 69)), args := #[(Operand.tmp 99)], argTypes := #[113] }), some (91, true)⟩, [], false⟩,
  ⟨12, .E, ⟨some 101, (Op.call { callee := (Callee.value (Operand.func 68)), args := #[(Operand.tmp 98), (Operand.tmp 100)], argTypes := #[27, 27] }), some (91, true)⟩, [], false⟩,
  ⟨13, .F, ⟨some 102, (Op.binOp BinOp.geq 3 (Operand.tmp 101) (Operand.const (Value.int IntKind.i64 0)) 3), some (91, true)⟩, [], false⟩,
  ⟨14, .F, ⟨some 103, (Op.pick (Operand.tmp 91) (Operand.tmp 102) (Operand.const (Value.bool false))), none⟩, [], false⟩])
 (.cond (Operand.tmp 103) (.seq (.reg [⟨some 104, (Op.move (Operand.tmp 4)), none⟩,
  ⟨some 2, (Op.assign (Operand.tmp 104)), none⟩,
  ⟨some 3, (Op.assign (Operand.const (Value.int IntKind.i64 14))), none⟩])
 .ret) .skip)))))))))
 (.reg [⟨some 41, (Op.move (Operand.tmp 4)), none⟩,
  ⟨some 42, (Op.binOp BinOp.add 3 (Operand.tmp 41) (Operand.const (Value.int IntKind.i64 1)) 3), none⟩,
  ⟨some 4, (Op.assign (Operand.tmp 42)), none⟩]))))))
 (.seq (.reg [⟨some 2, (Op.assign (Operand.const (Value.int IntKind.i64 0))), none⟩,
  ⟨some 3, (Op.assign (Operand.const (Value.int IntKind.i64 0))), none⟩])
 .ret)))))
theorem fn24 : FnFact Tryd.prog 24 105 [(18, [(0, 0), (1, 0), (2, 0), (3, 0), (4, 3), (5, 0), (6, 0), (7, 0), (8, 3), (10, 3), (9, 4), (11, 2), (12, 2), (13, 0), (14, 0)], [[], [0], [0, 1], [0, 1, 2], [0, 1, 2, 3], [0, 1, 2], [0, 1, 2, 5], [0, 1, 2, 3, 4, 5, 6], [0, 1, 2, 3, 4, 5, 6, 7], [0, 1, 2, 3, 4, 5, 6, 7, 8], [0, 1, 2], [0, 1, 2, 3, 4, 5, 6, 7, 8, 9, 10], [0, 1, 2, 3, 4, 5, 6, 7, 8, 9, 10, 11], [0, 1, 2, 3, 4, 5, 6, 7, 8, 9, 10, 11, 12], [0, 1, 2, 3, 4, 5, 6, 7, 8, 9, 10, 11, 12, 13]])] [(ResultVar.tmp 2), (ResultVar.tmp 3)] cd24 := ⟨by kernel_rfl, ⟨Tryd.f24, Tryd.func24, by kernel_rfl, by rfl, Tryd.ntmps24, congrArg Array.toList Tryd.results24⟩⟩
/-- examiner/conform.IsReceptive -/
def cd25 : CC := (.seq (.reg [⟨some 1, (Op.box 24 (Operand.tmp 0)), none⟩,
  ⟨some 2, (Op.assign (Operand.const (Value.int IntKind.i64 0))), none⟩,
  ⟨some 3, (Op.assign (Operand.const (Value.int IntKind.i64 0))), none⟩,
  ⟨some 4, (Op.assign (Operand.const (Value.int IntKind.i64 0))), none⟩])
 (.seq (.seq (.reg [⟨some 14, (Op.load 24 (Operand.tmp 1)), none⟩,
  ⟨some 15, (Op.call { callee := (Callee.value (Operand.func 70)), args := #[(Operand.tmp 14)], argTypes := #[24] }), none⟩,
  ⟨some 5, (Op.assign (Operand.tmp 15)), none⟩])
 (.seq (.reg [⟨some 16, (Op.move (Operand.tmp 5)), none⟩,
  ⟨some 17, (Op.binOp BinOp.neq 28 (Operand.tmp 16) (Operand.const (Value.int IntKind.i64 0)) 28), none⟩])
 (.cond (Operand.tmp 17) (.seq (.reg [⟨some 18, (Op.move (Operand.tmp 5)), none⟩,
  ⟨some 2, (Op.assign (Operand.const (Value.int IntKind.i64 0))), none⟩,
  ⟨some 3, (Op.assign (Operand.const (Value.int IntKind.i64 0))), none⟩,
  ⟨some 4, (Op.assign (Operand.tmp 18)), none⟩])
 .ret) .skip)))
 (.seq (.reg [⟨some 19, (Op.load 24 (Operand.tmp 1)), none⟩,
  ⟨some 20, (Op.call { callee := (Callee.value (Operand.func 71)), args := #[(Operand.tmp 19)], argTypes := #[24] }), none⟩,
  ⟨some 6, (Op.assign (Operand.tmp 20)), none⟩])
 (.seq (.reg [⟨some 21, (Op.move (Operand.tmp 6)), none⟩,
  ⟨some 22, (Op.call { callee := (Callee.value (Operand.func 72)), args := #[(Operand.tmp 21)], argTypes := #[99] }), none⟩,
  ⟨some 7, (Op.assign (Operand.tmp 22)), none⟩])
 (.seq (.seq (.reg [⟨some 8, (Op.assign (Operand.const (Value.bool true))), none⟩])
 (.block 0 (.loop (.seq (.seq (.reg [⟨some 23, (Op.move (Operand.tmp 8)), none⟩])
 (.cond (Operand.tmp 23) .skip (.exit 0)))
 (.block 1 (.seq (.reg [⟨some 24, (Op.move (Operand.tmp 7)), none⟩,
  ⟨some 9, (Op.assign (Operand.tmp 24)), none⟩])
 (.seq (.seq (.reg [⟨some 25, (Op.move (Operand.tmp 6)), none⟩,
  ⟨some 26, (Op.call { callee := (Callee.value (Operand.func 73)), args := #[(Operand.tmp 25)], argTypes := #[99] }), none⟩,
  ⟨some 27, (Op.move (Operand.const (Value.int IntKind.i64 0))), none⟩])
 (.block 2 (.loop (.seq (.reg [⟨some 28, (Op.binOp BinOp.lss 3 (Operand.tmp 27) (Operand.tmp 26) 3), none⟩])
 (.seq (.cond (Operand.tmp 28) .skip (.exit 2))
 (.seq (.block 3 (.seq (.reg [⟨some 29, (Op.move (Operand.tmp 27)), none⟩,
  ⟨some 10, (Op.assign (Operand.tmp 29)), none⟩])
 (.reg [⟨some 30, (Op.move (Operand.tmp 9)), none⟩,
  ⟨some 31, (Op.move (Operand.tmp 6)), none⟩,
  ⟨some 32, (Op.move (Operand.tmp 7)), none⟩,
  ⟨some 33, (Op.move (Operand.tmp 10)), none⟩,
  ⟨some 34, (Op.call { callee := (Callee.value (Operand.func 74)), args := #[(Operand.tmp 31), (Operand.tmp 32), (Operand.tmp 33)], argTypes := #[99, 105, 3] }), none⟩,
  ⟨some 35, (Op.binOp BinOp.or 105 (Operand.tmp 30) (Operand.tmp 34) 105), none⟩,
  ⟨some 9, (Op.assign (Operand.tmp 35)), none⟩])))
 (.reg [⟨some 36, (Op.binOp BinOp.add 3 (Operand.tmp 27) (Operand.const (Value.int IntKind.i64 1)) 3), none⟩,
  ⟨some 27, (Op.move (Operand.tmp 36)), none⟩])))))))
 (.seq (.reg [⟨some 37, (Op.move (Operand.tmp 9)), none⟩,
  ⟨some 38, (Op.move (Operand.tmp 7)), none⟩,
  ⟨some 39, (Op.binOp BinOp.neq 105 (Operand.tmp 37) (Operand.tmp 38) 105), none⟩,
  ⟨some 8, (Op.assign (Operand.tmp 39)), none⟩])
 (.reg [⟨some 40, (Op.move (Operand.tmp 9)), none⟩,
  ⟨some 7, (Op.assign (Operand.tmp 40)), none⟩])))))))))
 (.seq (.seq (.reg [⟨some 41, (Op.move (Operand.tmp 7)), none⟩,
  ⟨some 42, (Op.call { callee := (Callee.value (Operand.func 62)), args := #[(Operand.tmp 41)], argTypes := #[105] }), none⟩,
  ⟨some 43, (Op.call { callee := (Callee.builtin Builtin.len), args := #[(Operand.tmp 42)], argTypes := #[27] }), none⟩,
  ⟨some 44, (Op.move (Operand.const (Value.int IntKind.i64 0))), none⟩])
 (.block 4 (.loop (.seq (.reg [⟨some 45, (Op.binOp BinOp.lss 3 (Operand.tmp 44) (Operand.tmp 43) 3), none⟩])
 (.seq (.cond (Operand.tmp 45) .skip (.exit 4))
 (.seq (.block 5 (.seq (.reg [⟨some 46, (Op.indexAddr 27 (Operand.tmp 42) (Operand.tmp 44)), none⟩,
  ⟨some 47, (Op.load 3 (Operand.tmp 46)), none⟩,
  ⟨some 12, (Op.assign (Operand.tmp 47)), none⟩])
 (.seq (.reg [⟨some 48, (Op.move (Operand.tmp 6)), none⟩,
  ⟨some 49, (Op.nilCheck (Operand.tmp 48)), none⟩,
  ⟨some 50, (Op.fieldAddr 125 (Operand.tmp 49) 0), none⟩,
  ⟨some 51, (Op.fieldAddr 24 (Operand.tmp 50) 2), none⟩,
  ⟨some 52, (Op.load 3 (Operand.tmp 51)), none⟩,
  ⟨some 53, (Op.move (Operand.const (Value.int IntKind.i64 0))), none⟩])
 (.block 6 (.loop (.seq (.reg [⟨some 54, (Op.binOp BinOp.lss 3 (Operand.tmp 53) (Operand.tmp 52) 3), none⟩])
 (.seq (.cond (Operand.tmp 54) .skip (.exit 6))
 (.seq (.block 7 (.seq (.reg [⟨some 55, (Op.move (Operand.tmp 53)), none⟩,
  ⟨some 13, (Op.assign (Operand.tmp 55)), none⟩])
 (.seq (.reg [⟨some 56, (Op.move (Operand.tmp 6)), none⟩,
  ⟨some 57, (Op.move (Operand.tmp 6)), none⟩,
  ⟨some 58, (Op.move (Operand.tmp 12)), none⟩,
  ⟨some 59, (Op.binOp BinOp.shl 105 (Operand.const (Value.int IntKind.u64 1)) (Operand.tmp 58) 3), none⟩,
  ⟨some 60, (Op.call { callee := (Callee.value (Operand.func 75)), args := #[(Operand.tmp 57), (Operand.tmp 59)], argTypes := #[99, 105] }), none⟩,
  ⟨some 61, (Op.move (Operand.tmp 13)), none⟩,
  ⟨some 62, (Op.call { callee := (Callee.value (Operand.func 74)), args := #[(Operand.tmp 56), (Operand.tmp 60), (Operand.tmp 61)], argTypes := #[99, 105, 3] }), none⟩,
  ⟨some 63, (Op.binOp BinOp.eql 105 (Operand.tmp 62) (Operand.const (Value.int IntKind.u64 0)) 105), none⟩])
 (.cond (Operand.tmp 63) (.seq (.reg [⟨some 64, (Op.move (Operand.tmp 12)), none⟩,
  ⟨some 65, (Op.move (Operand.tmp 13)), none⟩,
  ⟨some 2, (Op.assign (Operand.tmp 64)), none⟩,
  ⟨some 3, (Op.assign (Operand.tmp 65)), none⟩,
  ⟨some 4, (Op.assign (Operand.const (Value.int IntKind.i64 29))), none⟩])
 .ret) .skip))))
 (.reg [⟨some 66, (Op.binOp BinOp.add 3 (Operand.tmp 53) (Operand.const (Value.int IntKind.i64 1)) 3), none⟩,
  ⟨some 53, (Op.move (Operand.tmp 66)), none⟩])))))))))
 (.reg [⟨some 67, (Op.binOp BinOp.add 3 (Operand.tmp 44) (Operand.const (Value.int IntKind.i64 1)) 3), none⟩,
  ⟨some 44, (Op.move (Operand.tmp 67)), none⟩])))))))
 (.seq (.reg [⟨some 2, (Op.assign (Operand.const (Value.int IntKind.i64 0))), none⟩,
  ⟨some 3, (Op.assign (Operand.const (Value.int IntKind.i64 0))), none⟩,
  ⟨some 4, (Op.assign (Operand.const (Value.int IntKind.i64 0))), none⟩])
 .ret)))))))
theorem fn25 : FnFact Tryd.prog 25 68 [] [(ResultVar.tmp 2), (ResultVar.tmp 3), (ResultVar.tmp 4)] cd25 := ⟨by kernel_rfl, ⟨Tryd.f25, Tryd.func25, by kernel_rfl, by rfl, Tryd.ntmps25, congrArg Array.toList Tryd.results25⟩⟩
/-- examiner/examinerref42.Err -/
def cd27 : CC := (.seq (.reg [⟨some 1, (Op.box 24 (Operand.tmp 0)), none⟩,
  ⟨some 2, (Op.assign (Operand.const (Value.int IntKind.i64 0))), none⟩])
 (.seq (.reg [⟨some 6, (Op.load 24 (Operand.tmp 1)), none⟩,
  ⟨some 7, (Op.call { callee := (Callee.value (Operand.func 24)), args := #[(Operand.tmp 6)], argTypes := #[24] }), none⟩,
  ⟨some 5, (Op.move (Operand.tmp 7)), none⟩,
  ⟨some 8, (Op.extract (Operand.tmp 5) 0), none⟩,
  ⟨some 9, (Op.extract (Operand.tmp 5) 1), none⟩,
  ⟨some 3, (Op.assign (Operand.tmp 8)), none⟩,
  ⟨some 4, (Op.assign (Operand.tmp 9)), none⟩])
 (.seq (.reg [⟨some 10, (Op.move (Operand.tmp 4)), none⟩,
  ⟨some 2, (Op.assign (Operand.tmp 10)), none⟩])
 .ret)))
theorem fn27 : FnFact Tryd.prog 27 11 [] [(ResultVar.tmp 2)] cd27 := ⟨by kernel_rfl, ⟨Tryd.f27, Tryd.func27, by kernel_rfl, by rfl, Tryd.ntmps27, congrArg Array.toList Tryd.results27⟩⟩
/-- examiner/conform.AfterTrace -/
def cd29 : CC := (.seq (.reg [⟨some 2, (Op.box 24 (Operand.tmp 0)), none⟩,
  ⟨some 4, (Op.assign (Operand.const (Value.slice none 0 0))), none⟩,
  ⟨some 5, (Op.assign (Operand.const (Value.int IntKind.i64 0))), none⟩])
 (.seq (.seq (.reg [⟨some 8, (Op.load 24 (Operand.tmp 2)), none⟩,
  ⟨some 9, (Op.call { callee := (Callee.value (Operand.func 70)), args := #[(Operand.tmp 8)], argTypes := #[24] }), none⟩,
  ⟨some 6, (Op.assign (Operand.tmp 9)), none⟩])
 (.seq (.reg [⟨some 10, (Op.move (Operand.tmp 6)), none⟩,
  ⟨some 11, (Op.binOp BinOp.neq 28 (Operand.tmp 10) (Operand.const (Value.int IntKind.i64 0)) 28), none⟩])
 (.cond (Operand.tmp 11) (.seq (.reg [⟨some 12, (Op.move (Operand.tmp 6)), none⟩,
  ⟨some 4, (Op.assign (Operand.const (Value.slice none 0 0))), none⟩,
  ⟨some 5, (Op.assign (Operand.tmp 12)), none⟩])
 .ret) .skip)))
 (.seq (.seq (.reg [⟨some 13, (Op.load 24 (Operand.tmp 2)), none⟩,
  ⟨some 14, (Op.move (Operand.tmp 1)), none⟩,
  ⟨some 15, (Op.call { callee := (Callee.value (Operand.func 77)), args := #[(Operand.tmp 13), (Operand.tmp 14)], argTypes := #[24, 27] }), none⟩,
  ⟨some 7, (Op.assign (Operand.tmp 15)), none⟩])
 (.seq (.reg [⟨some 16, (Op.move (Operand.tmp 7)), none⟩,
  ⟨some 17, (Op.binOp BinOp.neq 28 (Operand.tmp 16) (Operand.const (Value.int IntKind.i64 0)) 28), none⟩])
 (.cond (Operand.tmp 17) (.seq (.reg [⟨some 18, (Op.move (Operand.tmp 7)), none⟩,
  ⟨some 4, (Op.assign (Operand.const (Value.slice none 0 0))), none⟩,
  ⟨some 5, (Op.assign (Operand.tmp 18)), none⟩])
 .ret) .skip)))
 (.seq (.reg [⟨some 19, (Op.load 24 (Operand.tmp 2)), none⟩,
  ⟨some 20, (Op.call { callee := (Callee.value (Operand.func 71)), args := #[(Operand.tmp 19)], argTypes := #[24] }), none⟩,
  ⟨some 21, (Op.move (Operand.tmp 1)), none⟩,
  ⟨some 22, (Op.call { callee := (Callee.value (Operand.func 78)), args := #[(Operand.tmp 20), (Operand.tmp 21)], argTypes := #[99, 27] }), none⟩,
  ⟨some 23, (Op.call { callee := (Callee.value (Operand.func 62)), args := #[(Operand.tmp 22)], argTypes := #[105] }), none⟩,
  ⟨some 4, (Op.assign (Operand.tmp 23)), none⟩,
  ⟨some 5, (Op.assign (Operand.const (Value.int IntKind.i64 0))), none⟩])
 .ret))))
theorem fn29 : FnFact Tryd.prog 29 24 [] [(ResultVar.tmp 4), (ResultVar.tmp 5)] cd29 := ⟨by kernel_rfl, ⟨Tryd.f29, Tryd.func29, by kernel_rfl, by rfl, Tryd.ntmps29, congrArg Array.toList Tryd.results29⟩⟩
/-- examiner/examinerbase.Within -/
def cd36 : CC := (.seq (.reg [⟨some 6, (Op.assign (Operand.const (Value.bool false))), none⟩])
 (.seq (.reg [⟨some 7, (Op.move (Operand.tmp 1)), none⟩,
  ⟨some 8, (Op.move (Operand.tmp 0)), none⟩,
  ⟨some 9, (Op.binOp BinOp.leq 3 (Operand.tmp 7) (Operand.tmp 8) 3), none⟩,
  ⟨some 10, (Op.move (Operand.tmp 9)), none⟩,
  ⟨some 11, (Op.move (Operand.tmp 0)), some (10, true)⟩,
  ⟨some 12, (Op.move (Operand.tmp 2)), some (10, true)⟩,
  ⟨some 13, (Op.binOp BinOp.leq 3 (Operand.tmp 11) (Operand.tmp 12) 3), some (10, true)⟩,
  ⟨some 14, (Op.pick (Operand.tmp 10) (Operand.tmp 13) (Operand.const (Value.bool false))), none⟩,
  ⟨some 6, (Op.assign (Operand.tmp 14)), none⟩])
 .ret))
theorem fn36 : FnFact Tryd.prog 36 15 [] [(ResultVar.tmp 6)] cd36 := ⟨by kernel_rfl, ⟨Tryd.f36, Tryd.func36, by kernel_rfl, by rfl, Tryd.ntmps36, congrArg Array.toList Tryd.results36⟩⟩
end Cd
end Go.Proofs.YtchpcjmgifnmdaaDoor

/- For each function the facts on types that a walk through it needs, by program. -/
namespace Go.Proofs.YtchpcjmgifnmdaaDoor
open Go Go.Proofs.YtchpcjmgifnmdaaDoor.Ab
namespace Tk
theorem aI {a b : Prop} (x : a) (y : b) : a ∧ b := ⟨x, y⟩
def tkd2 := @Nat.zero_add
theorem t2 : type_of% tkd2 := tkd2
def tkd3 := (aI @Ty.ag1 (aI @Ty.by1 (aI @Ty.if1 (aI @Ty.sz1 (aI @Ty.un1 (aI @Ty.unn1 (aI @Ty.zr1 (aI @Ty.ag3 (aI @Ty.by3 (aI @Ty.if3 (aI @Ty.in3 (aI @Ty.sz3 (aI @Ty.un3 (aI @Ty.unn3 (aI @Ty.zr3 (aI @Ty.ag4 (aI @Ty.bo4 (aI @Ty.by4 (aI @Ty.if4 (aI @Ty.sz4 (aI @Ty.un4 (aI @Ty.unn4 (aI @Ty.zr4 (aI @Ty.ag24 (aI @Ty.by24 (aI @Ty.fo24_0 (aI @Ty.fo24_1 (aI @Ty.fo24_2 (aI @Ty.fo24_3 (aI @Ty.fo24_4 (aI @Ty.ft24_0 (aI @Ty.ft24_1 (aI @Ty.ft24_2 (aI @Ty.ft24_3 (aI @Ty.ft24_4 (aI @Ty.if24 (aI @Ty.pl24 (aI @Ty.sz24 (aI @Ty.un24 (aI @Ty.unn24 (aI @Ty.zr24 (aI @Ty.ag27 (aI @Ty.by27 (aI @Ty.el27 (aI @Ty.if27 (aI @Ty.ni27 (aI @Ty.sz27 (aI @Ty.un27 (aI @Ty.unn27 (aI @Ty.zr27 (aI @Ty.ag28 (aI @Ty.by28 (aI @Ty.if28 (aI @Ty.in28 (aI @Ty.sz28 (aI @Ty.un28 (aI @Ty.unn28 (aI @Ty.zr28 (aI @Ty.ag32 (aI @Ty.by32 (aI @Ty.el32 (aI @Ty.if32 (aI @Ty.ni32 (aI @Ty.sz32 (aI @Ty.un32 (aI @Ty.unn32 (aI @Ty.zr32 (aI @Ty.ag36 (aI @Ty.by36 (aI @Ty.el36 (aI @Ty.if36 (aI @Ty.ni36 (aI @Ty.sz36 (aI @Ty.un36 (aI @Ty.unn36 (aI @Ty.zr36 (aI @Ty.ag41 (aI @Ty.by41 (aI @Ty.fo41_0 (aI @Ty.fo41_1 (aI @Ty.ft41_0 (aI @Ty.ft41_1 (aI @Ty.if41 (aI @Ty.pl41 (aI @Ty.sz41 (aI @Ty.un41 (aI @Ty.unn41 (aI @Ty.zr41 (aI @Ty.ag43 (aI @Ty.by43 (aI @Ty.fo43_0 (aI @Ty.fo43_1 (aI @Ty.fo43_2 (aI @Ty.ft43_0 (aI @Ty.ft43_1 (aI @Ty.ft43_2 (aI @Ty.if43 (aI @Ty.pl43 (aI @Ty.sz43 (aI @Ty.un43 (aI @Ty.unn43 (@Ty.zr43))))))))))))))))))))))))))))))))))))))))))))))))))))))))))))))))))))))))))))))))))))))))))))))))))))))
theorem t3 : type_of% tkd3 := tkd3
def tkd4 := (aI @Ty.ag3 (aI @Ty.by3 (aI @Ty.if3 (aI @Ty.in3 (aI @Ty.sz3 (aI @Ty.un3 (aI @Ty.unn3 (aI @Ty.zr3 (aI @Ty.ag4 (aI @Ty.bo4 (aI @Ty.by4 (aI @Ty.if4 (aI @Ty.sz4 (aI @Ty.un4 (aI @Ty.unn4 (aI @Ty.zr4 (aI @Ty.ag24 (aI @Ty.by24 (aI @Ty.fo24_0 (aI @Ty.fo24_1 (aI @Ty.fo24_2 (aI @Ty.fo24_3 (aI @Ty.fo24_4 (aI @Ty.ft24_0 (aI @Ty.ft24_1 (aI @Ty.ft24_2 (aI @Ty.ft24_3 (aI @Ty.ft24_4 (aI @Ty.if24 (aI @Ty.pl24 (aI @Ty.sz24 (aI @Ty.un24 (aI @Ty.unn24 (aI @Ty.zr24 (aI @Ty.ag28 (aI @Ty.by28 (aI @Ty.if28 (aI @Ty.in28 (aI @Ty.sz28 (aI @Ty.un28 (aI @Ty.unn28 (@Ty.zr28))))))))))))))))))))))))))))))))))))))))))
theorem t4 : type_of% tkd4 := tkd4
def tkd5 := (aI @Ty.ag3 (aI @Ty.by3 (aI @Ty.if3 (aI @Ty.in3 (aI @Ty.sz3 (aI @Ty.un3 (aI @Ty.unn3 (aI @Ty.zr3 (aI @Ty.ag4 (aI @Ty.bo4 (aI @Ty.by4 (aI @Ty.if4 (aI @Ty.sz4 (aI @Ty.un4 (aI @Ty.unn4 (aI @Ty.zr4 (aI @Ty.ag24 (aI @Ty.by24 (aI @Ty.fo24_0 (aI @Ty.fo24_1 (aI @Ty.fo24_2 (aI @Ty.fo24_3 (aI @Ty.fo24_4 (aI @Ty.ft24_0 (aI @Ty.ft24_1 (aI @Ty.ft24_2 (aI @Ty.ft24_3 (aI @Ty.ft24_4 (aI @Ty.if24 (aI @Ty.pl24 (aI @Ty.sz24 (aI @Ty.un24 (aI @Ty.unn24 (aI @Ty.zr24 (aI @Ty.ag28 (aI @Ty.by28 (aI @Ty.if28 (aI @Ty.in28 (aI @Ty.sz28 (aI @Ty.un28 (aI @Ty.unn28 (@Ty.zr28))))))))))))))))))))))))))))))))))))))))))
theorem t5 : type_of% tkd5 := tkd5
def tkd15 := (aI @Ty.ag1 (aI @Ty.by1 (aI @Ty.if1 (aI @Ty.sz1 (aI @Ty.un1 (aI @Ty.unn1 (aI @Ty.zr1 (aI @Ty.ag2 (aI @Ty.by2 (aI @Ty.if2 (aI @Ty.in2 (aI @Ty.sz2 (aI @Ty.un2 (aI @Ty.unn2 (aI @Ty.zr2 (aI @Ty.ag3 (aI @Ty.by3 (aI @Ty.if3 (aI @Ty.in3 (aI @Ty.sz3 (aI @Ty.un3 (aI @Ty.unn3 (aI @Ty.zr3 (aI @Ty.ag24 (aI @Ty.by24 (aI @Ty.fo24_0 (aI @Ty.fo24_1 (aI @Ty.fo24_2 (aI @Ty.fo24_3 (aI @Ty.fo24_4 (aI @Ty.ft24_0 (aI @Ty.ft24_1 (aI @Ty.ft24_2 (aI @Ty.ft24_3 (aI @Ty.ft24_4 (aI @Ty.if24 (aI @Ty.pl24 (aI @Ty.sz24 (aI @Ty.un24 (aI @Ty.unn24 (aI @Ty.zr24 (aI @Ty.ag27 (aI @Ty.by27 (aI @Ty.el27 (aI @Ty.if27 (aI @Ty.ni27 (aI @Ty.sz27 (aI @Ty.un27 (aI @Ty.unn27 (aI @Ty.zr27 (aI @Ty.ag28 (aI @Ty.by28 (aI @Ty.if28 (aI @Ty.in28 (aI @Ty.sz28 (aI @Ty.un28 (aI @Ty.unn28 (@Ty.zr28))))))))))))))))))))))))))))))))))))))))))))))))))))))))))
theorem t15 : type_of% tkd15 := tkd15
def tkd16 := (aI @Ty.ag2 (aI @Ty.by2 (aI @Ty.if2 (aI @Ty.in2 (aI @Ty.sz2 (aI @Ty.un2 (aI @Ty.unn2 (aI @Ty.zr2 (aI @Ty.ag3 (aI @Ty.by3 (aI @Ty.if3 (aI @Ty.in3 (aI @Ty.sz3 (aI @Ty.un3 (aI @Ty.unn3 (aI @Ty.zr3 (aI @Ty.ag4 (aI @Ty.bo4 (aI @Ty.by4 (aI @Ty.if4 (aI @Ty.sz4 (aI @Ty.un4 (aI @Ty.unn4 (aI @Ty.zr4 (aI @Ty.ag22 (aI @Ty.by22 (aI @Ty.el22 (aI @Ty.if22 (aI @Ty.ni22 (aI @Ty.sz22 (aI @Ty.un22 (aI @Ty.unn22 (aI @Ty.zr22 (aI @Ty.ag24 (aI @Ty.by24 (aI @Ty.fo24_0 (aI @Ty.fo24_1 (aI @Ty.fo24_2 (aI @Ty.fo24_3 (aI @Ty.fo24_4 (aI @Ty.ft24_0 (aI @Ty.ft24_1 (aI @Ty.ft24_2 (aI @Ty.ft24_3 (aI @Ty.ft24_4 (aI @Ty.if24 (aI @Ty.pl24 (aI @Ty.sz24 (aI @Ty.un24 (aI @Ty.unn24 (aI @Ty.zr24 (aI @Ty.ag113 (aI @Ty.by113 (aI @Ty.ef113 (aI @Ty.fo113_0 (aI @Ty.fo113_1 (aI @Ty.fo113_2 (aI @Ty.fo113_3 (aI @Ty.ft113_0 (aI @Ty.ft113_1 (aI @Ty.ft113_2 (aI @Ty.ft113_3 (aI @Ty.if113 (aI @Ty.pl113 (aI @Ty.sz113 (aI @Ty.un113 (aI @Ty.unn113 (@Ty.zr113))))))))))))))))))))))))))))))))))))))))))))))))))))))))))))))))))))
theorem t16 : type_of% tkd16 := tkd16
def tkd17 := (aI @Ty.ag4 (aI @Ty.bo4 (aI @Ty.by4 (aI @Ty.if4 (aI @Ty.sz4 (aI @Ty.un4 (aI @Ty.unn4 (aI @Ty.zr4 (aI @Ty.ag24 (aI @Ty.by24 (aI @Ty.fo24_0 (aI @Ty.fo24_1 (aI @Ty.fo24_2 (aI @Ty.fo24_3 (aI @Ty.fo24_4 (aI @Ty.ft24_0 (aI @Ty.ft24_1 (aI @Ty.ft24_2 (aI @Ty.ft24_3 (aI @Ty.ft24_4 (aI @Ty.if24 (aI @Ty.pl24 (aI @Ty.sz24 (aI @Ty.un24 (aI @Ty.unn24 (aI @Ty.zr24 (aI @Ty.ag28 (aI @Ty.by28 (aI @Ty.if28 (aI @Ty.in28 (aI @Ty.sz28 (aI @Ty.un28 (aI @Ty.unn28 (aI @Ty.zr28 (aI @Ty.ag95 (aI @Ty.by95 (aI @Ty.if95 (aI @Ty.po95 (aI @Ty.sz95 (aI @Ty.un95 (aI @Ty.unn95 (@Ty.zr95))))))))))))))))))))))))))))))))))))))))))
theorem t17 : type_of% tkd17 := tkd17
def tkd18 := (aI @Ty.ag4 (aI @Ty.bo4 (aI @Ty.by4 (aI @Ty.if4 (aI @Ty.sz4 (aI @Ty.un4 (aI @Ty.unn4 (aI @Ty.zr4 (aI @Ty.ag22 (aI @Ty.by22 (aI @Ty.el22 (aI @Ty.if22 (aI @Ty.ni22 (aI @Ty.sz22 (aI @Ty.un22 (aI @Ty.unn22 (aI @Ty.zr22 (aI @Ty.ag24 (aI @Ty.by24 (aI @Ty.fo24_0 (aI @Ty.fo24_1 (aI @Ty.fo24_2 (aI @Ty.fo24_3 (aI @Ty.fo24_4 (aI @Ty.ft24_0 (aI @Ty.ft24_1 (aI @Ty.ft24_2 (aI @Ty.ft24_3 (aI @Ty.ft24_4 (aI @Ty.if24 (aI @Ty.pl24 (aI @Ty.sz24 (aI @Ty.un24 (aI @Ty.unn24 (aI @Ty.zr24 (aI @Ty.ag113 (aI @Ty.by113 (aI @Ty.ef113 (aI @Ty.fo113_0 (aI @Ty.fo113_1 (aI @Ty.fo113_2 (aI @Ty.fo113_3 (aI @Ty.ft113_0 (aI @Ty.ft113_1 (aI @Ty.ft113_2 (aI @Ty.ft113_3 (aI @Ty.if113 (aI @Ty.pl113 (aI @Ty.sz113 (aI @Ty.un113 (aI @Ty.unn113 (@Ty.zr113))))))))))))))))))))))))))))))))))))))))))))))))))))
theorem t18 : type_of% tkd18 := tkd18
def tkd20 := (aI @Ty.ag2 (aI @Ty.by2 (aI @Ty.if2 (aI @Ty.in2 (aI @Ty.sz2 (aI @Ty.un2 (aI @Ty.unn2 (aI @Ty.zr2 (aI @Ty.ag3 (aI @Ty.by3 (aI @Ty.if3 (aI @Ty.in3 (aI @Ty.sz3 (aI @Ty.un3 (aI @Ty.unn3 (aI @Ty.zr3 (aI @Ty.ag24 (aI @Ty.by24 (aI @Ty.fo24_0 (aI @Ty.fo24_1 (aI @Ty.fo24_2 (aI @Ty.fo24_3 (aI @Ty.fo24_4 (aI @Ty.ft24_0 (aI @Ty.ft24_1 (aI @Ty.ft24_2 (aI @Ty.ft24_3 (aI @Ty.ft24_4 (aI @Ty.if24 (aI @Ty.pl24 (aI @Ty.sz24 (aI @Ty.un24 (aI @Ty.unn24 (@Ty.zr24))))))))))))))))))))))))))))))))))
theorem t20 : type_of% tkd20 := tkd20
def tkd22 := (aI @Ty.ag3 (aI @Ty.by3 (aI @Ty.if3 (aI @Ty.in3 (aI @Ty.sz3 (aI @Ty.un3 (aI @Ty.unn3 (aI @Ty.zr3 (aI @Ty.ag27 (aI @Ty.by27 (aI @Ty.el27 (aI @Ty.if27 (aI @Ty.ni27 (aI @Ty.sz27 (aI @Ty.un27 (aI @Ty.unn27 (@Ty.zr27)))))))))))))))))
theorem t22 : type_of% tkd22 := tkd22
def tkd23 := (aI @Ty.ag1 (aI @Ty.by1 (aI @Ty.if1 (aI @Ty.sz1 (aI @Ty.un1 (aI @Ty.unn1 (aI @Ty.zr1 (aI @Ty.ag2 (aI @Ty.by2 (aI @Ty.if2 (aI @Ty.in2 (aI @Ty.sz2 (aI @Ty.un2 (aI @Ty.unn2 (aI @Ty.zr2 (aI @Ty.ag3 (aI @Ty.by3 (aI @Ty.if3 (aI @Ty.in3 (aI @Ty.sz3 (aI @Ty.un3 (aI @Ty.unn3 (aI @Ty.zr3 (aI @Ty.ag4 (aI @Ty.bo4 (aI @Ty.by4 (aI @Ty.if4 (aI @Ty.sz4 (aI @Ty.un4 (aI @Ty.unn4 (aI @Ty.zr4 (aI @Ty.ag22 (aI @Ty.by22 (aI @Ty.el22 (aI @Ty.if22 (aI @Ty.ni22 (aI @Ty.sz22 (aI @Ty.un22 (aI @Ty.unn22 (aI @Ty.zr22 (aI @Ty.ag24 (aI @Ty.by24 (aI @Ty.fo24_0 (aI @Ty.fo24_1 (aI @Ty.fo24_2 (aI @Ty.fo24_3 (aI @Ty.fo24_4 (aI @Ty.ft24_0 (aI @Ty.ft24_1 (aI @Ty.ft24_2 (aI @Ty.ft24_3 (aI @Ty.ft24_4 (aI @Ty.if24 (aI @Ty.pl24 (aI @Ty.sz24 (aI @Ty.un24 (aI @Ty.unn24 (aI @Ty.zr24 (aI @Ty.ag113 (aI @Ty.by113 (aI @Ty.ef113 (aI @Ty.fo113_0 (aI @Ty.fo113_1 (aI @Ty.fo113_2 (aI @Ty.fo113_3 (aI @Ty.ft113_0 (aI @Ty.ft113_1 (aI @Ty.ft113_2 (aI @Ty.ft113_3 (aI @Ty.if113 (aI @Ty.pl113 (aI @Ty.sz113 (aI @Ty.un113 (aI @Ty.unn113 (@Ty.zr113)))))))))))))))))))))))))))))))))))))))))))))))))))))))))))))))))))))))))))
theorem t23 : type_of% tkd23 := tkd23
def tkd24 := (aI @Ty.ag1 (aI @Ty.by1 (aI @Ty.if1 (aI @Ty.sz1 (aI @Ty.un1 (aI @Ty.unn1 (aI @Ty.zr1 (aI @Ty.ag2 (aI @Ty.by2 (aI @Ty.if2 (aI @Ty.in2 (aI @Ty.sz2 (aI @Ty.un2 (aI @Ty.unn2 (aI @Ty.zr2 (aI @Ty.ag3 (aI @Ty.by3 (aI @Ty.if3 (aI @Ty.in3 (aI @Ty.sz3 (aI @Ty.un3 (aI @Ty.unn3 (aI @Ty.zr3 (aI @Ty.ag4 (aI @Ty.bo4 (aI @Ty.by4 (aI @Ty.if4 (aI @Ty.sz4 (aI @Ty.un4 (aI @Ty.unn4 (aI @Ty.zr4 (aI @Ty.ag22 (aI @Ty.by22 (aI @Ty.el22 (aI @Ty.if22 (aI @Ty.ni22 (aI @Ty.sz22 (aI @Ty.un22 (aI @Ty.unn22 (aI @Ty.zr22 (aI @Ty.ag24 (aI @Ty.by24 (aI @Ty.fo24_0 (aI @Ty.fo24_1 (aI @Ty.fo24_2 (aI @Ty.fo24_3 (aI @Ty.fo24_4 (aI @Ty.ft24_0 (aI @Ty.ft24_1 (aI @Ty.ft24_2 (aI @Ty.ft24_3 (aI @Ty.ft24_4 (aI @Ty.if24 (aI @Ty.pl24 (aI @Ty.sz24 (aI @Ty.un24 (aI @Ty.unn24 (aI @Ty.zr24 (aI @Ty.ag27 (aI @Ty.by27 (aI @Ty.el27 (aI @Ty.if27 (aI @Ty.ni27 (aI @Ty.sz27 (aI @Ty.un27 (aI @Ty.unn27 (aI @Ty.zr27 (aI @Ty.ag113 (aI @Ty.by113 (aI @Ty.ef113 (aI @Ty.fo113_0 (aI @Ty.fo113_1 (aI @Ty.fo113_2 (aI @Ty.fo113_3 (aI @Ty.ft113_0 (aI @Ty.ft113_1 (aI @Ty.ft113_2 (aI @Ty.ft113_3 (aI @Ty.if113 (aI @Ty.pl113 (aI @Ty.sz113 (aI @Ty.un113 (aI @Ty.unn113 (@Ty.zr113))))))))))))))))))))))))))))))))))))))))))))))))))))))))))))))))))))))))))))))))))))
theorem t24 : type_of% tkd24 := tkd24
def tkd25 := (aI @Ty.ag2 (aI @Ty.by2 (aI @Ty.if2 (aI @Ty.in2 (aI @Ty.sz2 (aI @Ty.un2 (aI @Ty.unn2 (aI @Ty.zr2 (aI @Ty.ag3 (aI @Ty.by3 (aI @Ty.if3 (aI @Ty.in3 (aI @Ty.sz3 (aI @Ty.un3 (aI @Ty.unn3 (aI @Ty.zr3 (aI @Ty.ag24 (aI @Ty.by24 (aI @Ty.fo24_0 (aI @Ty.fo24_1 (aI @Ty.fo24_2 (aI @Ty.fo24_3 (aI @Ty.fo24_4 (aI @Ty.ft24_0 (aI @Ty.ft24_1 (aI @Ty.ft24_2 (aI @Ty.ft24_3 (aI @Ty.ft24_4 (aI @Ty.if24 (aI @Ty.pl24 (aI @Ty.sz24 (aI @Ty.un24 (aI @Ty.unn24 (aI @Ty.zr24 (aI @Ty.ag27 (aI @Ty.by27 (aI @Ty.el27 (aI @Ty.if27 (aI @Ty.ni27 (aI @Ty.sz27 (aI @Ty.un27 (aI @Ty.unn27 (aI @Ty.zr27 (aI @Ty.ag28 (aI @Ty.by28 (aI @Ty.if28 (aI @Ty.in28 (aI @Ty.sz28 (aI @Ty.un28 (aI @Ty.unn28 (aI @Ty.zr28 (aI @Ty.ag99 (aI @Ty.by99 (aI @Ty.if99 (aI @Ty.po99 (aI @Ty.sz99 (aI @Ty.un99 (aI @Ty.unn99 (aI @Ty.zr99 (aI @Ty.ag105 (aI @Ty.by105 (aI @Ty.if105 (aI @Ty.in105 (aI @Ty.sz105 (aI @Ty.un105 (aI @Ty.unn105 (aI @Ty.zr105 (aI @Ty.ag125 (aI @Ty.by125 (aI @Ty.fo125_0 (aI @Ty.fo125_1 (aI @Ty.fo125_2 (aI @Ty.ft125_0 (aI @Ty.ft125_1 (aI @Ty.ft125_2 (aI @Ty.if125 (aI @Ty.pl125 (aI @Ty.sz125 (aI @Ty.un125 (aI @Ty.unn125 (@Ty.zr125)))))))))))))))))))))))))))))))))))))))))))))))))))))))))))))))))))))))))))))))))
theorem t25 : type_of% tkd25 := tkd25
def tkd27 := (aI @Ty.ag24 (aI @Ty.by24 (aI @Ty.fo24_0 (aI @Ty.fo24_1 (aI @Ty.fo24_2 (aI @Ty.fo24_3 (aI @Ty.fo24_4 (aI @Ty.ft24_0 (aI @Ty.ft24_1 (aI @Ty.ft24_2 (aI @Ty.ft24_3 (aI @Ty.ft24_4 (aI @Ty.if24 (aI @Ty.pl24 (aI @Ty.sz24 (aI @Ty.un24 (aI @Ty.unn24 (@Ty.zr24))))))))))))))))))
theorem t27 : type_of% tkd27 := tkd27
def tkd29 := (aI @Ty.ag3 (aI @Ty.by3 (aI @Ty.if3 (aI @Ty.in3 (aI @Ty.sz3 (aI @Ty.un3 (aI @Ty.unn3 (aI @Ty.zr3 (aI @Ty.ag24 (aI @Ty.by24 (aI @Ty.fo24_0 (aI @Ty.fo24_1 (aI @Ty.fo24_2 (aI @Ty.fo24_3 (aI @Ty.fo24_4 (aI @Ty.ft24_0 (aI @Ty.ft24_1 (aI @Ty.ft24_2 (aI @Ty.ft24_3 (aI @Ty.ft24_4 (aI @Ty.if24 (aI @Ty.pl24 (aI @Ty.sz24 (aI @Ty.un24 (aI @Ty.unn24 (aI @Ty.zr24 (aI @Ty.ag27 (aI @Ty.by27 (aI @Ty.el27 (aI @Ty.if27 (aI @Ty.ni27 (aI @Ty.sz27 (aI @Ty.un27 (aI @Ty.unn27 (aI @Ty.zr27 (aI @Ty.ag28 (aI @Ty.by28 (aI @Ty.if28 (aI @Ty.in28 (aI @Ty.sz28 (aI @Ty.un28 (aI @Ty.unn28 (aI @Ty.zr28 (aI @Ty.ag99 (aI @Ty.by99 (aI @Ty.if99 (aI @Ty.po99 (aI @Ty.sz99 (aI @Ty.un99 (aI @Ty.unn99 (aI @Ty.zr99 (aI @Ty.ag105 (aI @Ty.by105 (aI @Ty.if105 (aI @Ty.in105 (aI @Ty.sz105 (aI @Ty.un105 (aI @Ty.unn105 (@Ty.zr105)))))))))))))))))))))))))))))))))))))))))))))))))))))))))))
theorem t29 : type_of% tkd29 := tkd29
def tkd36 := (aI @Ty.ag3 (aI @Ty.by3 (aI @Ty.if3 (aI @Ty.in3 (aI @Ty.sz3 (aI @Ty.un3 (aI @Ty.unn3 (@Ty.zr3))))))))
theorem t36 : type_of% tkd36 := tkd36
def tkd56 := (aI @Ty.ag2 (aI @Ty.by2 (aI @Ty.if2 (aI @Ty.in2 (aI @Ty.sz2 (aI @Ty.un2 (aI @Ty.unn2 (aI @Ty.zr2 (aI @Ty.ag3 (aI @Ty.by3 (aI @Ty.if3 (aI @Ty.in3 (aI @Ty.sz3 (aI @Ty.un3 (aI @Ty.unn3 (aI @Ty.zr3 (aI @Ty.ag4 (aI @Ty.bo4 (aI @Ty.by4 (aI @Ty.if4 (aI @Ty.sz4 (aI @Ty.un4 (aI @Ty.unn4 (aI @Ty.zr4 (aI @Ty.ag22 (aI @Ty.by22 (aI @Ty.el22 (aI @Ty.if22 (aI @Ty.ni22 (aI @Ty.sz22 (aI @Ty.un22 (aI @Ty.unn22 (aI @Ty.zr22 (aI @Ty.ag24 (aI @Ty.by24 (aI @Ty.fo24_0 (aI @Ty.fo24_1 (aI @Ty.fo24_2 (aI @Ty.fo24_3 (aI @Ty.fo24_4 (aI @Ty.ft24_0 (aI @Ty.ft24_1 (aI @Ty.ft24_2 (aI @Ty.ft24_3 (aI @Ty.ft24_4 (aI @Ty.if24 (aI @Ty.pl24 (aI @Ty.sz24 (aI @Ty.un24 (aI @Ty.unn24 (aI @Ty.zr24 (aI @Ty.ag113 (aI @Ty.by113 (aI @Ty.ef113 (aI @Ty.fo113_0 (aI @Ty.fo113_1 (aI @Ty.fo113_2 (aI @Ty.fo113_3 (aI @Ty.ft113_0 (aI @Ty.ft113_1 (aI @Ty.ft113_2 (aI @Ty.ft113_3 (aI @Ty.if113 (aI @Ty.pl113 (aI @Ty.sz113 (aI @Ty.un113 (aI @Ty.unn113 (@Ty.zr113))))))))))))))))))))))))))))))))))))))))))))))))))))))))))))))))))))
theorem t56 : type_of% tkd56 := tkd56
def tkd57 := (aI @Ty.ag3 (aI @Ty.by3 (aI @Ty.if3 (aI @Ty.in3 (aI @Ty.sz3 (aI @Ty.un3 (aI @Ty.unn3 (aI @Ty.zr3 (aI @Ty.ag22 (aI @Ty.by22 (aI @Ty.el22 (aI @Ty.if22 (aI @Ty.ni22 (aI @Ty.sz22 (aI @Ty.un22 (aI @Ty.unn22 (aI @Ty.zr22 (aI @Ty.ag24 (aI @Ty.by24 (aI @Ty.fo24_0 (aI @Ty.fo24_1 (aI @Ty.fo24_2 (aI @Ty.fo24_3 (aI @Ty.fo24_4 (aI @Ty.ft24_0 (aI @Ty.ft24_1 (aI @Ty.ft24_2 (aI @Ty.ft24_3 (aI @Ty.ft24_4 (aI @Ty.if24 (aI @Ty.pl24 (aI @Ty.sz24 (aI @Ty.un24 (aI @Ty.unn24 (aI @Ty.zr24 (aI @Ty.ag113 (aI @Ty.by113 (aI @Ty.ef113 (aI @Ty.fo113_0 (aI @Ty.fo113_1 (aI @Ty.fo113_2 (aI @Ty.fo113_3 (aI @Ty.ft113_0 (aI @Ty.ft113_1 (aI @Ty.ft113_2 (aI @Ty.ft113_3 (aI @Ty.if113 (aI @Ty.pl113 (aI @Ty.sz113 (aI @Ty.un113 (aI @Ty.unn113 (@Ty.zr113))))))))))))))))))))))))))))))))))))))))))))))))))))
theorem t57 : type_of% tkd57 := tkd57
def tkd58 := (aI @Ty.ag2 (aI @Ty.by2 (aI @Ty.if2 (aI @Ty.in2 (aI @Ty.sz2 (aI @Ty.un2 (aI @Ty.unn2 (aI @Ty.zr2 (aI @Ty.ag3 (aI @Ty.by3 (aI @Ty.if3 (aI @Ty.in3 (aI @Ty.sz3 (aI @Ty.un3 (aI @Ty.unn3 (aI @Ty.zr3 (aI @Ty.ag4 (aI @Ty.bo4 (aI @Ty.by4 (aI @Ty.if4 (aI @Ty.sz4 (aI @Ty.un4 (aI @Ty.unn4 (aI @Ty.zr4 (aI @Ty.ag24 (aI @Ty.by24 (aI @Ty.fo24_0 (aI @Ty.fo24_1 (aI @Ty.fo24_2 (aI @Ty.fo24_3 (aI @Ty.fo24_4 (aI @Ty.ft24_0 (aI @Ty.ft24_1 (aI @Ty.ft24_2 (aI @Ty.ft24_3 (aI @Ty.ft24_4 (aI @Ty.if24 (aI @Ty.pl24 (aI @Ty.sz24 (aI @Ty.un24 (aI @Ty.unn24 (aI @Ty.zr24 (aI @Ty.ag28 (aI @Ty.by28 (aI @Ty.if28 (aI @Ty.in28 (aI @Ty.sz28 (aI @Ty.un28 (aI @Ty.unn28 (aI @Ty.zr28 (aI @Ty.ag165 (aI @Ty.by165 (aI @Ty.el165 (aI @Ty.if165 (aI @Ty.ni165 (aI @Ty.sz165 (aI @Ty.un165 (aI @Ty.unn165 (@Ty.zr165)))))))))))))))))))))))))))))))))))))))))))))))))))))))))))
theorem t58 : type_of% tkd58 := tkd58
def tkd59 := (aI @Ty.ag1 (aI @Ty.by1 (aI @Ty.if1 (aI @Ty.sz1 (aI @Ty.un1 (aI @Ty.unn1 (aI @Ty.zr1 (aI @Ty.ag3 (aI @Ty.by3 (aI @Ty.if3 (aI @Ty.in3 (aI @Ty.sz3 (aI @Ty.un3 (aI @Ty.unn3 (aI @Ty.zr3 (aI @Ty.ag24 (aI @Ty.by24 (aI @Ty.fo24_0 (aI @Ty.fo24_1 (aI @Ty.fo24_2 (aI @Ty.fo24_3 (aI @Ty.fo24_4 (aI @Ty.ft24_0 (aI @Ty.ft24_1 (aI @Ty.ft24_2 (aI @Ty.ft24_3 (aI @Ty.ft24_4 (aI @Ty.if24 (aI @Ty.pl24 (aI @Ty.sz24 (aI @Ty.un24 (aI @Ty.unn24 (aI @Ty.zr24 (aI @Ty.ag95 (aI @Ty.by95 (aI @Ty.if95 (aI @Ty.po95 (aI @Ty.sz95 (aI @Ty.un95 (aI @Ty.unn95 (aI @Ty.zr95 (aI @Ty.ag99 (aI @Ty.by99 (aI @Ty.if99 (aI @Ty.po99 (aI @Ty.sz99 (aI @Ty.un99 (aI @Ty.unn99 (aI @Ty.zr99 (aI @Ty.ag101 (aI @Ty.by101 (aI @Ty.if101 (aI @Ty.sz101 (aI @Ty.un101 (aI @Ty.unn101 (aI @Ty.zr101 (aI @Ty.ag103 (aI @Ty.by103 (aI @Ty.fo103_0 (aI @Ty.fo103_1 (aI @Ty.fo103_2 (aI @Ty.fo103_3 (aI @Ty.fo103_4 (aI @Ty.fo103_5 (aI @Ty.ft103_0 (aI @Ty.ft103_1 (aI @Ty.ft103_2 (aI @Ty.ft103_3 (aI @Ty.ft103_4 (aI @Ty.ft103_5 (aI @Ty.if103 (aI @Ty.pl103 (aI @Ty.sz103 (aI @Ty.un103 (aI @Ty.unn103 (aI @Ty.zr103 (aI @Ty.ag107 (aI @Ty.by107 (aI @Ty.ef107 (aI @Ty.fo107_0 (aI @Ty.fo107_1 (aI @Ty.ft107_0 (aI @Ty.ft107_1 (aI @Ty.if107 (aI @Ty.pl107 (aI @Ty.sz107 (aI @Ty.un107 (aI @Ty.unn107 (@Ty.zr107)))))))))))))))))))))))))))))))))))))))))))))))))))))))))))))))))))))))))))))))))))))))))
theorem t59 : type_of% tkd59 := tkd59
def tkd60 := (aI @Ty.ag1 (aI @Ty.by1 (aI @Ty.if1 (aI @Ty.sz1 (aI @Ty.un1 (aI @Ty.unn1 (aI @Ty.zr1 (aI @Ty.ag2 (aI @Ty.by2 (aI @Ty.if2 (aI @Ty.in2 (aI @Ty.sz2 (aI @Ty.un2 (aI @Ty.unn2 (aI @Ty.zr2 (aI @Ty.ag3 (aI @Ty.by3 (aI @Ty.if3 (aI @Ty.in3 (aI @Ty.sz3 (aI @Ty.un3 (aI @Ty.unn3 (aI @Ty.zr3 (aI @Ty.ag4 (aI @Ty.bo4 (aI @Ty.by4 (aI @Ty.if4 (aI @Ty.sz4 (aI @Ty.un4 (aI @Ty.unn4 (aI @Ty.zr4 (aI @Ty.ag27 (aI @Ty.by27 (aI @Ty.el27 (aI @Ty.if27 (aI @Ty.ni27 (aI @Ty.sz27 (aI @Ty.un27 (aI @Ty.unn27 (aI @Ty.zr27 (aI @Ty.ag95 (aI @Ty.by95 (aI @Ty.if95 (aI @Ty.po95 (aI @Ty.sz95 (aI @Ty.un95 (aI @Ty.unn95 (aI @Ty.zr95 (aI @Ty.ag99 (aI @Ty.by99 (aI @Ty.if99 (aI @Ty.po99 (aI @Ty.sz99 (aI @Ty.un99 (aI @Ty.unn99 (aI @Ty.zr99 (aI @Ty.ag100 (aI @Ty.by100 (aI @Ty.el100 (aI @Ty.if100 (aI @Ty.ni100 (aI @Ty.sz100 (aI @Ty.un100 (aI @Ty.unn100 (aI @Ty.zr100 (aI @Ty.ag103 (aI @Ty.by103 (aI @Ty.fo103_0 (aI @Ty.fo103_1 (aI @Ty.fo103_2 (aI @Ty.fo103_3 (aI @Ty.fo103_4 (aI @Ty.fo103_5 (aI @Ty.ft103_0 (aI @Ty.ft103_1 (aI @Ty.ft103_2 (aI @Ty.ft103_3 (aI @Ty.ft103_4 (aI @Ty.ft103_5 (aI @Ty.if103 (aI @Ty.pl103 (aI @Ty.sz103 (aI @Ty.un103 (aI @Ty.unn103 (aI @Ty.zr103 (aI @Ty.ag105 (aI @Ty.by105 (aI @Ty.if105 (aI @Ty.in105 (aI @Ty.sz105 (aI @Ty.un105 (aI @Ty.unn105 (aI @Ty.zr105 (aI @Ty.ag107 (aI @Ty.by107 (aI @Ty.ef107 (aI @Ty.fo107_0 (aI @Ty.fo107_1 (aI @Ty.ft107_0 (aI @Ty.ft107_1 (aI @Ty.if107 (aI @Ty.pl107 (aI @Ty.sz107 (aI @Ty.un107 (aI @Ty.unn107 (@Ty.zr107))))))))))))))))))))))))))))))))))))))))))))))))))))))))))))))))))))))))))))))))))))))))))))))))))))))))))
theorem t60 : type_of% tkd60 := tkd60
def tkd61 := @Nat.zero_add
theorem t61 : type_of% tkd61 := tkd61
def tkd62 := (aI @Ty.ag1 (aI @Ty.by1 (aI @Ty.if1 (aI @Ty.sz1 (aI @Ty.un1 (aI @Ty.unn1 (aI @Ty.zr1 (aI @Ty.ag3 (aI @Ty.by3 (aI @Ty.if3 (aI @Ty.in3 (aI @Ty.sz3 (aI @Ty.un3 (aI @Ty.unn3 (aI @Ty.zr3 (aI @Ty.ag27 (aI @Ty.by27 (aI @Ty.el27 (aI @Ty.if27 (aI @Ty.ni27 (aI @Ty.sz27 (aI @Ty.un27 (aI @Ty.unn27 (aI @Ty.zr27 (aI @Ty.ag104 (aI @Ty.by104 (aI @Ty.if104 (aI @Ty.in104 (aI @Ty.sz104 (aI @Ty.un104 (aI @Ty.unn104 (aI @Ty.zr104 (aI @Ty.ag105 (aI @Ty.by105 (aI @Ty.if105 (aI @Ty.in105 (aI @Ty.sz105 (aI @Ty.un105 (aI @Ty.unn105 (@Ty.zr105))))))))))))))))))))))))))))))))))))))))
theorem t62 : type_of% tkd62 := tkd62
def tkd66 := (aI @Ty.ag3 (aI @Ty.by3 (aI @Ty.if3 (aI @Ty.in3 (aI @Ty.sz3 (aI @Ty.un3 (aI @Ty.unn3 (@Ty.zr3))))))))
theorem t66 : type_of% tkd66 := tkd66
def tkd67 := (aI @Ty.ag1 (aI @Ty.by1 (aI @Ty.if1 (aI @Ty.sz1 (aI @Ty.un1 (aI @Ty.unn1 (aI @Ty.zr1 (aI @Ty.ag2 (aI @Ty.by2 (aI @Ty.if2 (aI @Ty.in2 (aI @Ty.sz2 (aI @Ty.un2 (aI @Ty.unn2 (aI @Ty.zr2 (aI @Ty.ag3 (aI @Ty.by3 (aI @Ty.if3 (aI @Ty.in3 (aI @Ty.sz3 (aI @Ty.un3 (aI @Ty.unn3 (aI @Ty.zr3 (aI @Ty.ag4 (aI @Ty.bo4 (aI @Ty.by4 (aI @Ty.if4 (aI @Ty.sz4 (aI @Ty.un4 (aI @Ty.unn4 (aI @Ty.zr4 (aI @Ty.ag27 (aI @Ty.by27 (aI @Ty.el27 (aI @Ty.if27 (aI @Ty.ni27 (aI @Ty.sz27 (aI @Ty.un27 (aI @Ty.unn27 (aI @Ty.zr27 (aI @Ty.ag113 (aI @Ty.by113 (aI @Ty.ef113 (aI @Ty.fo113_0 (aI @Ty.fo113_1 (aI @Ty.fo113_2 (aI @Ty.fo113_3 (aI @Ty.ft113_0 (aI @Ty.ft113_1 (aI @Ty.ft113_2 (aI @Ty.ft113_3 (aI @Ty.if113 (aI @Ty.pl113 (aI @Ty.sz113 (aI @Ty.un113 (aI @Ty.unn113 (@Ty.zr113)))))))))))))))))))))))))))))))))))))))))))))))))))))))))
theorem t67 : type_of% tkd67 := tkd67
def tkd68 := (aI @Ty.ag3 (aI @Ty.by3 (aI @Ty.if3 (aI @Ty.in3 (aI @Ty.sz3 (aI @Ty.un3 (aI @Ty.unn3 (aI @Ty.zr3 (aI @Ty.ag4 (aI @Ty.bo4 (aI @Ty.by4 (aI @Ty.if4 (aI @Ty.sz4 (aI @Ty.un4 (aI @Ty.unn4 (aI @Ty.zr4 (aI @Ty.ag27 (aI @Ty.by27 (aI @Ty.el27 (aI @Ty.if27 (aI @Ty.ni27 (aI @Ty.sz27 (aI @Ty.un27 (aI @Ty.unn27 (@Ty.zr27)))))))))))))))))))))))))
theorem t68 : type_of% tkd68 := tkd68
def tkd69 := (aI @Ty.ag1 (aI @Ty.by1 (aI @Ty.if1 (aI @Ty.sz1 (aI @Ty.un1 (aI @Ty.unn1 (aI @Ty.zr1 (aI @Ty.ag2 (aI @Ty.by2 (aI @Ty.if2 (aI @Ty.in2 (aI @Ty.sz2 (aI @Ty.un2 (aI @Ty.unn2 (aI @Ty.zr2 (aI @Ty.ag3 (aI @Ty.by3 (aI @Ty.if3 (aI @Ty.in3 (aI @Ty.sz3 (aI @Ty.un3 (aI @Ty.unn3 (aI @Ty.zr3 (aI @Ty.ag4 (aI @Ty.bo4 (aI @Ty.by4 (aI @Ty.if4 (aI @Ty.sz4 (aI @Ty.un4 (aI @Ty.unn4 (aI @Ty.zr4 (aI @Ty.ag27 (aI @Ty.by27 (aI @Ty.el27 (aI @Ty.if27 (aI @Ty.ni27 (aI @Ty.sz27 (aI @Ty.un27 (aI @Ty.unn27 (aI @Ty.zr27 (aI @Ty.ag113 (aI @Ty.by113 (aI @Ty.ef113 (aI @Ty.fo113_0 (aI @Ty.fo113_1 (aI @Ty.fo113_2 (aI @Ty.fo113_3 (aI @Ty.ft113_0 (aI @Ty.ft113_1 (aI @Ty.ft113_2 (aI @Ty.ft113_3 (aI @Ty.if113 (aI @Ty.pl113 (aI @Ty.sz113 (aI @Ty.un113 (aI @Ty.unn113 (@Ty.zr113)))))))))))))))))))))))))))))))))))))))))))))))))))))))))
theorem t69 : type_of% tkd69 := tkd69
def tkd70 := (aI @Ty.ag24 (aI @Ty.by24 (aI @Ty.fo24_0 (aI @Ty.fo24_1 (aI @Ty.fo24_2 (aI @Ty.fo24_3 (aI @Ty.fo24_4 (aI @Ty.ft24_0 (aI @Ty.ft24_1 (aI @Ty.ft24_2 (aI @Ty.ft24_3 (aI @Ty.ft24_4 (aI @Ty.if24 (aI @Ty.pl24 (aI @Ty.sz24 (aI @Ty.un24 (aI @Ty.unn24 (@Ty.zr24))))))))))))))))))
theorem t70 : type_of% tkd70 := tkd70
def tkd71 := (aI @Ty.ag1 (aI @Ty.by1 (aI @Ty.if1 (aI @Ty.sz1 (aI @Ty.un1 (aI @Ty.unn1 (aI @Ty.zr1 (aI @Ty.ag2 (aI @Ty.by2 (aI @Ty.if2 (aI @Ty.in2 (aI @Ty.sz2 (aI @Ty.un2 (aI @Ty.unn2 (aI @Ty.zr2 (aI @Ty.ag3 (aI @Ty.by3 (aI @Ty.if3 (aI @Ty.in3 (aI @Ty.sz3 (aI @Ty.un3 (aI @Ty.unn3 (aI @Ty.zr3 (aI @Ty.ag4 (aI @Ty.bo4 (aI @Ty.by4 (aI @Ty.if4 (aI @Ty.sz4 (aI @Ty.un4 (aI @Ty.unn4 (aI @Ty.zr4 (aI @Ty.ag22 (aI @Ty.by22 (aI @Ty.el22 (aI @Ty.if22 (aI @Ty.ni22 (aI @Ty.sz22 (aI @Ty.un22 (aI @Ty.unn22 (aI @Ty.zr22 (aI @Ty.ag24 (aI @Ty.by24 (aI @Ty.fo24_0 (aI @Ty.fo24_1 (aI @Ty.fo24_2 (aI @Ty.fo24_3 (aI @Ty.fo24_4 (aI @Ty.ft24_0 (aI @Ty.ft24_1 (aI @Ty.ft24_2 (aI @Ty.ft24_3 (aI @Ty.ft24_4 (aI @Ty.if24 (aI @Ty.pl24 (aI @Ty.sz24 (aI @Ty.un24 (aI @Ty.unn24 (aI @Ty.zr24 (aI @Ty.ag105 (aI @Ty.by105 (aI @Ty.if105 (aI @Ty.in105 (aI @Ty.sz105 (aI @Ty.un105 (aI @Ty.unn105 (aI @Ty.zr105 (aI @Ty.ag113 (aI @Ty.by113 (aI @Ty.ef113 (aI @Ty.fo113_0 (aI @Ty.fo113_1 (aI @Ty.fo113_2 (aI @Ty.fo113_3 (aI @Ty.ft113_0 (aI @Ty.ft113_1 (aI @Ty.ft113_2 (aI @Ty.ft113_3 (aI @Ty.if113 (aI @Ty.pl113 (aI @Ty.sz113 (aI @Ty.un113 (aI @Ty.unn113 (aI @Ty.zr113 (aI @Ty.ag122 (aI @Ty.by122 (aI @Ty.el122 (aI @Ty.if122 (aI @Ty.ni122 (aI @Ty.sz122 (aI @Ty.un122 (aI @Ty.unn122 (aI @Ty.zr122 (aI @Ty.ag123 (aI @Ty.by123 (aI @Ty.el123 (aI @Ty.if123 (aI @Ty.ni123 (aI @Ty.sz123 (aI @Ty.un123 (aI @Ty.unn123 (aI @Ty.zr123 (aI @Ty.ag125 (aI @Ty.by125 (aI @Ty.fo125_0 (aI @Ty.fo125_1 (aI @Ty.fo125_2 (aI @Ty.ft125_0 (aI @Ty.ft125_1 (aI @Ty.ft125_2 (aI @Ty.if125 (aI @Ty.pl125 (aI @Ty.sz125 (aI @Ty.un125 (aI @Ty.unn125 (@Ty.zr125)))))))))))))))))))))))))))))))))))))))))))))))))))))))))))))))))))))))))))))))))))))))))))))))))))))))))))))))))))
theorem t71 : type_of% tkd71 := tkd71
def tkd72 := (aI @Ty.ag1 (aI @Ty.by1 (aI @Ty.if1 (aI @Ty.sz1 (aI @Ty.un1 (aI @Ty.unn1 (aI @Ty.zr1 (aI @Ty.ag3 (aI @Ty.by3 (aI @Ty.if3 (aI @Ty.in3 (aI @Ty.sz3 (aI @Ty.un3 (aI @Ty.unn3 (aI @Ty.zr3 (aI @Ty.ag24 (aI @Ty.by24 (aI @Ty.fo24_0 (aI @Ty.fo24_1 (aI @Ty.fo24_2 (aI @Ty.fo24_3 (aI @Ty.fo24_4 (aI @Ty.ft24_0 (aI @Ty.ft24_1 (aI @Ty.ft24_2 (aI @Ty.ft24_3 (aI @Ty.ft24_4 (aI @Ty.if24 (aI @Ty.pl24 (aI @Ty.sz24 (aI @Ty.un24 (aI @Ty.unn24 (aI @Ty.zr24 (aI @Ty.ag99 (aI @Ty.by99 (aI @Ty.if99 (aI @Ty.po99 (aI @Ty.sz99 (aI @Ty.un99 (aI @Ty.unn99 (aI @Ty.zr99 (aI @Ty.ag105 (aI @Ty.by105 (aI @Ty.if105 (aI @Ty.in105 (aI @Ty.sz105 (aI @Ty.un105 (aI @Ty.unn105 (aI @Ty.zr105 (aI @Ty.ag125 (aI @Ty.by125 (aI @Ty.fo125_0 (aI @Ty.fo125_1 (aI @Ty.fo125_2 (aI @Ty.ft125_0 (aI @Ty.ft125_1 (aI @Ty.ft125_2 (aI @Ty.if125 (aI @Ty.pl125 (aI @Ty.sz125 (aI @Ty.un125 (aI @Ty.unn125 (@Ty.zr125)))))))))))))))))))))))))))))))))))))))))))))))))))))))))))))))
theorem t72 : type_of% tkd72 := tkd72
def tkd73 := (aI @Ty.ag2 (aI @Ty.by2 (aI @Ty.if2 (aI @Ty.in2 (aI @Ty.sz2 (aI @Ty.un2 (aI @Ty.unn2 (aI @Ty.zr2 (aI @Ty.ag3 (aI @Ty.by3 (aI @Ty.if3 (aI @Ty.in3 (aI @Ty.sz3 (aI @Ty.un3 (aI @Ty.unn3 (aI @Ty.zr3 (aI @Ty.ag24 (aI @Ty.by24 (aI @Ty.fo24_0 (aI @Ty.fo24_1 (aI @Ty.fo24_2 (aI @Ty.fo24_3 (aI @Ty.fo24_4 (aI @Ty.ft24_0 (aI @Ty.ft24_1 (aI @Ty.ft24_2 (aI @Ty.ft24_3 (aI @Ty.ft24_4 (aI @Ty.if24 (aI @Ty.pl24 (aI @Ty.sz24 (aI @Ty.un24 (aI @Ty.unn24 (aI @Ty.zr24 (aI @Ty.ag125 (aI @Ty.by125 (aI @Ty.fo125_0 (aI @Ty.fo125_1 (aI @Ty.fo125_2 (aI @Ty.ft125_0 (aI @Ty.ft125_1 (aI @Ty.ft125_2 (aI @Ty.if125 (aI @Ty.pl125 (aI @Ty.sz125 (aI @Ty.un125 (aI @Ty.unn125 (@Ty.zr125))))))))))))))))))))))))))))))))))))))))))))))))
theorem t73 : type_of% tkd73 := tkd73
def tkd74 := (aI @Ty.ag1 (aI @Ty.by1 (aI @Ty.if1 (aI @Ty.sz1 (aI @Ty.un1 (aI @Ty.unn1 (aI @Ty.zr1 (aI @Ty.ag3 (aI @Ty.by3 (aI @Ty.if3 (aI @Ty.in3 (aI @Ty.sz3 (aI @Ty.un3 (aI @Ty.unn3 (aI @Ty.zr3 (aI @Ty.ag27 (aI @Ty.by27 (aI @Ty.el27 (aI @Ty.if27 (aI @Ty.ni27 (aI @Ty.sz27 (aI @Ty.un27 (aI @Ty.unn27 (aI @Ty.zr27 (aI @Ty.ag99 (aI @Ty.by99 (aI @Ty.if99 (aI @Ty.po99 (aI @Ty.sz99 (aI @Ty.un99 (aI @Ty.unn99 (aI @Ty.zr99 (aI @Ty.ag105 (aI @Ty.by105 (aI @Ty.if105 (aI @Ty.in105 (aI @Ty.sz105 (aI @Ty.un105 (aI @Ty.unn105 (aI @Ty.zr105 (aI @Ty.ag122 (aI @Ty.by122 (aI @Ty.el122 (aI @Ty.if122 (aI @Ty.ni122 (aI @Ty.sz122 (aI @Ty.un122 (aI @Ty.unn122 (aI @Ty.zr122 (aI @Ty.ag123 (aI @Ty.by123 (aI @Ty.el123 (aI @Ty.if123 (aI @Ty.ni123 (aI @Ty.sz123 (aI @Ty.un123 (aI @Ty.unn123 (aI @Ty.zr123 (aI @Ty.ag125 (aI @Ty.by125 (aI @Ty.fo125_0 (aI @Ty.fo125_1 (aI @Ty.fo125_2 (aI @Ty.ft125_0 (aI @Ty.ft125_1 (aI @Ty.ft125_2 (aI @Ty.if125 (aI @Ty.pl125 (aI @Ty.sz125 (aI @Ty.un125 (aI @Ty.unn125 (@Ty.zr125))))))))))))))))))))))))))))))))))))))))))))))))))))))))))))))))))))))))
theorem t74 : type_of% tkd74 := tkd74
def tkd75 := (aI @Ty.ag2 (aI @Ty.by2 (aI @Ty.if2 (aI @Ty.in2 (aI @Ty.sz2 (aI @Ty.un2 (aI @Ty.unn2 (aI @Ty.zr2 (aI @Ty.ag3 (aI @Ty.by3 (aI @Ty.if3 (aI @Ty.in3 (aI @Ty.sz3 (aI @Ty.un3 (aI @Ty.unn3 (aI @Ty.zr3 (aI @Ty.ag27 (aI @Ty.by27 (aI @Ty.el27 (aI @Ty.if27 (aI @Ty.ni27 (aI @Ty.sz27 (aI @Ty.un27 (aI @Ty.unn27 (aI @Ty.zr27 (aI @Ty.ag105 (aI @Ty.by105 (aI @Ty.if105 (aI @Ty.in105 (aI @Ty.sz105 (aI @Ty.un105 (aI @Ty.unn105 (aI @Ty.zr105 (aI @Ty.ag123 (aI @Ty.by123 (aI @Ty.el123 (aI @Ty.if123 (aI @Ty.ni123 (aI @Ty.sz123 (aI @Ty.un123 (aI @Ty.unn123 (aI @Ty.zr123 (aI @Ty.ag125 (aI @Ty.by125 (aI @Ty.fo125_0 (aI @Ty.fo125_1 (aI @Ty.fo125_2 (aI @Ty.ft125_0 (aI @Ty.ft125_1 (aI @Ty.ft125_2 (aI @Ty.if125 (aI @Ty.pl125 (aI @Ty.sz125 (aI @Ty.un125 (aI @Ty.unn125 (@Ty.zr125))))))))))))))))))))))))))))))))))))))))))))))))))))))))
theorem t75 : type_of% tkd75 := tkd75
def tkd77 := (aI @Ty.ag3 (aI @Ty.by3 (aI @Ty.if3 (aI @Ty.in3 (aI @Ty.sz3 (aI @Ty.un3 (aI @Ty.unn3 (aI @Ty.zr3 (aI @Ty.ag4 (aI @Ty.bo4 (aI @Ty.by4 (aI @Ty.if4 (aI @Ty.sz4 (aI @Ty.un4 (aI @Ty.unn4 (aI @Ty.zr4 (aI @Ty.ag24 (aI @Ty.by24 (aI @Ty.fo24_0 (aI @Ty.fo24_1 (aI @Ty.fo24_2 (aI @Ty.fo24_3 (aI @Ty.fo24_4 (aI @Ty.ft24_0 (aI @Ty.ft24_1 (aI @Ty.ft24_2 (aI @Ty.ft24_3 (aI @Ty.ft24_4 (aI @Ty.if24 (aI @Ty.pl24 (aI @Ty.sz24 (aI @Ty.un24 (aI @Ty.unn24 (aI @Ty.zr24 (aI @Ty.ag27 (aI @Ty.by27 (aI @Ty.el27 (aI @Ty.if27 (aI @Ty.ni27 (aI @Ty.sz27 (aI @Ty.un27 (aI @Ty.unn27 (aI @Ty.zr27 (aI @Ty.ag28 (aI @Ty.by28 (aI @Ty.if28 (aI @Ty.in28 (aI @Ty.sz28 (aI @Ty.un28 (aI @Ty.unn28 (aI @Ty.zr28 (aI @Ty.ag156 (aI @Ty.by156 (aI @Ty.if156 (aI @Ty.sz156 (aI @Ty.un156 (aI @Ty.unn156 (@Ty.zr156))))))))))))))))))))))))))))))))))))))))))))))))))))))))))
theorem t77 : type_of% tkd77 := tkd77
def tkd78 := (aI @Ty.ag3 (aI @Ty.by3 (aI @Ty.if3 (aI @Ty.in3 (aI @Ty.sz3 (aI @Ty.un3 (aI @Ty.unn3 (aI @Ty.zr3 (aI @Ty.ag27 (aI @Ty.by27 (aI @Ty.el27 (aI @Ty.if27 (aI @Ty.ni27 (aI @Ty.sz27 (aI @Ty.un27 (aI @Ty.unn27 (aI @Ty.zr27 (aI @Ty.ag99 (aI @Ty.by99 (aI @Ty.if99 (aI @Ty.po99 (aI @Ty.sz99 (aI @Ty.un99 (aI @Ty.unn99 (aI @Ty.zr99 (aI @Ty.ag105 (aI @Ty.by105 (aI @Ty.if105 (aI @Ty.in105 (aI @Ty.sz105 (aI @Ty.un105 (aI @Ty.unn105 (@Ty.zr105)))))))))))))))))))))))))))))))))
theorem t78 : type_of% tkd78 := tkd78
def tkd80 := (aI @Ty.ag2 (aI @Ty.by2 (aI @Ty.if2 (aI @Ty.in2 (aI @Ty.sz2 (aI @Ty.un2 (aI @Ty.unn2 (aI @Ty.zr2 (aI @Ty.ag3 (aI @Ty.by3 (aI @Ty.if3 (aI @Ty.in3 (aI @Ty.sz3 (aI @Ty.un3 (aI @Ty.unn3 (aI @Ty.zr3 (aI @Ty.ag24 (aI @Ty.by24 (aI @Ty.fo24_0 (aI @Ty.fo24_1 (aI @Ty.fo24_2 (aI @Ty.fo24_3 (aI @Ty.fo24_4 (aI @Ty.ft24_0 (aI @Ty.ft24_1 (aI @Ty.ft24_2 (aI @Ty.ft24_3 (aI @Ty.ft24_4 (aI @Ty.if24 (aI @Ty.pl24 (aI @Ty.sz24 (aI @Ty.un24 (aI @Ty.unn24 (aI @Ty.zr24 (aI @Ty.ag99 (aI @Ty.by99 (aI @Ty.if99 (aI @Ty.po99 (aI @Ty.sz99 (aI @Ty.un99 (aI @Ty.unn99 (aI @Ty.zr99 (aI @Ty.ag105 (aI @Ty.by105 (aI @Ty.if105 (aI @Ty.in105 (aI @Ty.sz105 (aI @Ty.un105 (aI @Ty.unn105 (aI @Ty.zr105 (aI @Ty.ag125 (aI @Ty.by125 (aI @Ty.fo125_0 (aI @Ty.fo125_1 (aI @Ty.fo125_2 (aI @Ty.ft125_0 (aI @Ty.ft125_1 (aI @Ty.ft125_2 (aI @Ty.if125 (aI @Ty.pl125 (aI @Ty.sz125 (aI @Ty.un125 (aI @Ty.unn125 (@Ty.zr125))))))))))))))))))))))))))))))))))))))))))))))))))))))))))))))))
theorem t80 : type_of% tkd80 := tkd80
def tkd82 := (aI @Ty.ag3 (aI @Ty.by3 (aI @Ty.if3 (aI @Ty.in3 (aI @Ty.sz3 (aI @Ty.un3 (aI @Ty.unn3 (aI @Ty.zr3 (aI @Ty.ag28 (aI @Ty.by28 (aI @Ty.if28 (aI @Ty.in28 (aI @Ty.sz28 (aI @Ty.un28 (aI @Ty.unn28 (aI @Ty.zr28 (aI @Ty.ag165 (aI @Ty.by165 (aI @Ty.el165 (aI @Ty.if165 (aI @Ty.ni165 (aI @Ty.sz165 (aI @Ty.un165 (aI @Ty.unn165 (@Ty.zr165)))))))))))))))))))))))))
theorem t82 : type_of% tkd82 := tkd82
def tkd87 := (aI @Ty.ag1 (aI @Ty.by1 (aI @Ty.if1 (aI @Ty.sz1 (aI @Ty.un1 (aI @Ty.unn1 (aI @Ty.zr1 (aI @Ty.ag2 (aI @Ty.by2 (aI @Ty.if2 (aI @Ty.in2 (aI @Ty.sz2 (aI @Ty.un2 (aI @Ty.unn2 (aI @Ty.zr2 (aI @Ty.ag3 (aI @Ty.by3 (aI @Ty.if3 (aI @Ty.in3 (aI @Ty.sz3 (aI @Ty.un3 (aI @Ty.unn3 (aI @Ty.zr3 (aI @Ty.ag4 (aI @Ty.bo4 (aI @Ty.by4 (aI @Ty.if4 (aI @Ty.sz4 (aI @Ty.un4 (aI @Ty.unn4 (aI @Ty.zr4 (aI @Ty.ag24 (aI @Ty.by24 (aI @Ty.fo24_0 (aI @Ty.fo24_1 (aI @Ty.fo24_2 (aI @Ty.fo24_3 (aI @Ty.fo24_4 (aI @Ty.ft24_0 (aI @Ty.ft24_1 (aI @Ty.ft24_2 (aI @Ty.ft24_3 (aI @Ty.ft24_4 (aI @Ty.if24 (aI @Ty.pl24 (aI @Ty.sz24 (aI @Ty.un24 (aI @Ty.unn24 (aI @Ty.zr24 (aI @Ty.ag99 (aI @Ty.by99 (aI @Ty.if99 (aI @Ty.po99 (aI @Ty.sz99 (aI @Ty.un99 (aI @Ty.unn99 (aI @Ty.zr99 (aI @Ty.ag103 (aI @Ty.by103 (aI @Ty.fo103_0 (aI @Ty.fo103_1 (aI @Ty.fo103_2 (aI @Ty.fo103_3 (aI @Ty.fo103_4 (aI @Ty.fo103_5 (aI @Ty.ft103_0 (aI @Ty.ft103_1 (aI @Ty.ft103_2 (aI @Ty.ft103_3 (aI @Ty.ft103_4 (aI @Ty.ft103_5 (aI @Ty.if103 (aI @Ty.pl103 (aI @Ty.sz103 (aI @Ty.un103 (aI @Ty.unn103 (aI @Ty.zr103 (aI @Ty.ag105 (aI @Ty.by105 (aI @Ty.if105 (aI @Ty.in105 (aI @Ty.sz105 (aI @Ty.un105 (aI @Ty.unn105 (aI @Ty.zr105 (aI @Ty.ag107 (aI @Ty.by107 (aI @Ty.ef107 (aI @Ty.fo107_0 (aI @Ty.fo107_1 (aI @Ty.ft107_0 (aI @Ty.ft107_1 (aI @Ty.if107 (aI @Ty.pl107 (aI @Ty.sz107 (aI @Ty.un107 (aI @Ty.unn107 (aI @Ty.zr107 (aI @Ty.ag125 (aI @Ty.by125 (aI @Ty.fo125_0 (aI @Ty.fo125_1 (aI @Ty.fo125_2 (aI @Ty.ft125_0 (aI @Ty.ft125_1 (aI @Ty.ft125_2 (aI @Ty.if125 (aI @Ty.pl125 (aI @Ty.sz125 (aI @Ty.un125 (aI @Ty.unn125 (@Ty.zr125))))))))))))))))))))))))))))))))))))))))))))))))))))))))))))))))))))))))))))))))))))))))))))))))))))))))))))))))
theorem t87 : type_of% tkd87 := tkd87
def tkd101 := (aI @Ty.ag1 (aI @Ty.by1 (aI @Ty.if1 (aI @Ty.sz1 (aI @Ty.un1 (aI @Ty.unn1 (aI @Ty.zr1 (aI @Ty.ag2 (aI @Ty.by2 (aI @Ty.if2 (aI @Ty.in2 (aI @Ty.sz2 (aI @Ty.un2 (aI @Ty.unn2 (aI @Ty.zr2 (aI @Ty.ag3 (aI @Ty.by3 (aI @Ty.if3 (aI @Ty.in3 (aI @Ty.sz3 (aI @Ty.un3 (aI @Ty.unn3 (aI @Ty.zr3 (aI @Ty.ag4 (aI @Ty.bo4 (aI @Ty.by4 (aI @Ty.if4 (aI @Ty.sz4 (aI @Ty.un4 (aI @Ty.unn4 (aI @Ty.zr4 (aI @Ty.ag5 (aI @Ty.by5 (aI @Ty.if5 (aI @Ty.in5 (aI @Ty.sz5 (aI @Ty.un5 (aI @Ty.unn5 (aI @Ty.zr5 (aI @Ty.ag27 (aI @Ty.by27 (aI @Ty.el27 (aI @Ty.if27 (aI @Ty.ni27 (aI @Ty.sz27 (aI @Ty.un27 (aI @Ty.unn27 (aI @Ty.zr27 (aI @Ty.ag100 (aI @Ty.by100 (aI @Ty.el100 (aI @Ty.if100 (aI @Ty.ni100 (aI @Ty.sz100 (aI @Ty.un100 (aI @Ty.unn100 (aI @Ty.zr100 (aI @Ty.ag101 (aI @Ty.by101 (aI @Ty.if101 (aI @Ty.sz101 (aI @Ty.un101 (aI @Ty.unn101 (aI @Ty.zr101 (aI @Ty.ag103 (aI @Ty.by103 (aI @Ty.fo103_0 (aI @Ty.fo103_1 (aI @Ty.fo103_2 (aI @Ty.fo103_3 (aI @Ty.fo103_4 (aI @Ty.fo103_5 (aI @Ty.ft103_0 (aI @Ty.ft103_1 (aI @Ty.ft103_2 (aI @Ty.ft103_3 (aI @Ty.ft103_4 (aI @Ty.ft103_5 (aI @Ty.if103 (aI @Ty.pl103 (aI @Ty.sz103 (aI @Ty.un103 (aI @Ty.unn103 (aI @Ty.zr103 (aI @Ty.ag107 (aI @Ty.by107 (aI @Ty.ef107 (aI @Ty.fo107_0 (aI @Ty.fo107_1 (aI @Ty.ft107_0 (aI @Ty.ft107_1 (aI @Ty.if107 (aI @Ty.pl107 (aI @Ty.sz107 (aI @Ty.un107 (aI @Ty.unn107 (@Ty.zr107)))))))))))))))))))))))))))))))))))))))))))))))))))))))))))))))))))))))))))))))))))))))))))))))))
theorem t101 : type_of% tkd101 := tkd101
def tkd102 := (aI @Ty.ag3 (aI @Ty.by3 (aI @Ty.if3 (aI @Ty.in3 (aI @Ty.sz3 (aI @Ty.un3 (aI @Ty.unn3 (aI @Ty.zr3 (aI @Ty.ag27 (aI @Ty.by27 (aI @Ty.el27 (aI @Ty.if27 (aI @Ty.ni27 (aI @Ty.sz27 (aI @Ty.un27 (aI @Ty.unn27 (@Ty.zr27)))))))))))))))))
theorem t102 : type_of% tkd102 := tkd102
def tkd103 := (aI @Ty.ag104 (aI @Ty.by104 (aI @Ty.if104 (aI @Ty.in104 (aI @Ty.sz104 (aI @Ty.un104 (aI @Ty.unn104 (aI @Ty.zr104 (aI @Ty.ag174 (aI @Ty.by174 (aI @Ty.if174 (aI @Ty.in174 (aI @Ty.sz174 (aI @Ty.un174 (aI @Ty.unn174 (aI @Ty.zr174 (aI @Ty.ag176 (aI @Ty.by176 (aI @Ty.if176 (aI @Ty.in176 (aI @Ty.sz176 (aI @Ty.un176 (aI @Ty.unn176 (@Ty.zr176))))))))))))))))))))))))
theorem t103 : type_of% tkd103 := tkd103
def tkd105 := (aI @Ty.ag3 (aI @Ty.by3 (aI @Ty.if3 (aI @Ty.in3 (aI @Ty.sz3 (aI @Ty.un3 (aI @Ty.unn3 (aI @Ty.zr3 (aI @Ty.ag27 (aI @Ty.by27 (aI @Ty.el27 (aI @Ty.if27 (aI @Ty.ni27 (aI @Ty.sz27 (aI @Ty.un27 (aI @Ty.unn27 (@Ty.zr27)))))))))))))))))
theorem t105 : type_of% tkd105 := tkd105
def tkd106 := (aI @Ty.ag3 (aI @Ty.by3 (aI @Ty.if3 (aI @Ty.in3 (aI @Ty.sz3 (aI @Ty.un3 (aI @Ty.unn3 (@Ty.zr3))))))))
theorem t106 : type_of% tkd106 := tkd106
def tkd107 := @Nat.zero_add
theorem t107 : type_of% tkd107 := tkd107
def tkd108 := (aI @Ty.ag1 (aI @Ty.by1 (aI @Ty.if1 (aI @Ty.sz1 (aI @Ty.un1 (aI @Ty.unn1 (aI @Ty.zr1 (aI @Ty.ag2 (aI @Ty.by2 (aI @Ty.if2 (aI @Ty.in2 (aI @Ty.sz2 (aI @Ty.un2 (aI @Ty.unn2 (aI @Ty.zr2 (aI @Ty.ag3 (aI @Ty.by3 (aI @Ty.if3 (aI @Ty.in3 (aI @Ty.sz3 (aI @Ty.un3 (aI @Ty.unn3 (aI @Ty.zr3 (aI @Ty.ag24 (aI @Ty.by24 (aI @Ty.fo24_0 (aI @Ty.fo24_1 (aI @Ty.fo24_2 (aI @Ty.fo24_3 (aI @Ty.fo24_4 (aI @Ty.ft24_0 (aI @Ty.ft24_1 (aI @Ty.ft24_2 (aI @Ty.ft24_3 (aI @Ty.ft24_4 (aI @Ty.if24 (aI @Ty.pl24 (aI @Ty.sz24 (aI @Ty.un24 (aI @Ty.unn24 (aI @Ty.zr24 (aI @Ty.ag105 (aI @Ty.by105 (aI @Ty.if105 (aI @Ty.in105 (aI @Ty.sz105 (aI @Ty.un105 (aI @Ty.unn105 (aI @Ty.zr105 (aI @Ty.ag122 (aI @Ty.by122 (aI @Ty.el122 (aI @Ty.if122 (aI @Ty.ni122 (aI @Ty.sz122 (aI @Ty.un122 (aI @Ty.unn122 (aI @Ty.zr122 (aI @Ty.ag123 (aI @Ty.by123 (aI @Ty.el123 (aI @Ty.if123 (aI @Ty.ni123 (aI @Ty.sz123 (aI @Ty.un123 (aI @Ty.unn123 (aI @Ty.zr123 (aI @Ty.ag125 (aI @Ty.by125 (aI @Ty.fo125_0 (aI @Ty.fo125_1 (aI @Ty.fo125_2 (aI @Ty.ft125_0 (aI @Ty.ft125_1 (aI @Ty.ft125_2 (aI @Ty.if125 (aI @Ty.pl125 (aI @Ty.sz125 (aI @Ty.un125 (aI @Ty.unn125 (@Ty.zr125)))))))))))))))))))))))))))))))))))))))))))))))))))))))))))))))))))))))))))))))))
theorem t108 : type_of% tkd108 := tkd108
def tkd109 := (aI @Ty.ag2 (aI @Ty.by2 (aI @Ty.if2 (aI @Ty.in2 (aI @Ty.sz2 (aI @Ty.un2 (aI @Ty.unn2 (aI @Ty.zr2 (aI @Ty.ag3 (aI @Ty.by3 (aI @Ty.if3 (aI @Ty.in3 (aI @Ty.sz3 (aI @Ty.un3 (aI @Ty.unn3 (aI @Ty.zr3 (aI @Ty.ag4 (aI @Ty.bo4 (aI @Ty.by4 (aI @Ty.if4 (aI @Ty.sz4 (aI @Ty.un4 (aI @Ty.unn4 (aI @Ty.zr4 (aI @Ty.ag24 (aI @Ty.by24 (aI @Ty.fo24_0 (aI @Ty.fo24_1 (aI @Ty.fo24_2 (aI @Ty.fo24_3 (aI @Ty.fo24_4 (aI @Ty.ft24_0 (aI @Ty.ft24_1 (aI @Ty.ft24_2 (aI @Ty.ft24_3 (aI @Ty.ft24_4 (aI @Ty.if24 (aI @Ty.pl24 (aI @Ty.sz24 (aI @Ty.un24 (aI @Ty.unn24 (@Ty.zr24))))))))))))))))))))))))))))))))))))))))))
theorem t109 : type_of% tkd109 := tkd109
def tkd110 := (aI @Ty.ag3 (aI @Ty.by3 (aI @Ty.if3 (aI @Ty.in3 (aI @Ty.sz3 (aI @Ty.un3 (aI @Ty.unn3 (aI @Ty.zr3 (aI @Ty.ag27 (aI @Ty.by27 (aI @Ty.el27 (aI @Ty.if27 (aI @Ty.ni27 (aI @Ty.sz27 (aI @Ty.un27 (aI @Ty.unn27 (aI @Ty.zr27 (aI @Ty.ag156 (aI @Ty.by156 (aI @Ty.if156 (aI @Ty.sz156 (aI @Ty.un156 (aI @Ty.unn156 (@Ty.zr156))))))))))))))))))))))))
theorem t110 : type_of% tkd110 := tkd110
def tkd121 := (aI @Ty.ag3 (aI @Ty.by3 (aI @Ty.if3 (aI @Ty.in3 (aI @Ty.sz3 (aI @Ty.un3 (aI @Ty.unn3 (aI @Ty.zr3 (aI @Ty.ag5 (aI @Ty.by5 (aI @Ty.if5 (aI @Ty.in5 (aI @Ty.sz5 (aI @Ty.un5 (aI @Ty.unn5 (aI @Ty.zr5 (aI @Ty.ag104 (aI @Ty.by104 (aI @Ty.if104 (aI @Ty.in104 (aI @Ty.sz104 (aI @Ty.un104 (aI @Ty.unn104 (aI @Ty.zr104 (aI @Ty.ag176 (aI @Ty.by176 (aI @Ty.if176 (aI @Ty.in176 (aI @Ty.sz176 (aI @Ty.un176 (aI @Ty.unn176 (aI @Ty.zr176 (aI @Ty.ag180 (aI @Ty.by180 (aI @Ty.if180 (aI @Ty.sz180 (aI @Ty.un180 (@Ty.unn180))))))))))))))))))))))))))))))))))))))
theorem t121 : type_of% tkd121 := tkd121
def tkd122 := (aI @Ty.ag3 (aI @Ty.by3 (aI @Ty.if3 (aI @Ty.in3 (aI @Ty.sz3 (aI @Ty.un3 (aI @Ty.unn3 (@Ty.zr3))))))))
theorem t122 : type_of% tkd122 := tkd122
def tkd123 := (aI @Ty.ag3 (aI @Ty.by3 (aI @Ty.if3 (aI @Ty.in3 (aI @Ty.sz3 (aI @Ty.un3 (aI @Ty.unn3 (aI @Ty.zr3 (aI @Ty.ag27 (aI @Ty.by27 (aI @Ty.el27 (aI @Ty.if27 (aI @Ty.ni27 (aI @Ty.sz27 (aI @Ty.un27 (aI @Ty.unn27 (@Ty.zr27)))))))))))))))))
theorem t123 : type_of% tkd123 := tkd123
end Tk
end Go.Proofs.YtchpcjmgifnmdaaDoor

/- Chapter 42's values as plain data; what its functions compute, plainly. -/
namespace Go.Proofs.YtchpcjmgifnmdaaDoor
open Go Go.Proofs.YtchpcjmgifnmdaaDoor.Ab
set_option linter.unusedSectionVars false

/-! the first index at which something is so -/
def firstIx (n : Nat) (p : Nat → Bool) : Option Nat := (List.range n).find? p
theorem firstIx_some {n i : Nat} {p : Nat → Bool} (hi : i < n) (hp : p i = true) (h : ∀ j, j < i → p j = false) : firstIx n p = some i := by
  unfold firstIx
  rw [List.find?_range_eq_some]
  exact ⟨hp, by simpa using hi, fun j hj => by simp [h j hj]⟩
theorem firstIx_none {n : Nat} {p : Nat → Bool} (h : ∀ j, j < n → p j = false) : firstIx n p = none := by
  unfold firstIx
  rw [List.find?_range_eq_none]
  intro j hj; simp [h j hj]
theorem firstIx_none_iff {n : Nat} {p : Nat → Bool} : firstIx n p = none ↔ ∀ j, j < n → p j = false := by
  refine ⟨fun h j hj => ?_, firstIx_none⟩
  unfold firstIx at h
  rw [List.find?_range_eq_none] at h
  simpa using h j hj

/-! values -/
def iv (n : Int) : AV := .v (.int .i64 n)
def bv (b : Bool) : AV := .v (.bool b)
def uv (n : Nat) : AV := .v (.int .u64 n)
def ints (l : List Int) : AV := .lst 1 (l.map fun x => [.v (.int .i64 x)]) .unk
def within (n lo hi : Int) : Bool := decide (lo ≤ n) && decide (n ≤ hi)
theorem within_iff {n lo hi : Int} : within n lo hi = true ↔ lo ≤ n ∧ n ≤ hi := by simp [within]
structure Mv where
  fr : Int
  kd : Int
  lb : Int
  to : Int
deriving Inhabited, DecidableEq
structure Re where
  st : Int
  s0 : Int
  inp : Int
  out : Int
  mv : List Mv
deriving Inhabited, DecidableEq
def mvR (m : Mv) : List AV := [.v (.int .i64 m.fr), .v (.int .i64 m.kd), .v (.int .i64 m.lb), .v (.int .i64 m.to)]
def mvV (m : Mv) : AV := .agg (mvR m)
def mvsV (l : List Mv) : AV := .lst 4 (l.map mvR) .unk
def reL (x : Re) : List AV := [.v (.int .i64 x.st), .v (.int .i64 x.s0), .v (.int .i64 x.inp), .v (.int .i64 x.out), mvsV x.mv]
def reV (x : Re) : AV := .agg (reL x)

theorem FZs.v1 (a : Value) : FZs [.v a] := FZs.cons (FZ.v _) FZs.nil
theorem FZs.v2 (a b : Value) : FZs [.v a, .v b] := FZs.cons (FZ.v _) (FZs.v1 _)
theorem FZs.v3 (a b c : Value) : FZs [.v a, .v b, .v c] := FZs.cons (FZ.v _) (FZs.v2 _ _)
theorem FZs.v4 (a b c d : Value) : FZs [.v a, .v b, .v c, .v d] := FZs.cons (FZ.v _) (FZs.v3 _ _ _)
theorem FZs.one {a : AV} (h : FZ a) : FZs [a] := FZs.cons h FZs.nil
theorem FZs.two {a b : AV} (h : FZ a) (h' : FZ b) : FZs [a, b] := FZs.cons h (FZs.one h')
theorem FZs.three {a b c : AV} (h : FZ a) (h' : FZ b) (h'' : FZ c) : FZs [a, b, c] := FZs.cons h (FZs.two h' h'')
theorem FZ.ints (l : List Int) : FZ (ints l) := FZ.lst rfl fun r hr => by
  obtain ⟨x, _, rfl⟩ := List.mem_map.mp hr
  exact FZs.v1 _
theorem FZs.mvR (m : Mv) : FZs (mvR m) := FZs.v4 _ _ _ _
theorem FZ.mvV (m : Mv) : FZ (mvV m) := FZ.agg (FZs.mvR m)
theorem FZ.mvsV (l : List Mv) : FZ (mvsV l) := FZ.lst rfl fun r hr => by
  obtain ⟨x, _, rfl⟩ := List.mem_map.mp hr
  exact FZs.mvR _
theorem FZs.reL (x : Re) : FZs (reL x) := FZs.cons (FZ.v _) (FZs.cons (FZ.v _) (FZs.cons (FZ.v _) (FZs.cons (FZ.v _) (FZs.one (FZ.mvsV _)))))
theorem FZ.reV (x : Re) : FZ (reV x) := FZ.agg (FZs.reL x)

theorem fin_v {x y : Value} {H' : AH} (h : x = y) : ∃ v v', AOut.ret (.v x) = .ret v ∧ View H' v v' ∧ FZ v' ∧ v' = .v y := by
  subst h; exact ⟨_, _, rfl, (FZ.v x).view, FZ.v x, rfl⟩
theorem fin_t2 {x y x' y' : Value} {H' : AH} (h : x = x') (h' : y = y') : ∃ v v', AOut.ret (.tup [.v x, .v y]) = .ret v ∧ View H' v v' ∧ FZ v' ∧ v' = .tup [.v x', .v y'] := by
  subst h; subst h'
  have : FZ (.tup [.v x, .v y]) := FZ.tup (FZs.v2 _ _)
  exact ⟨_, _, rfl, this.view, this, rfl⟩
theorem fin_p {x y : Int} {p : Int × Int} {H' : AH} (h : p = (x, y)) : ∃ v v', AOut.ret (.tup [.v (.int .i64 x), .v (.int .i64 y)]) = .ret v ∧ View H' v v' ∧ FZ v' ∧ v' = .tup [.v (.int .i64 p.1), .v (.int .i64 p.2)] := by
  subst h; exact fin_t2 rfl rfl
theorem getD_ints (l : List Int) (i : Nat) (h : i < l.length) : (l.map fun x => [AV.v (.int .i64 x)]).getD i [] = [.v (.int .i64 (l.getD i 0))] := by
  rw [List.getD_eq_getElem?_getD, List.getElem?_map, List.getElem?_eq_getElem h, List.getD_eq_getElem?_getD, List.getElem?_eq_getElem h]; rfl
theorem wrapS {i : Nat} (h : i < 2 ^ 62) : IntKind.i64.wrap ((i : Int) + 1) = ((i + 1 : Nat) : Int) := by
  simp [IntKind.wrap, IntKind.bits, IntKind.signed]
  omega
theorem wrapI {x : Int} (h : -(2 ^ 63) ≤ x) (h' : x < 2 ^ 63) : IntKind.i64.wrap x = x := by
  simp [IntKind.wrap, IntKind.bits, IntKind.signed]
  omega
theorem wrapU {x : Int} (h : 0 ≤ x) (h' : x < 2 ^ 64) : IntKind.u64.wrap x = x := by
  simp [IntKind.wrap, IntKind.bits, IntKind.signed]
  omega
theorem getD_map {α : Type} [Inhabited α] (f : α → List AV) (l : List α) (i : Nat) (h : i < l.length) : (l.map f).getD i [] = f (l.getD i default) := by
  rw [List.getD_eq_getElem?_getD, List.getElem?_map, List.getElem?_eq_getElem h, List.getD_eq_getElem?_getD, List.getElem?_eq_getElem h]; rfl
theorem orU {a b : Nat} (h : a < 1024) (h' : b < 1024) : IntKind.u64.wrap ((BitVec.ofInt IntKind.u64.bits (a : Int) ||| BitVec.ofInt IntKind.u64.bits (b : Int)).toNat : Int) = ((a ||| b : Nat) : Int) := by
  have h1 : (a ||| b) < 2 ^ 10 := Nat.or_lt_two_pow h h'
  have e : (BitVec.ofInt IntKind.u64.bits (a : Int) ||| BitVec.ofInt IntKind.u64.bits (b : Int)).toNat = a ||| b := by
    show (BitVec.ofInt 64 (a : Int) ||| BitVec.ofInt 64 (b : Int)).toNat = _
    rw [BitVec.toNat_or, BitVec.ofInt_natCast, BitVec.ofInt_natCast, BitVec.toNat_ofNat, BitVec.toNat_ofNat, Nat.mod_eq_of_lt (by omega), Nat.mod_eq_of_lt (by omega)]
  rw [e, wrapU (by omega) (by omega)]
theorem andU {a b : Nat} (h : a < 1024) (h' : b < 1024) : IntKind.u64.wrap ((BitVec.ofInt IntKind.u64.bits (a : Int) &&& BitVec.ofInt IntKind.u64.bits (b : Int)).toNat : Int) = ((a &&& b : Nat) : Int) := by
  have h1 : (a &&& b) < 2 ^ 10 := Nat.and_lt_two_pow _ h'
  have e : (BitVec.ofInt IntKind.u64.bits (a : Int) &&& BitVec.ofInt IntKind.u64.bits (b : Int)).toNat = a &&& b := by
    show (BitVec.ofInt 64 (a : Int) &&& BitVec.ofInt 64 (b : Int)).toNat = _
    rw [BitVec.toNat_and, BitVec.ofInt_natCast, BitVec.ofInt_natCast, BitVec.toNat_ofNat, BitVec.toNat_ofNat, Nat.mod_eq_of_lt (by omega), Nat.mod_eq_of_lt (by omega)]
  rw [e, wrapU (by omega) (by omega)]
theorem shlU {n : Nat} (h : n < 10) : IntKind.u64.wrap (1 * 2 ^ (min ((n : Int)).toNat IntKind.u64.bits)) = ((2 ^ n : Nat) : Int) := by
  have : min ((n : Int)).toNat IntKind.u64.bits = n := by
    show min ((n : Int)).toNat 64 = n
    simp; omega
  rw [this, Int.one_mul]
  have h2 : 2 ^ n < 2 ^ 10 := Nat.pow_lt_pow_right (by omega) h
  rw [show ((2 : Int) ^ n) = ((2 ^ n : Nat) : Int) from by simp]
  generalize 2 ^ n = k at h2
  rw [wrapU (by omega) (by omega)]

/-! systems: right ones -/
def cmpI (a b : Int) : Int := if a < b then -1 else if b < a then 1 else 0
def orI (a b : Int) : Int := if a ≠ 0 then a else b
def cmpMv (a b : Mv) : Int := orI (cmpI a.fr b.fr) (orI (cmpI a.kd b.kd) (orI (cmpI a.lb b.lb) (cmpI a.to b.to)))
/-- what is wrong with a move: a kind, a range, the order, or nothing -/
def labels (x : Re) (m : Mv) : Int := if m.kd = 0 then x.inp else if m.kd = 1 then x.out else 1
def mvErr (x : Re) (i : Nat) : Int :=
  let m := x.mv.getD i default
  if !within m.kd 0 2 then 4 else
  if !within m.fr 0 (IntKind.i64.wrap (x.st - 1)) || !within m.to 0 (IntKind.i64.wrap (x.st - 1)) || !within m.lb 0 (IntKind.i64.wrap (labels x m - 1)) then 3 else
  if decide (0 < i) && decide (0 ≤ cmpMv (x.mv.getD (i - 1) default) m) then 14 else 0
def headErr (x : Re) : Bool := !within x.st 1 10 || !within x.s0 0 (IntKind.i64.wrap (x.st - 1)) || !within x.inp 0 4 || !within x.out 0 4
def checkR (x : Re) : Int × Int :=
  if headErr x then (0, 3) else
  if 80 < x.mv.length then (0, 2) else
  match firstIx x.mv.length (fun i => mvErr x i != 0) with
  | some i => (i, mvErr x i)
  | none => (0, 0)
def errR (x : Re) : Int := (checkR x).2

structure MvOk (x : Re) (m : Mv) : Prop where
  kd : m.kd = 0 ∨ m.kd = 1 ∨ m.kd = 2
  fr : 0 ≤ m.fr ∧ m.fr < x.st
  to : 0 ≤ m.to ∧ m.to < x.st
  lb : 0 ≤ m.lb ∧ m.lb < labels x m
structure Ok (x : Re) : Prop where
  st : 1 ≤ x.st ∧ x.st ≤ 10
  s0 : 0 ≤ x.s0 ∧ x.s0 < x.st
  inp : 0 ≤ x.inp ∧ x.inp ≤ 4
  out : 0 ≤ x.out ∧ x.out ≤ 4
  len : x.mv.length ≤ 80
  mv : ∀ m ∈ x.mv, MvOk x m
theorem getD_mem {α : Type} [Inhabited α] {l : List α} {i : Nat} (h : i < l.length) : l.getD i default ∈ l := by
  rw [List.getD_eq_getElem?_getD, List.getElem?_eq_getElem h]; exact List.getElem_mem h
theorem mem_getD {α : Type} [Inhabited α] {l : List α} {x : α} (h : x ∈ l) : ∃ i, i < l.length ∧ x = l.getD i default := by
  obtain ⟨i, hi, rfl⟩ := List.getElem_of_mem h
  exact ⟨i, hi, by rw [List.getD_eq_getElem?_getD, List.getElem?_eq_getElem hi]; rfl⟩
theorem ok_of_check {x : Re} (h : errR x = 0) : Ok x := by
  unfold errR checkR at h
  by_cases h1 : headErr x = true
  · rw [if_pos h1] at h; simp at h
  rw [if_neg h1] at h
  by_cases h2 : 80 < x.mv.length
  · rw [if_pos h2] at h; simp at h
  rw [if_neg h2] at h
  cases h3 : firstIx x.mv.length (fun i => mvErr x i != 0) with
  | some i =>
    rw [h3] at h
    have := List.find?_some h3
    simp only [bne_iff_ne, ne_eq] at this
    exact absurd h this
  | none =>
    rw [firstIx_none_iff] at h3
    simp only [headErr, within, Bool.or_eq_true, Bool.not_eq_true', Bool.and_eq_false_iff, decide_eq_false_iff_not, not_or, Decidable.not_not] at h1
    obtain ⟨⟨⟨⟨a1, a2⟩, a3, a4⟩, a5, a6⟩, a7, a8⟩ := h1
    rw [wrapI (by omega) (by omega)] at a4
    refine ⟨⟨a1, a2⟩, ⟨a3, by omega⟩, ⟨a5, a6⟩, ⟨a7, a8⟩, by omega, fun m hm => ?_⟩
    obtain ⟨i, hi, rfl⟩ := mem_getD hm
    have h4 := h3 i hi
    simp only [bne_eq_false_iff_eq] at h4
    unfold mvErr at h4
    simp only at h4
    by_cases b1 : (!within (x.mv.getD i default).kd 0 2) = true
    · rw [if_pos b1] at h4; omega
    rw [if_neg b1] at h4
    have hk : (x.mv.getD i default).kd = 0 ∨ (x.mv.getD i default).kd = 1 ∨ (x.mv.getD i default).kd = 2 := by
      simp only [Bool.not_eq_true', Bool.not_eq_false, within_iff] at b1; omega
    by_cases b2 : (!within (x.mv.getD i default).fr 0 (IntKind.i64.wrap (x.st - 1)) || !within (x.mv.getD i default).to 0 (IntKind.i64.wrap (x.st - 1)) || !within (x.mv.getD i default).lb 0 (IntKind.i64.wrap (labels x (x.mv.getD i default) - 1))) = true
    · rw [if_pos b2] at h4; omega
    have hl : 0 ≤ labels x (x.mv.getD i default) ∧ labels x (x.mv.getD i default) ≤ 4 := by
      unfold labels
      split
      · exact ⟨a5, a6⟩
      · split
        · exact ⟨a7, a8⟩
        · omega
    rw [wrapI (x := x.st - 1) (by omega) (by omega), wrapI (by omega) (by omega)] at b2
    simp only [Bool.or_eq_true, Bool.not_eq_true', not_or, Bool.not_eq_false, within_iff] at b2
    exact ⟨hk, by omega, by omega, by omega⟩

/-! sets of states, as numbers -/
def bitsN (l : Nat) : List Nat := (List.range 10).filter l.testBit
def bitsI (l : Nat) : List Int := (bitsN l).map fun a : Nat => (a : Int)
def setV (l : Nat) : AV := ints (bitsI l)
theorem bitsN_mem {l a : Nat} (h : l < 1024) : a ∈ bitsN l ↔ l.testBit a = true := by
  unfold bitsN
  rw [List.mem_filter, List.mem_range]
  refine ⟨fun h => h.2, fun h' => ⟨?_, h'⟩⟩
  apply Decidable.byContradiction
  intro hn
  have h2 : 2 ^ 10 ≤ 2 ^ a := Nat.pow_le_pow_right (by omega) (by omega)
  rw [Nat.testBit_lt_two_pow (by omega)] at h'
  cases h'
theorem bitsN_lt {l a : Nat} (h : a ∈ bitsN l) : a < 10 := by
  unfold bitsN at h
  rw [List.mem_filter, List.mem_range] at h
  exact h.1
theorem bitsN_bit {l a : Nat} (h : a ∈ bitsN l) : l.testBit a = true := by
  unfold bitsN at h
  exact (List.mem_filter.mp h).2
/-- the lowest one, and the rest -/
def low (l : Nat) : Nat := (bitsN l).headD 0
theorem bits_step : ∀ l, l < 1024 → l ≠ 0 → bitsN l = low l :: bitsN (l &&& (l - 1)) ∧ (l &&& (l - 1)) < l := by decide +kernel
theorem testBit_foldor {α : Type} (p : α → Bool) (f : α → Nat) (b : Nat) : ∀ (l : List α) (z : Nat), (l.foldl (fun acc x => if p x then acc ||| f x else acc) z).testBit b = (z.testBit b || l.any fun x => p x && (f x).testBit b)
  | [], z => by simp
  | x :: l, z => by
    rw [List.foldl_cons, testBit_foldor p f b l, List.any_cons]
    cases p x <;> simp [Bool.or_assoc]
theorem foldor_lt {α : Type} {n : Nat} (p : α → Bool) (f : α → Nat) : ∀ (l : List α) (z : Nat), z < 2 ^ n → (∀ x ∈ l, p x = true → f x < 2 ^ n) → (l.foldl (fun acc x => if p x then acc ||| f x else acc) z) < 2 ^ n
  | [], z, h, _ => h
  | x :: l, z, h, hf => by
    rw [List.foldl_cons]
    refine foldor_lt p f l _ ?_ fun y hy => hf y (by simp [hy])
    cases hp : p x
    · exact h
    · exact Nat.or_lt_two_pow h (hf x (by simp) hp)
def maskL (l : List Int) : Nat := l.foldl (fun acc a => if true then acc ||| 2 ^ a.toNat else acc) 0
theorem maskL_bit {l : List Int} {b : Nat} (h : ∀ a ∈ l, 0 ≤ a) : (maskL l).testBit b = true ↔ (b : Int) ∈ l := by
  unfold maskL
  rw [testBit_foldor (fun _ => true)]
  simp only [Nat.zero_testBit, Bool.false_or, Bool.true_and, List.any_eq_true, Nat.testBit_two_pow, decide_eq_true_eq]
  constructor
  · rintro ⟨a, ha, rfl⟩
    have := h a ha
    rwa [Int.toNat_of_nonneg this]
  · intro hb
    exact ⟨_, hb, by simp⟩
theorem maskL_lt {l : List Int} {n : Nat} (h : ∀ a ∈ l, 0 ≤ a ∧ a < n) : maskL l < 2 ^ n := by
  unfold maskL
  refine foldor_lt (fun _ => true) _ _ _ (Nat.pow_pos (by omega)) fun a ha _ => Nat.pow_lt_pow_right (by omega) ?_
  have := h a ha
  omega
theorem bit_ext {a b : Nat} (h : ∀ i, a.testBit i = true ↔ b.testBit i = true) : a = b := Nat.eq_of_testBit_eq fun i => by
  have := h i
  cases h1 : a.testBit i <;> cases h2 : b.testBit i <;> simp_all
/-! what a system does -/
def silP (l : List Mv) (a : Nat) : Nat := l.foldl (fun (acc : Nat) (m : Mv) => if decide (m.kd = 2) && decide (m.fr = a) then acc ||| 2 ^ m.to.toNat else acc) 0
def evM (x : Re) (m : Mv) : Int := if m.kd = 0 then m.lb else x.inp + m.lb
def byP (x : Re) (l : List Mv) (a e : Nat) : Nat := l.foldl (fun (acc : Nat) (m : Mv) => if decide (m.kd ≠ 2) && decide (m.fr = a) && decide (evM x m = e) then acc ||| 2 ^ m.to.toNat else acc) 0
def silM (x : Re) (a : Nat) : Nat := silP x.mv a
def byM (x : Re) (a e : Nat) : Nat := byP x x.mv a e
def silc (x : Re) : Nat := (x.inp + x.out).toNat
def stepM (x : Re) (l : Nat) : Nat := (bitsN l).foldl (fun acc a => if true then acc ||| silM x a else acc) l
def clF (x : Re) : Nat → Nat → Nat
  | 0, l => l
  | k + 1, l => if stepM x l = l then l else clF x k (stepM x l)
def cl (x : Re) (l : Nat) : Nat := clF x 1024 l
def quietM (x : Re) (a : Nat) : Bool := (List.range x.out.toNat).all (fun o => byM x a (x.inp.toNat + o) == 0) && silM x a == 0
def rawA (x : Re) (l e : Nat) : Nat := (bitsN l).foldl (fun acc a => if decide (e < silc x) || quietM x a then acc ||| (if e < silc x then byM x a e else 2 ^ a) else acc) 0
def aft (x : Re) (l e : Nat) : Nat := cl x (rawA x l e)
def fstM (x : Re) : Nat := cl x (2 ^ x.s0.toNat)
def shw (x : Re) (l e : Nat) : Bool := decide (x.inp.toNat ≤ e) && aft x l e != 0
def alongM (x : Re) (tr : List Int) : Nat := tr.foldl (fun l e => aft x l e.toNat) (fstM x)

theorem silM_bit {x : Re} {a b : Nat} : (silM x a).testBit b = true ↔ ∃ m ∈ x.mv, m.kd = 2 ∧ m.fr = a ∧ m.to.toNat = b := by
  unfold silM silP
  rw [testBit_foldor]
  simp [Nat.testBit_two_pow, and_assoc]
theorem byM_bit {x : Re} {a e b : Nat} : (byM x a e).testBit b = true ↔ ∃ m ∈ x.mv, m.kd ≠ 2 ∧ m.fr = a ∧ evM x m = e ∧ m.to.toNat = b := by
  unfold byM byP
  rw [testBit_foldor]
  simp [Nat.testBit_two_pow, and_assoc]
theorem stepM_bit {x : Re} {l b : Nat} : (stepM x l).testBit b = true ↔ l.testBit b = true ∨ ∃ a ∈ bitsN l, (silM x a).testBit b = true := by
  unfold stepM
  rw [testBit_foldor (fun _ => true)]
  simp
def nst (x : Re) : Nat := x.st.toNat
section
variable {x : Re} (hx : Ok x)
include hx
theorem Ok.n : nst x ≤ 10 ∧ 1 ≤ nst x := by have := hx.st; unfold nst; omega
theorem Ok.pw {l : Nat} (h : l < 2 ^ nst x) : l < 1024 := Nat.lt_of_lt_of_le h (Nat.pow_le_pow_right (by omega) hx.n.1)
theorem silP_lt {l : List Mv} (hl : ∀ m ∈ l, m ∈ x.mv) (a : Nat) : silP l a < 2 ^ nst x := by
  refine foldor_lt _ _ _ _ (Nat.pow_pos (by omega)) fun m hm _ => Nat.pow_lt_pow_right (by omega) ?_
  have := (hx.mv m (hl m hm)).to
  unfold nst; omega
theorem byP_lt {l : List Mv} (hl : ∀ m ∈ l, m ∈ x.mv) (a e : Nat) : byP x l a e < 2 ^ nst x := by
  refine foldor_lt _ _ _ _ (Nat.pow_pos (by omega)) fun m hm _ => Nat.pow_lt_pow_right (by omega) ?_
  have := (hx.mv m (hl m hm)).to
  unfold nst; omega
theorem silM_lt (a : Nat) : silM x a < 2 ^ nst x := silP_lt hx (fun _ h => h) a
theorem byM_lt (a e : Nat) : byM x a e < 2 ^ nst x := byP_lt hx (fun _ h => h) a e
theorem stepM_lt {l : Nat} (h : l < 2 ^ nst x) : stepM x l < 2 ^ nst x := foldor_lt (fun _ => true) _ _ _ h fun a _ _ => silM_lt hx a
theorem bits_n {l a : Nat} (h : l < 2 ^ nst x) (ha : l.testBit a = true) : a < nst x := by
  apply Decidable.byContradiction
  intro hn
  have h2 : 2 ^ nst x ≤ 2 ^ a := Nat.pow_le_pow_right (by omega) (by omega)
  rw [Nat.testBit_lt_two_pow (by omega)] at ha
  cases ha
omit hx in
theorem stepM_ge (l : Nat) : l ≤ stepM x l := by
  have : stepM x l = l ||| stepM x l := by
    apply bit_ext
    intro i
    rw [Nat.testBit_or, stepM_bit]
    simp only [Bool.or_eq_true, stepM_bit]
    constructor
    · intro h; exact .inr h
    · rintro (h | h)
      · exact .inl h
      · exact h
  rw [this]; exact Nat.left_le_or
theorem clF_fix : ∀ (k l : Nat), l < 2 ^ nst x → 1024 - l ≤ k → stepM x (clF x k l) = clF x k l ∧ clF x k l < 2 ^ nst x
  | 0, l, h, hk => by have := hx.pw h; omega
  | k + 1, l, h, hk => by
    unfold clF
    split
    · rename_i he; exact ⟨he, h⟩
    · rename_i he
      have := stepM_ge (x := x) l
      exact clF_fix k _ (stepM_lt hx h) (by omega)
theorem cl_fix {l : Nat} (h : l < 2 ^ nst x) : stepM x (cl x l) = cl x l := (clF_fix hx 1024 l h (by omega)).1
theorem cl_lt {l : Nat} (h : l < 2 ^ nst x) : cl x l < 2 ^ nst x := (clF_fix hx 1024 l h (by omega)).2
omit hx in
theorem clF_of_fix {k l : Nat} (h : stepM x l = l) : clF x k l = l := by
  cases k with
  | zero => rfl
  | succ k => unfold clF; rw [if_pos h]
end
inductive Rch (x : Re) (a : Nat) : Nat → Prop
  | refl : Rch x a a
  | step {b c : Nat} : Rch x a b → (silM x b).testBit c = true → Rch x a c
theorem Rch.trans {x : Re} {a b c : Nat} (h : Rch x a b) (h' : Rch x b c) : Rch x a c := by
  induction h' with
  | refl => exact h
  | step _ hs ih => exact .step ih hs
theorem clF_sub {x : Re} {b : Nat} : ∀ (k l : Nat), (clF x k l).testBit b = true → ∃ a, l.testBit a = true ∧ Rch x a b
  | 0, l, h => ⟨b, h, .refl⟩
  | k + 1, l, h => by
    unfold clF at h
    split at h
    · exact ⟨b, h, .refl⟩
    · obtain ⟨a, ha, hr⟩ := clF_sub k _ h
      rcases stepM_bit.mp ha with ha | ⟨c, hc, hs⟩
      · exact ⟨a, ha, hr⟩
      · exact ⟨c, bitsN_bit hc, Rch.trans (.step .refl hs) hr⟩
theorem clF_sup {x : Re} {b : Nat} : ∀ (k l : Nat), l.testBit b = true → (clF x k l).testBit b = true
  | 0, l, h => h
  | k + 1, l, h => by
    unfold clF
    split
    · exact h
    · exact clF_sup k _ (stepM_bit.mpr (.inl h))
theorem fix_rch {x : Re} (hx : Ok x) {l a b : Nat} (hl : l < 2 ^ nst x) (hf : stepM x l = l) (ha : l.testBit a = true) (h : Rch x a b) : l.testBit b = true := by
  induction h with
  | refl => exact ha
  | @step b c _ hs ih =>
    rw [← hf]
    exact stepM_bit.mpr (.inr ⟨b, (bitsN_mem (hx.pw hl)).mpr ih, hs⟩)
theorem cl_bit {x : Re} (hx : Ok x) {l b : Nat} (hl : l < 2 ^ nst x) : (cl x l).testBit b = true ↔ ∃ a, l.testBit a = true ∧ Rch x a b :=
  ⟨clF_sub _ _, fun ⟨_, ha, hr⟩ => fix_rch hx (cl_lt hx hl) (cl_fix hx hl) (clF_sup _ _ ha) hr⟩
theorem rawA_lt {x : Re} (hx : Ok x) {l : Nat} (hl : l < 2 ^ nst x) (e : Nat) : rawA x l e < 2 ^ nst x := by
  unfold rawA
  refine foldor_lt _ _ _ _ (Nat.pow_pos (by omega)) fun a ha _ => ?_
  split
  · exact byM_lt hx a e
  · exact Nat.pow_lt_pow_right (by omega) (bits_n hx hl (bitsN_bit ha))
theorem aft_lt {x : Re} (hx : Ok x) {l : Nat} (hl : l < 2 ^ nst x) (e : Nat) : aft x l e < 2 ^ nst x := cl_lt hx (rawA_lt hx hl e)
theorem fst_lt {x : Re} (hx : Ok x) : fstM x < 2 ^ nst x := cl_lt hx (Nat.pow_lt_pow_right (by omega) (by have := hx.s0; unfold nst; omega))
theorem rawA_bit {x : Re} (hx : Ok x) {l e b : Nat} (hl : l < 2 ^ nst x) (he : e ≤ silc x) : (rawA x l e).testBit b = true ↔ (e = silc x ∧ quietM x b = true ∧ l.testBit b = true) ∨ ∃ m ∈ x.mv, m.kd ≠ 2 ∧ l.testBit m.fr.toNat = true ∧ evM x m = e ∧ m.to.toNat = b := by
  unfold rawA
  rw [testBit_foldor]
  simp only [Nat.zero_testBit, Bool.false_or, List.any_eq_true, Bool.and_eq_true, Bool.or_eq_true, decide_eq_true_eq]
  have hev : ∀ m ∈ x.mv, m.kd ≠ 2 → evM x m < silc x := by
    intro m hm hk
    have h := hx.mv m hm
    have hlb := h.lb
    have := hx.inp; have := hx.out
    unfold labels at hlb
    unfold evM silc
    rcases h.kd with h | h | h
    · rw [if_pos h] at hlb ⊢; omega
    · rw [if_neg (by omega), if_pos h] at hlb
      rw [if_neg (by omega)]; omega
    · exact absurd h hk
  constructor
  · rintro ⟨a, ha, hc, hb⟩
    split at hb
    · obtain ⟨m, hm, h1, h2, h3, h4⟩ := byM_bit.mp hb
      exact .inr ⟨m, hm, h1, by rw [h2]; simpa using bitsN_bit ha, h3, h4⟩
    · rename_i hn
      rw [Nat.testBit_two_pow, decide_eq_true_eq] at hb
      subst hb
      refine .inl ⟨by omega, ?_, bitsN_bit ha⟩
      rcases hc with hc | hc
      · exact absurd hc hn
      · exact hc
  · rintro (⟨rfl, hq, hb⟩ | ⟨m, hm, hk, hb, h3, h4⟩)
    · exact ⟨b, (bitsN_mem (hx.pw hl)).mpr hb, .inr hq, by rw [if_neg (by omega), Nat.testBit_two_pow]; simp⟩
    · have := hev m hm hk
      have hlt : e < silc x := by omega
      refine ⟨m.fr.toNat, (bitsN_mem (hx.pw hl)).mpr hb, .inl hlt, ?_⟩
      rw [if_pos hlt]
      exact byM_bit.mpr ⟨m, hm, hk, by have := (hx.mv m hm).fr; omega, h3, h4⟩
end Go.Proofs.YtchpcjmgifnmdaaDoor

/- The search for a failing trace, plainly. -/
namespace Go.Proofs.YtchpcjmgifnmdaaDoor
open Go Go.Proofs.YtchpcjmgifnmdaaDoor.Ab

theorem nodup_lt : ∀ (n : Nat) (l : List Nat), l.Nodup → (∀ x ∈ l, x < n) → l.length ≤ n
  | 0, l, _, h => by
    cases l with
    | nil => exact Nat.le_refl _
    | cons x l => have := h x (by simp); omega
  | n + 1, l, hn, h => by
    by_cases hm : n ∈ l
    · have h1 := List.length_erase_of_mem hm
      have h2 := nodup_lt n (l.erase n) (hn.erase _) fun x hx => by
        have h3 := (hn.mem_erase_iff).mp hx
        have := h x h3.2
        have := h3.1
        omega
      have : 0 < l.length := List.length_pos_of_mem hm
      omega
    · have := nodup_lt n l hn fun x hx => by
        have h1 := h x hx
        have : x ≠ n := fun e => hm (e ▸ hx)
        omega
      omega

structure Nd where
  x : Nat
  y : Nat
  tr : List Int
deriving Inhabited, DecidableEq
def metN (l : List Nd) (a b : Nat) : Bool := l.any fun p => decide (p.x = a) && decide (p.y = b)
def addN (l : List Nd) (p : Nd) : List Nd := if metN l p.x p.y then l else l ++ [p]
def extE (x y : Re) (p : Nd) (l : List Nd) (e : Nat) : List Nd := if aft y p.y e = 0 then l else addN l ⟨aft x p.x e, aft y p.y e, p.tr ++ [(e : Int)]⟩
def extN (x y : Re) (p : Nd) (l : List Nd) (k : Nat) : List Nd := (List.range k).foldl (extE x y p) l
def failsAt (x y : Re) (a b e : Nat) : Bool := shw x a e && !shw y b e
def failsN (x y : Re) (a b : Nat) : Option Nat := firstIx (silc x + 1) (failsAt x y a b)
def srch (x y : Re) : Nat → List Nd → Nat → Option (Option (List Int) × List Nd)
  | 0, _, _ => none
  | k + 1, l, i => if i < l.length then
      match failsN x y (l.getD i default).x (l.getD i default).y with
      | some e => some (some ((l.getD i default).tr ++ [(e : Int)]), l)
      | none => srch x y k (extN x y (l.getD i default) l (silc x + 1)) (i + 1)
    else some (none, l)
def SrchR (x y : Re) (l : List Nd) (i : Nat) (r : Option (List Int) × List Nd) : Prop := ∃ k, srch x y k l i = some r
theorem srch_mono {x y : Re} {r : Option (List Int) × List Nd} : ∀ (k : Nat) (l : List Nd) (i : Nat) (j : Nat), srch x y k l i = some r → srch x y (k + j) l i = some r
  | 0, _, _, _, h => by cases h
  | k + 1, l, i, j, h => by
    rw [show k + 1 + j = (k + j) + 1 from by omega]
    unfold srch at h ⊢
    split
    · rename_i h1
      rw [if_pos h1] at h
      split
      · rename_i e he
        rw [he] at h; exact h
      · rename_i he
        rw [he] at h; exact srch_mono k _ _ j h
    · rename_i h1
      rw [if_neg h1] at h; exact h
theorem SrchR.det {x y : Re} {l : List Nd} {i : Nat} {r r' : Option (List Int) × List Nd} (h : SrchR x y l i r) (h' : SrchR x y l i r') : r = r' := by
  obtain ⟨k, hk⟩ := h
  obtain ⟨k', hk'⟩ := h'
  have h1 := srch_mono k l i k' hk
  have h2 := srch_mono k' l i k hk'
  rw [Nat.add_comm k' k] at h2
  rw [h1] at h2
  exact Option.some.inj h2
theorem SrchR.next {x y : Re} {l : List Nd} {i : Nat} {r : Option (List Int) × List Nd} (hi : i < l.length) (hf : failsN x y (l.getD i default).x (l.getD i default).y = none) (h : SrchR x y (extN x y (l.getD i default) l (silc x + 1)) (i + 1) r) : SrchR x y l i r := by
  obtain ⟨k, hk⟩ := h
  refine ⟨k + 1, ?_⟩
  rw [srch, if_pos hi, hf]; exact hk
theorem SrchR.fail {x y : Re} {l : List Nd} {i e : Nat} (hi : i < l.length) (hf : failsN x y (l.getD i default).x (l.getD i default).y = some e) : SrchR x y l i (some ((l.getD i default).tr ++ [(e : Int)]), l) :=
  ⟨1, by rw [srch, if_pos hi, hf]⟩
theorem SrchR.done {x y : Re} {l : List Nd} {i : Nat} (hi : ¬ i < l.length) : SrchR x y l i (none, l) := ⟨1, by rw [srch, if_neg hi]⟩

structure GoodN (x y : Re) (l : List Nd) : Prop where
  lt : ∀ p ∈ l, p.x < 2 ^ nst x ∧ p.y < 2 ^ nst y
  nd : (l.map fun p => p.x * 1024 + p.y).Nodup
theorem metN_iff {l : List Nd} {a b : Nat} : metN l a b = true ↔ ∃ p ∈ l, p.x = a ∧ p.y = b := by simp [metN]
theorem metN_mem {x y : Re} (hx : Ok x) (hy : Ok y) {l : List Nd} (h : ∀ p ∈ l, p.x < 2 ^ nst x ∧ p.y < 2 ^ nst y) {a b : Nat} (hb : b < 1024) : metN l a b = true ↔ a * 1024 + b ∈ l.map fun p => p.x * 1024 + p.y := by
  rw [metN_iff, List.mem_map]
  constructor
  · rintro ⟨p, hp, rfl, rfl⟩; exact ⟨p, hp, rfl⟩
  · rintro ⟨p, hp, he⟩
    have := hy.pw (h p hp).2
    exact ⟨p, hp, by omega, by omega⟩
theorem GoodN.len {x y : Re} (hx : Ok x) (hy : Ok y) {l : List Nd} (h : GoodN x y l) : l.length ≤ 1048576 := by
  have := nodup_lt 1048576 _ h.nd fun v hv => by
    obtain ⟨p, hp, rfl⟩ := List.mem_map.mp hv
    have h1 := hx.pw (h.lt p hp).1
    have h2 := hy.pw (h.lt p hp).2
    omega
  simpa using this
theorem GoodN.add {x y : Re} (hx : Ok x) (hy : Ok y) {l : List Nd} (h : GoodN x y l) {p : Nd} (h1 : p.x < 2 ^ nst x) (h2 : p.y < 2 ^ nst y) : GoodN x y (addN l p) := by
  unfold addN
  split
  · exact h
  · rename_i hm
    refine ⟨fun q hq => ?_, ?_⟩
    · rcases List.mem_append.mp hq with hq | hq
      · exact h.lt q hq
      · simp only [List.mem_singleton] at hq; subst hq; exact ⟨h1, h2⟩
    · rw [metN_mem hx hy h.lt (hy.pw h2)] at hm
      rw [List.map_append, List.map_cons, List.map_nil, List.nodup_append]
      refine ⟨h.nd, by simp, fun a ha b hb => ?_⟩
      simp only [List.mem_singleton] at hb
      subst hb
      intro e; subst e; exact hm ha
theorem GoodN.extE {x y : Re} (hx : Ok x) (hy : Ok y) {l : List Nd} (h : GoodN x y l) {p : Nd} (h1 : p.x < 2 ^ nst x) (h2 : p.y < 2 ^ nst y) (e : Nat) : GoodN x y (extE x y p l e) := by
  unfold Go.Proofs.YtchpcjmgifnmdaaDoor.extE
  split
  · exact h
  · exact h.add hx hy (aft_lt hx h1 e) (aft_lt hy h2 e)
theorem extN_succ (x y : Re) (p : Nd) (l : List Nd) (k : Nat) : extN x y p l (k + 1) = extE x y p (extN x y p l k) k := by
  unfold extN; rw [List.range_succ, List.foldl_append]; rfl
theorem GoodN.extN {x y : Re} (hx : Ok x) (hy : Ok y) {l : List Nd} (h : GoodN x y l) {p : Nd} (h1 : p.x < 2 ^ nst x) (h2 : p.y < 2 ^ nst y) : ∀ k, GoodN x y (extN x y p l k)
  | 0 => h
  | k + 1 => by rw [extN_succ]; exact (GoodN.extN hx hy h h1 h2 k).extE hx hy h1 h2 k
theorem extE_pre (x y : Re) (p : Nd) (l : List Nd) (e : Nat) : ∃ r, extE x y p l e = l ++ r := by
  unfold extE
  split
  · exact ⟨[], by simp⟩
  · unfold addN
    split
    · exact ⟨[], by simp⟩
    · exact ⟨_, rfl⟩
theorem extN_pre (x y : Re) (p : Nd) (l : List Nd) : ∀ k, ∃ r, extN x y p l k = l ++ r
  | 0 => ⟨[], by simp [extN]⟩
  | k + 1 => by
    obtain ⟨r, hr⟩ := extN_pre x y p l k
    obtain ⟨r', hr'⟩ := extE_pre x y p (extN x y p l k) k
    exact ⟨r ++ r', by rw [extN_succ, hr', hr, List.append_assoc]⟩
def nd0 (x y : Re) : Nd := ⟨fstM x, fstM y, []⟩
theorem good0 {x y : Re} (hx : Ok x) (hy : Ok y) : GoodN x y [nd0 x y] :=
  ⟨fun p hp => by simp only [List.mem_singleton] at hp; subst hp; exact ⟨fst_lt hx, fst_lt hy⟩, by simp⟩
/-- the answer of a search is there -/
theorem srch_ex {x y : Re} (hx : Ok x) (hy : Ok y) : ∀ (m : Nat) (l : List Nd) (i : Nat), GoodN x y l → 1048576 - i ≤ m → i ≤ l.length → ∃ r, SrchR x y l i r
  | m, l, i, h, hm, hi => by
    have hl := h.len hx hy
    by_cases hlt : i < l.length
    · cases hf : failsN x y (l.getD i default).x (l.getD i default).y with
      | some e => exact ⟨_, SrchR.fail hlt hf⟩
      | none =>
        have hp := h.lt _ (getD_mem hlt)
        have hg := h.extN hx hy hp.1 hp.2 (silc x + 1)
        obtain ⟨q, hq⟩ := extN_pre x y (l.getD i default) l (silc x + 1)
        have hlen : i + 1 ≤ (extN x y (l.getD i default) l (silc x + 1)).length := by rw [hq, List.length_append]; omega
        match m with
        | 0 => omega
        | m + 1 =>
          obtain ⟨r, hr⟩ := srch_ex hx hy m _ (i + 1) hg (by omega) hlen
          exact ⟨r, .next hlt hf hr⟩
    · exact ⟨_, .done hlt⟩
/-- how the pairs came, in the program's lists -/
structure Came (l : List Nd) (fr bys : List Int) : Prop where
  f : fr.length = l.length
  b : bys.length = l.length
  h0 : 0 < l.length
  z : fr.getD 0 0 = -1 ∧ (l.getD 0 default).tr = []
  s : ∀ k, 0 < k → k < l.length → ∃ j : Nat, fr.getD k 0 = (j : Int) ∧ j < k ∧ (l.getD k default).tr = (l.getD j default).tr ++ [bys.getD k 0]
theorem getD_append_left {α : Type} (l r : List α) (d : α) {i : Nat} (h : i < l.length) : (l ++ r).getD i d = l.getD i d := by
  rw [List.getD_eq_getElem?_getD, List.getElem?_append_left h, ← List.getD_eq_getElem?_getD]
theorem getD_append_len {α : Type} (l : List α) (x d : α) : (l ++ [x]).getD l.length d = x := by
  rw [List.getD_eq_getElem?_getD, List.getElem?_append_right (Nat.le_refl _)]; simp
theorem Came.push {l : List Nd} {fr bys : List Int} (h : Came l fr bys) {i : Nat} (hi : i < l.length) (a b : Nat) (e : Int) : Came (l ++ [⟨a, b, (l.getD i default).tr ++ [e]⟩]) (fr ++ [(i : Int)]) (bys ++ [e]) := by
  have h0 := h.h0
  refine ⟨by simp [h.f], by simp [h.b], by simp, ?_, fun k hk hkl => ?_⟩
  · rw [getD_append_left _ _ _ (by rw [h.f]; exact h0), getD_append_left _ _ _ h0]; exact h.z
  · simp only [List.length_append, List.length_singleton] at hkl
    by_cases hlt : k < l.length
    · obtain ⟨j, h1, h2, h3⟩ := h.s k hk hlt
      refine ⟨j, by rw [getD_append_left _ _ _ (by rw [h.f]; exact hlt)]; exact h1, h2, ?_⟩
      rw [getD_append_left _ _ _ hlt, getD_append_left _ _ _ (by omega), getD_append_left _ _ _ (by rw [h.b]; exact hlt)]; exact h3
    · have : k = l.length := by omega
      subst this
      refine ⟨i, ?_, hi, ?_⟩
      · rw [← h.f, getD_append_len]
      · rw [getD_append_len, getD_append_left _ _ _ hi, ← h.b, getD_append_len]
end Go.Proofs.YtchpcjmgifnmdaaDoor

/- Walks: sets of states as numbers. -/
namespace Go.Proofs.YtchpcjmgifnmdaaDoor
open Go Go.Proofs.YtchpcjmgifnmdaaDoor.Ab
set_option maxRecDepth 100000
set_option linter.unusedSimpArgs false

theorem room_of {by_ n : Nat} (h : n * by_ ≤ 140737488355328) (h' : n ≤ 140737488355328) : roomA by_ n = true := by simp [roomA, h, h']
def tzI (l : Nat) : Nat := (l &&& (18446744073709551616 - l)) * 285870213051353865 % 18446744073709551616 / 288230376151711744
theorem tz_tab : ∀ l, l < 1024 → l ≠ 0 → tzI l < 64 ∧ tab64.getD (tzI l) 0 = low l ∧ low l < 10 := by decide +kernel
theorem tz_eq (l : Nat) (hl : l < 1024) (h0 : l ≠ 0) : (IntKind.u64.wrap (IntKind.u64.wrap ((BitVec.ofInt IntKind.u64.bits (l : Int) &&& BitVec.ofInt IntKind.u64.bits (IntKind.u64.wrap (0 - (l : Int)))).toNat : Int) * 285870213051353865)).fdiv (2 ^ min (Int.toNat 58) IntKind.u64.bits) = ((tzI l : Nat) : Int) := by
  have h1 : IntKind.u64.wrap (0 - (l : Int)) = ((18446744073709551616 - l : Nat) : Int) := by
    simp [IntKind.wrap, IntKind.bits, IntKind.signed]; omega
  have h2 : (BitVec.ofInt IntKind.u64.bits (l : Int) &&& BitVec.ofInt IntKind.u64.bits (((18446744073709551616 - l : Nat) : Int))).toNat = l &&& (18446744073709551616 - l) := by
    show (BitVec.ofInt 64 (l : Int) &&& BitVec.ofInt 64 _).toNat = _
    rw [BitVec.toNat_and, BitVec.ofInt_natCast, BitVec.ofInt_natCast, BitVec.toNat_ofNat, BitVec.toNat_ofNat, Nat.mod_eq_of_lt (by omega), Nat.mod_eq_of_lt (by omega)]
  rw [h1, h2]
  have h3 : l &&& (18446744073709551616 - l) < 2 ^ 10 := Nat.lt_of_le_of_lt Nat.and_le_left hl
  unfold tzI
  generalize l &&& (18446744073709551616 - l) = k at h3 ⊢
  try rw [wrapU (x := ((k : Nat) : Int)) (by omega) (by omega)]
  have h4 : IntKind.u64.wrap ((k : Int) * 285870213051353865) = ((k * 285870213051353865 % 18446744073709551616 : Nat) : Int) := by
    simp [IntKind.wrap, IntKind.bits, IntKind.signed]
  rw [h4, show (min (Int.toNat 58) IntKind.u64.bits) = 58 from by decide, show ((2 : Int) ^ 58) = ((288230376151711744 : Nat) : Int) from by decide, Int.fdiv_eq_ediv_of_nonneg _ (by omega)]
  rfl

theorem hel180 : elOf Tryd.prog 180 = none := by unfold elOf; rw [Tryd.underlying180]
theorem ar180 : arrOf Tryd.prog 180 = some (64, 5) := by unfold arrOf; rw [Tryd.underlying180]
theorem gC (j : Nat) (h : j < 64) : gCell 1 ((j : Nat) : Int).toNat = some (.int .u8 ((tab64.getD j 0 : Nat) : Int)) := by
  rw [Int.toNat_natCast]; unfold gCell; rw [if_pos ⟨rfl, h⟩]
def tzT : List COp := [{ dst := some 11, op := Op.indexAddr 180 (Operand.global 1) (Operand.tmp 10), guard := none }, { dst := some 12, op := Op.load 5 (Operand.tmp 11), guard := none }, { dst := some 13, op := Op.convert 5 3 (Operand.tmp 12), guard := none }, { dst := some 2, op := Op.assign (Operand.tmp 13), guard := none }]
theorem tz_tail (f : AF) (z : Int) (w : Nat) (hw : w < 64) (K : Kont) (h : f.t 10 = .v (.int .u64 z)) (hz : (0 ≤ z) = True) (hz' : (z < ((64 : Nat) : Int)) = True) (hg : gCell 1 z.toNat = some (.int .u8 (w : Int)))
    (hK : ∀ f' : AF, f'.t 2 = .v (.int .i64 (w : Int)) → f'.ds = f.ds → K.run AX.normal f' AH.none) : cops Tryd.prog [] K tzT f AH.none := by
  unfold tzT
  simp only [h, hel180, ar180, hz, hz', hg, Cd.cd121, Tk.t121, base0, base1, base2, base3, Option.isNone_none, Option.isNone_some, Nat.reduceBEq, true_or, or_true, false_or, or_false, Nat.reduceLT, Nat.reduceMod, Nat.reducePow, rmaps, nsucc, List.flatten_cons, List.flatten_nil, Nat.reduceEqDiff, Nat.reduceLeDiff, Nat.reduceAdd, Nat.reduceMul, Nat.reduceSub, ↓reduceIte, reduceCtorEq, decide_true, decide_false]
  refine hK _ ?_ rfl
  show AV.v (.int .i64 (IntKind.i64.wrap (w : Int))) = _
  rw [wrapI (by omega) (by omega)]
theorem low121 (l : Nat) (hl : l < 1024) (h0 : l ≠ 0) : FCall Tryd.prog 121 [uv l] (· = .v (.int .i64 (low l : Nat))) := by
  simp only [uv]
  obtain ⟨t1, t2, t3⟩ := tz_tab l hl h0
  have hg := gC _ t1
  rw [t2] at hg
  have he := tz_eq l hl h0
  have hz : (0 ≤ ((tzI l : Nat) : Int)) = True := by simp
  have hz' : (((tzI l : Nat) : Int) < ((64 : Nat) : Int)) = True := by simp; omega
  refine ACall.enter [] Cd.fn121 (by simp) ?_
  unfold Cd.cd121
  have hS : ((58 : Int) < 0) = False := by simp
  have hT : [{ dst := some 11, op := Op.indexAddr 180 (Operand.global 1) (Operand.tmp 10), guard := none }, { dst := some 12, op := Op.load 5 (Operand.tmp 11), guard := none }, { dst := some 13, op := Op.convert 5 3 (Operand.tmp 12), guard := none }, { dst := some 2, op := Op.assign (Operand.tmp 13), guard := none }] = tzT := rfl
  rw [hT]
  generalize hT' : tzT = T
  generalize (285870213051353865 : Int) = C at he ⊢
  generalize (58 : Int) = S at he hS ⊢
  simp only [show ((l : Int) == 0) = false from by simp; omega, hS, he, Cd.cd121, Tk.t121, base0, base1, base2, base3, Option.isNone_none, Option.isNone_some, Nat.reduceBEq, true_or, or_true, false_or, or_false, Nat.reduceLT, Nat.reduceMod, Nat.reducePow, rmaps, nsucc, List.flatten_cons, List.flatten_nil, Nat.reduceEqDiff, Nat.reduceLeDiff, Nat.reduceAdd, Nat.reduceMul, Nat.reduceSub, ↓reduceIte, reduceCtorEq, decide_true, decide_false]
  subst hT'
  refine tz_tail _ _ _ (by omega) _ rfl hz hz' hg fun f' h1 h2 => ?_
  simp only [h1, h2, Cd.cd121, Tk.t121, base0, base1, base2, base3, Option.isNone_none, Option.isNone_some, Nat.reduceBEq, true_or, or_true, false_or, or_false, Nat.reduceLT, Nat.reduceMod, Nat.reducePow, rmaps, nsucc, List.flatten_cons, List.flatten_nil, Nat.reduceEqDiff, Nat.reduceLeDiff, Nat.reduceAdd, Nat.reduceMul, Nat.reduceSub, ↓reduceIte, reduceCtorEq, decide_true, decide_false]
  exact fin_v rfl
theorem tz103 (l : Nat) (hl : l < 1024) (h0 : l ≠ 0) : FCall Tryd.prog 103 [uv l] (· = .v (.int .i64 (low l : Nat))) := by
  simp only [uv]
  refine ACall.enter [] Cd.fn103 (by simp) ?_
  simp only [Cd.cd103, Tk.t103, base0, base1, base2, base3, Option.isNone_none, Option.isNone_some, Nat.reduceBEq, true_or, or_true, false_or, or_false, Nat.reduceLT, Nat.reduceMod, Nat.reducePow, rmaps, nsucc, List.flatten_cons, List.flatten_nil, Nat.reduceEqDiff, Nat.reduceLeDiff, Nat.reduceAdd, Nat.reduceMul, Nat.reduceSub, ↓reduceIte, reduceCtorEq, decide_true, decide_false]
  first | refine FCall.go (low121 l hl h0) (FZs.v1 _) ?_ | refine FCall.go' (low121 l hl h0) (FZs.v1 _) ?_ | refine FCall.goQ (low121 l hl h0) (FZs.v1 _) ?_
  simp only [Cd.cd103, Tk.t103, base0, base1, base2, base3, Option.isNone_none, Option.isNone_some, Nat.reduceBEq, true_or, or_true, false_or, or_false, Nat.reduceLT, Nat.reduceMod, Nat.reducePow, rmaps, nsucc, List.flatten_cons, List.flatten_nil, Nat.reduceEqDiff, Nat.reduceLeDiff, Nat.reduceAdd, Nat.reduceMul, Nat.reduceSub, ↓reduceIte, reduceCtorEq, decide_true, decide_false]
  exact fin_v rfl
theorem bneZ {l : Nat} (h : l ≠ 0) : ((l : Int) != 0) = true := by simp; omega
theorem setL_len (l : Nat) : (bitsI l).length ≤ 10 := by
  unfold bitsI bitsN; rw [List.length_map]; exact Nat.le_trans (List.length_filter_le _ _) (by simp)
theorem FZ.setV (l : Nat) : FZ (setV l) := FZ.ints _
def intR (x : Int) : List AV := [.v (.int .i64 x)]
theorem FZs.intR (x : Int) : FZs (intR x) := FZs.v1 _
theorem states62 (l : Nat) (hl : l < 1024) : FCall Tryd.prog 62 [uv l] (· = setV l) := by
  simp only [uv]
  refine ACall.enter [0] Cd.fn62 (by simp) ?_
  simp only [Cd.cd62, Tk.t62, base0, base1, base2, base3, Option.isNone_none, Option.isNone_some, Nat.reduceBEq, true_or, or_true, false_or, or_false, Nat.reduceLT, Nat.reduceMod, Nat.reducePow, rmaps, nsucc, List.flatten_cons, List.flatten_nil, Nat.reduceEqDiff, Nat.reduceLeDiff, Nat.reduceAdd, Nat.reduceMul, Nat.reduceSub, ↓reduceIte, reduceCtorEq, decide_true, decide_false]
  refine LWP.loop [] (fun m f H' => ∃ c a done, m = 2 * c ∧ (c < 1024) ∧ (done ++ bitsI c = bitsI l) ∧ (GrowE intR 1 H' a done) ∧ f.t 0 = .v (.int .u64 (c : Nat)) ∧ f.t 3 = a ∧ f.ds = [] ∧ True) ?_ ?_ (m := 2 * (l))
  · exact ⟨l, nilS, [], rfl, (hl), (by simp), (GrowE.nil), rfl, rfl, rfl, trivial⟩
  · rintro m f H' ⟨c, a, done, rfl, hc, hd, hg, f0, f3, hds, hH⟩
    by_cases h0 : c = 0
    · subst h0
      simp only [show (((0 : Nat) : Int) != 0) = false from rfl, f0, f3, hds, Cd.cd62, Tk.t62, base0, base1, base2, base3, Option.isNone_none, Option.isNone_some, Nat.reduceBEq, true_or, or_true, false_or, or_false, Nat.reduceLT, Nat.reduceMod, Nat.reducePow, rmaps, nsucc, List.flatten_cons, List.flatten_nil, Nat.reduceEqDiff, Nat.reduceLeDiff, Nat.reduceAdd, Nat.reduceMul, Nat.reduceSub, ↓reduceIte, reduceCtorEq, decide_true, decide_false]
      have e : done = bitsI l := by rw [← hd]; simp [bitsI, bitsN]
      subst e
      exact ⟨_, _, rfl, hg.view FZs.intR, FZ.setV l, rfl⟩
    · obtain ⟨b1, b2⟩ := bits_step c hc h0
      have e1 : bitsI c = (low c : Int) :: bitsI (c &&& (c - 1)) := by unfold bitsI; rw [b1]; rfl
      have hs : IntKind.u64.wrap ((c : Int) - 1) = ((c - 1 : Nat) : Int) := by rw [wrapU (by omega) (by omega)]; omega
      rcases hg with ⟨rfl, rfl⟩ | ⟨t, rfl, ht⟩
      · simp only [bneZ h0, f0, f3, hds, Cd.cd62, Tk.t62, base0, base1, base2, base3, Option.isNone_none, Option.isNone_some, Nat.reduceBEq, true_or, or_true, false_or, or_false, Nat.reduceLT, Nat.reduceMod, Nat.reducePow, rmaps, nsucc, List.flatten_cons, List.flatten_nil, Nat.reduceEqDiff, Nat.reduceLeDiff, Nat.reduceAdd, Nat.reduceMul, Nat.reduceSub, ↓reduceIte, reduceCtorEq, decide_true, decide_false]
        refine (tz103 c hc h0).go (FZs.v1 _) ?_
        simp only [hs, andU hc (show c - 1 < 1024 by omega), f0, f3, hds, Cd.cd62, Tk.t62, base0, base1, base2, base3, Option.isNone_none, Option.isNone_some, Nat.reduceBEq, true_or, or_true, false_or, or_false, Nat.reduceLT, Nat.reduceMod, Nat.reducePow, rmaps, nsucc, List.flatten_cons, List.flatten_nil, Nat.reduceEqDiff, Nat.reduceLeDiff, Nat.reduceAdd, Nat.reduceMul, Nat.reduceSub, ↓reduceIte, reduceCtorEq, decide_true, decide_false]
        refine ⟨_, Nat.mul_lt_mul_of_pos_left b2 (by omega), c &&& (c - 1), _, [(low c : Int)], rfl, by omega, by rw [← hd, e1]; rfl, GrowE.live (t := H'.next) rfl (by simp [AH.add, AH.tipset]), rfl, rfl⟩
      · have hlen : done.length ≤ 10 := by have := setL_len l; rw [← hd, List.length_append] at this; omega
        simp only [bneZ h0, f0, f3, hds, Cd.cd62, Tk.t62, base0, base1, base2, base3, Option.isNone_none, Option.isNone_some, Nat.reduceBEq, true_or, or_true, false_or, or_false, Nat.reduceLT, Nat.reduceMod, Nat.reducePow, rmaps, nsucc, List.flatten_cons, List.flatten_nil, Nat.reduceEqDiff, Nat.reduceLeDiff, Nat.reduceAdd, Nat.reduceMul, Nat.reduceSub, ↓reduceIte, reduceCtorEq, decide_true, decide_false]
        refine (tz103 c hc h0).go (FZs.v1 _) ?_
        simp only [hs, andU hc (show c - 1 < 1024 by omega), ht, List.length_map, room_of (by_ := 8) (n := done.length + 1) (by omega) (by omega), f0, f3, hds, Cd.cd62, Tk.t62, base0, base1, base2, base3, Option.isNone_none, Option.isNone_some, Nat.reduceBEq, true_or, or_true, false_or, or_false, Nat.reduceLT, Nat.reduceMod, Nat.reducePow, rmaps, nsucc, List.flatten_cons, List.flatten_nil, Nat.reduceEqDiff, Nat.reduceLeDiff, Nat.reduceAdd, Nat.reduceMul, Nat.reduceSub, ↓reduceIte, reduceCtorEq, decide_true, decide_false]
        refine ⟨_, Nat.mul_lt_mul_of_pos_left b2 (by omega), c &&& (c - 1), _, done ++ [(low c : Int)], rfl, by omega, by rw [← hd, e1]; simp, GrowE.live (t := t) (by simp [intR]) (by simp), rfl, rfl⟩
end Go.Proofs.YtchpcjmgifnmdaaDoor

/- Walks: small functions; systems are checked. -/
namespace Go.Proofs.YtchpcjmgifnmdaaDoor
open Go Go.Proofs.YtchpcjmgifnmdaaDoor.Ab
set_option maxRecDepth 100000
set_option linter.unusedSimpArgs false

theorem allS {p : Nat → Prop} {i : Nat} (h : ∀ j, j < i → p j) (hi : p i) : ∀ j, j < i + 1 → p j := fun j hj => by
  rcases Nat.lt_succ_iff_lt_or_eq.mp hj with h' | h'
  · exact h j h'
  · subst h'; exact hi
theorem ltT {i n : Nat} (h : i < n) : decide ((i : Int) < (n : Int)) = true := decide_eq_true (by omega)
theorem ltF {i n : Nat} (h : ¬ i < n) : decide ((i : Int) < (n : Int)) = false := decide_eq_false (by omega)
theorem inR {i n : Nat} (h : i < n) : (0 ≤ (i : Int) ∧ (i : Int) < (n : Int)) = True := by simp; omega
theorem spans66 (n lo hi : Int) : FCall Tryd.prog 66 [.v (.int .i64 n), .v (.int .i64 lo), .v (.int .i64 hi)] (· = .v (.bool (within n lo hi))) := by
  refine ACall.enter [] Cd.fn66 (by simp) ?_
  by_cases h : lo ≤ n <;> simp only [h, decide_true, decide_false, Cd.cd66, Tk.t66, base0, base1, base2, base3, Option.isNone_none, Option.isNone_some, Nat.reduceBEq, true_or, or_true, false_or, or_false, Nat.reduceLT, Nat.reduceMod, Nat.reducePow, rmaps, nsucc, List.flatten_cons, List.flatten_nil, Nat.reduceEqDiff, Nat.reduceLeDiff, Nat.reduceAdd, Nat.reduceMul, Nat.reduceSub, ↓reduceIte, reduceCtorEq, decide_true, decide_false] <;> exact fin_v (by simp [within, h])
theorem within36 (n lo hi : Int) : FCall Tryd.prog 36 [.v (.int .i64 n), .v (.int .i64 lo), .v (.int .i64 hi)] (· = .v (.bool (within n lo hi))) := by
  refine ACall.enter [] Cd.fn36 (by simp) ?_
  by_cases h : lo ≤ n <;> simp only [h, decide_true, decide_false, Cd.cd36, Tk.t36, base0, base1, base2, base3, Option.isNone_none, Option.isNone_some, Nat.reduceBEq, true_or, or_true, false_or, or_false, Nat.reduceLT, Nat.reduceMod, Nat.reducePow, rmaps, nsucc, List.flatten_cons, List.flatten_nil, Nat.reduceEqDiff, Nat.reduceLeDiff, Nat.reduceAdd, Nat.reduceMul, Nat.reduceSub, ↓reduceIte, reduceCtorEq, decide_true, decide_false] <;> exact fin_v (by simp [within, h])
theorem count107 (b : Bool) : FCall Tryd.prog 107 [.v (.bool b)] (· = .v (.int .i64 (if b then 1 else 0))) := by
  refine ACall.enter [] Cd.fn107 (by simp) ?_
  cases b <;> simp only [Cd.cd107, Tk.t107, base0, base1, base2, base3, Option.isNone_none, Option.isNone_some, Nat.reduceBEq, true_or, or_true, false_or, or_false, Nat.reduceLT, Nat.reduceMod, Nat.reducePow, rmaps, nsucc, List.flatten_cons, List.flatten_nil, Nat.reduceEqDiff, Nat.reduceLeDiff, Nat.reduceAdd, Nat.reduceMul, Nat.reduceSub, ↓reduceIte, reduceCtorEq, decide_true, decide_false] <;> exact fin_v (by simp)
theorem unless61 (b : Bool) (e : Int) : FCall Tryd.prog 61 [.v (.bool b), .v (.int .i64 e)] (· = .v (.int .i64 (if b then 0 else e))) := by
  refine ACall.enter [] Cd.fn61 (by simp) ?_
  cases b <;> simp only [Cd.cd61, Tk.t61, base0, base1, base2, base3, Option.isNone_none, Option.isNone_some, Nat.reduceBEq, true_or, or_true, false_or, or_false, Nat.reduceLT, Nat.reduceMod, Nat.reducePow, rmaps, nsucc, List.flatten_cons, List.flatten_nil, Nat.reduceEqDiff, Nat.reduceLeDiff, Nat.reduceAdd, Nat.reduceMul, Nat.reduceSub, ↓reduceIte, reduceCtorEq, decide_true, decide_false] <;> exact fin_v (by simp)
def orL : List Int → Int
  | [] => 0
  | a :: l => if a ≠ 0 then a else orL l
theorem orL_at : ∀ {l : List Int} {i : Nat}, i < l.length → (∀ j, j < i → l.getD j 0 = 0) → l.getD i 0 ≠ 0 → orL l = l.getD i 0
  | [], i, h, _, _ => by simp at h
  | a :: l, 0, _, _, h => by simp only [List.getD_cons_zero] at h ⊢; simp [orL, h]
  | a :: l, i + 1, h, hj, hn => by
    have h0 := hj 0 (by omega)
    simp only [List.getD_cons_zero] at h0
    simp only [List.getD_cons_succ] at hn ⊢
    rw [orL, if_neg (by simp [h0])]
    exact orL_at (by simpa using h) (fun j hj' => by have := hj (j + 1) (by omega); simpa using this) hn
theorem orL_zero : ∀ {l : List Int}, (∀ j, j < l.length → l.getD j 0 = 0) → orL l = 0
  | [], _ => rfl
  | a :: l, h => by
    have h0 := h 0 (by simp)
    simp only [List.getD_cons_zero] at h0
    rw [orL, if_neg (by simp [h0])]
    exact orL_zero fun j hj => by have := h (j + 1) (by simpa using hj); simpa using this
theorem bneT {a : Int} (h : a ≠ 0) : (a != 0) = true := by simpa using h
theorem or105 (l : List Int) (hl : l.length ≤ 100) (tip : Tip) : FCall Tryd.prog 105 [.lst 1 (l.map intR) tip] (· = .v (.int .i64 (orL l))) := by
  refine ACall.enter [] Cd.fn105 (by simp) ?_
  simp only [List.length_map, Cd.cd105, Tk.t105, base0, base1, base2, base3, Option.isNone_none, Option.isNone_some, Nat.reduceBEq, true_or, or_true, false_or, or_false, Nat.reduceLT, Nat.reduceMod, Nat.reducePow, rmaps, nsucc, List.flatten_cons, List.flatten_nil, Nat.reduceEqDiff, Nat.reduceLeDiff, Nat.reduceAdd, Nat.reduceMul, Nat.reduceSub, ↓reduceIte, reduceCtorEq, decide_true, decide_false]
  refine LWP.loop [] (fun m f H' => ∃ i, m = l.length - i ∧ (i ≤ l.length) ∧ (∀ j, j < i → l.getD j 0 = 0) ∧ f.t 3 = .v (.int .i64 0) ∧ f.t 6 = .lst 1 (l.map intR) tip ∧ f.t 7 = .v (.int .i64 (l.length : Nat)) ∧ f.t 8 = .v (.int .i64 (i : Nat)) ∧ f.ds = [] ∧ H' = AH.none) ?_ ?_ (m := l.length - (0))
  · exact ⟨0, rfl, (by omega), (fun j hj => by omega), rfl, rfl, rfl, rfl, rfl, rfl⟩
  · rintro m f H' ⟨i, rfl, hi, hz, f3, f6, f7, f8, hds, rfl⟩
    by_cases hlt : i < l.length
    · by_cases hn : l.getD i 0 = 0
      · simp only [List.length_map, ltT hlt, inR hlt, Int.toNat_natCast, getD_map intR l i hlt, intR, show (l.getD i default != 0) = false from by show (l.getD i 0 != 0) = false; rw [hn]; rfl, f3, f6, f7, f8, hds, Cd.cd105, Tk.t105, base0, base1, base2, base3, Option.isNone_none, Option.isNone_some, Nat.reduceBEq, true_or, or_true, false_or, or_false, Nat.reduceLT, Nat.reduceMod, Nat.reducePow, rmaps, nsucc, List.flatten_cons, List.flatten_nil, Nat.reduceEqDiff, Nat.reduceLeDiff, Nat.reduceAdd, Nat.reduceMul, Nat.reduceSub, ↓reduceIte, reduceCtorEq, decide_true, decide_false]
        refine ⟨_, by omega, i + 1, rfl, by omega, ?_⟩
        (repeat' apply And.intro) <;> first | rfl | (rw [wrapS (by omega)]) | omega | assumption | (exact allS hz hn)
      · simp only [List.length_map, ltT hlt, inR hlt, Int.toNat_natCast, getD_map intR l i hlt, intR, show (l.getD i default != 0) = true from by show (l.getD i 0 != 0) = true; exact bneT hn, f3, f6, f7, f8, hds, Cd.cd105, Tk.t105, base0, base1, base2, base3, Option.isNone_none, Option.isNone_some, Nat.reduceBEq, true_or, or_true, false_or, or_false, Nat.reduceLT, Nat.reduceMod, Nat.reducePow, rmaps, nsucc, List.flatten_cons, List.flatten_nil, Nat.reduceEqDiff, Nat.reduceLeDiff, Nat.reduceAdd, Nat.reduceMul, Nat.reduceSub, ↓reduceIte, reduceCtorEq, decide_true, decide_false]
        exact fin_v (by rw [orL_at hlt hz hn]; rfl)
    · have hi' : i = l.length := by omega
      subst hi'
      simp only [List.length_map, ltF hlt, f3, f6, f7, f8, hds, Cd.cd105, Tk.t105, base0, base1, base2, base3, Option.isNone_none, Option.isNone_some, Nat.reduceBEq, true_or, or_true, false_or, or_false, Nat.reduceLT, Nat.reduceMod, Nat.reducePow, rmaps, nsucc, List.flatten_cons, List.flatten_nil, Nat.reduceEqDiff, Nat.reduceLeDiff, Nat.reduceAdd, Nat.reduceMul, Nat.reduceSub, ↓reduceIte, reduceCtorEq, decide_true, decide_false]
      exact fin_v (by rw [orL_zero hz])
theorem or82 (l : List Int) (hl : l.length ≤ 100) (tip : Tip) : FCall Tryd.prog 82 [.lst 1 (l.map intR) tip] (· = .v (.int .i64 (orL l))) := by
  refine ACall.enter [] Cd.fn82 (by simp) ?_
  simp only [List.length_map, Cd.cd82, Tk.t82, base0, base1, base2, base3, Option.isNone_none, Option.isNone_some, Nat.reduceBEq, true_or, or_true, false_or, or_false, Nat.reduceLT, Nat.reduceMod, Nat.reducePow, rmaps, nsucc, List.flatten_cons, List.flatten_nil, Nat.reduceEqDiff, Nat.reduceLeDiff, Nat.reduceAdd, Nat.reduceMul, Nat.reduceSub, ↓reduceIte, reduceCtorEq, decide_true, decide_false]
  refine LWP.loop [] (fun m f H' => ∃ i, m = l.length - i ∧ (i ≤ l.length) ∧ (∀ j, j < i → l.getD j 0 = 0) ∧ f.t 3 = .v (.int .i64 0) ∧ f.t 6 = .lst 1 (l.map intR) tip ∧ f.t 7 = .v (.int .i64 (l.length : Nat)) ∧ f.t 8 = .v (.int .i64 (i : Nat)) ∧ f.ds = [] ∧ H' = AH.none) ?_ ?_ (m := l.length - (0))
  · exact ⟨0, rfl, (by omega), (fun j hj => by omega), rfl, rfl, rfl, rfl, rfl, rfl⟩
  · rintro m f H' ⟨i, rfl, hi, hz, f3, f6, f7, f8, hds, rfl⟩
    by_cases hlt : i < l.length
    · by_cases hn : l.getD i 0 = 0
      · simp only [List.length_map, ltT hlt, inR hlt, Int.toNat_natCast, getD_map intR l i hlt, intR, show (l.getD i default != 0) = false from by show (l.getD i 0 != 0) = false; rw [hn]; rfl, f3, f6, f7, f8, hds, Cd.cd82, Tk.t82, base0, base1, base2, base3, Option.isNone_none, Option.isNone_some, Nat.reduceBEq, true_or, or_true, false_or, or_false, Nat.reduceLT, Nat.reduceMod, Nat.reducePow, rmaps, nsucc, List.flatten_cons, List.flatten_nil, Nat.reduceEqDiff, Nat.reduceLeDiff, Nat.reduceAdd, Nat.reduceMul, Nat.reduceSub, ↓reduceIte, reduceCtorEq, decide_true, decide_false]
        refine ⟨_, by omega, i + 1, rfl, by omega, ?_⟩
        (repeat' apply And.intro) <;> first | rfl | (rw [wrapS (by omega)]) | omega | assumption | (exact allS hz hn)
      · simp only [List.length_map, ltT hlt, inR hlt, Int.toNat_natCast, getD_map intR l i hlt, intR, show (l.getD i default != 0) = true from by show (l.getD i 0 != 0) = true; exact bneT hn, f3, f6, f7, f8, hds, Cd.cd82, Tk.t82, base0, base1, base2, base3, Option.isNone_none, Option.isNone_some, Nat.reduceBEq, true_or, or_true, false_or, or_false, Nat.reduceLT, Nat.reduceMod, Nat.reducePow, rmaps, nsucc, List.flatten_cons, List.flatten_nil, Nat.reduceEqDiff, Nat.reduceLeDiff, Nat.reduceAdd, Nat.reduceMul, Nat.reduceSub, ↓reduceIte, reduceCtorEq, decide_true, decide_false]
        exact fin_v (by rw [orL_at hlt hz hn]; rfl)
    · have hi' : i = l.length := by omega
      subst hi'
      simp only [List.length_map, ltF hlt, f3, f6, f7, f8, hds, Cd.cd82, Tk.t82, base0, base1, base2, base3, Option.isNone_none, Option.isNone_some, Nat.reduceBEq, true_or, or_true, false_or, or_false, Nat.reduceLT, Nat.reduceMod, Nat.reducePow, rmaps, nsucc, List.flatten_cons, List.flatten_nil, Nat.reduceEqDiff, Nat.reduceLeDiff, Nat.reduceAdd, Nat.reduceMul, Nat.reduceSub, ↓reduceIte, reduceCtorEq, decide_true, decide_false]
      exact fin_v (by rw [orL_zero hz])
theorem nan122 (a : Int) : FCall Tryd.prog 122 [.v (.int .i64 a)] (· = .v (.bool false)) := by
  refine ACall.enter [] Cd.fn122 (by simp) ?_
  simp only [show (a != a) = false from by simp, Cd.cd122, Tk.t122, base0, base1, base2, base3, Option.isNone_none, Option.isNone_some, Nat.reduceBEq, true_or, or_true, false_or, or_false, Nat.reduceLT, Nat.reduceMod, Nat.reducePow, rmaps, nsucc, List.flatten_cons, List.flatten_nil, Nat.reduceEqDiff, Nat.reduceLeDiff, Nat.reduceAdd, Nat.reduceMul, Nat.reduceSub, ↓reduceIte, reduceCtorEq, decide_true, decide_false]
  exact fin_v rfl
theorem cmp106 (a b : Int) : FCall Tryd.prog 106 [.v (.int .i64 a), .v (.int .i64 b)] (· = .v (.int .i64 (cmpI a b))) := by
  refine ACall.enter [] Cd.fn106 (by simp) ?_
  simp only [Cd.cd106, Tk.t106, base0, base1, base2, base3, Option.isNone_none, Option.isNone_some, Nat.reduceBEq, true_or, or_true, false_or, or_false, Nat.reduceLT, Nat.reduceMod, Nat.reducePow, rmaps, nsucc, List.flatten_cons, List.flatten_nil, Nat.reduceEqDiff, Nat.reduceLeDiff, Nat.reduceAdd, Nat.reduceMul, Nat.reduceSub, ↓reduceIte, reduceCtorEq, decide_true, decide_false]
  first | refine FCall.go (nan122 _) (FZs.v1 _) ?_ | refine FCall.go' (nan122 _) (FZs.v1 _) ?_ | refine FCall.goQ (nan122 _) (FZs.v1 _) ?_
  simp only [Cd.cd106, Tk.t106, base0, base1, base2, base3, Option.isNone_none, Option.isNone_some, Nat.reduceBEq, true_or, or_true, false_or, or_false, Nat.reduceLT, Nat.reduceMod, Nat.reducePow, rmaps, nsucc, List.flatten_cons, List.flatten_nil, Nat.reduceEqDiff, Nat.reduceLeDiff, Nat.reduceAdd, Nat.reduceMul, Nat.reduceSub, ↓reduceIte, reduceCtorEq, decide_true, decide_false]
  first | refine FCall.go (nan122 _) (FZs.v1 _) ?_ | refine FCall.go' (nan122 _) (FZs.v1 _) ?_ | refine FCall.goQ (nan122 _) (FZs.v1 _) ?_
  by_cases h1 : a < b
  · simp only [decide_eq_true h1, Cd.cd106, Tk.t106, base0, base1, base2, base3, Option.isNone_none, Option.isNone_some, Nat.reduceBEq, true_or, or_true, false_or, or_false, Nat.reduceLT, Nat.reduceMod, Nat.reducePow, rmaps, nsucc, List.flatten_cons, List.flatten_nil, Nat.reduceEqDiff, Nat.reduceLeDiff, Nat.reduceAdd, Nat.reduceMul, Nat.reduceSub, ↓reduceIte, reduceCtorEq, decide_true, decide_false]
    exact fin_v (by simp [cmpI, h1])
  · by_cases h2 : b < a
    · simp only [decide_eq_false h1, show decide (a > b) = true from decide_eq_true h2, Cd.cd106, Tk.t106, base0, base1, base2, base3, Option.isNone_none, Option.isNone_some, Nat.reduceBEq, true_or, or_true, false_or, or_false, Nat.reduceLT, Nat.reduceMod, Nat.reducePow, rmaps, nsucc, List.flatten_cons, List.flatten_nil, Nat.reduceEqDiff, Nat.reduceLeDiff, Nat.reduceAdd, Nat.reduceMul, Nat.reduceSub, ↓reduceIte, reduceCtorEq, decide_true, decide_false]
      exact fin_v (by simp [cmpI, h1, h2])
    · simp only [decide_eq_false h1, show decide (a > b) = false from decide_eq_false h2, Cd.cd106, Tk.t106, base0, base1, base2, base3, Option.isNone_none, Option.isNone_some, Nat.reduceBEq, true_or, or_true, false_or, or_false, Nat.reduceLT, Nat.reduceMod, Nat.reducePow, rmaps, nsucc, List.flatten_cons, List.flatten_nil, Nat.reduceEqDiff, Nat.reduceLeDiff, Nat.reduceAdd, Nat.reduceMul, Nat.reduceSub, ↓reduceIte, reduceCtorEq, decide_true, decide_false]
      exact fin_v (by simp [cmpI, h1, h2])
theorem FZ.intL {l : List Int} {tip : Tip} (ht : tip.stays = true) : FZ (.lst 1 (l.map intR) tip) := FZ.lst ht fun r hr => by
  obtain ⟨x, _, rfl⟩ := List.mem_map.mp hr
  exact FZs.v1 _
theorem orL4 (a b c d : Int) : orL [a, b, c, d] = orI a (orI b (orI c d)) := by
  simp only [orL, orI]
  by_cases h1 : a = 0 <;> by_cases h2 : b = 0 <;> by_cases h3 : c = 0 <;> by_cases h4 : d = 0 <;> simp [h1, h2, h3, h4]
theorem cmpMv67 (a b : Mv) : FCall Tryd.prog 67 [mvV a, mvV b] (· = .v (.int .i64 (cmpMv a b))) := by
  simp only [mvV, mvR]
  refine ACall.enter [] Cd.fn67 (by simp) ?_
  simp only [Cd.cd67, Tk.t67, base0, base1, base2, base3, Option.isNone_none, Option.isNone_some, Nat.reduceBEq, true_or, or_true, false_or, or_false, Nat.reduceLT, Nat.reduceMod, Nat.reducePow, rmaps, nsucc, List.flatten_cons, List.flatten_nil, Nat.reduceEqDiff, Nat.reduceLeDiff, Nat.reduceAdd, Nat.reduceMul, Nat.reduceSub, ↓reduceIte, reduceCtorEq, decide_true, decide_false]
  first | refine FCall.go (cmp106 _ _) (FZs.v2 _ _) ?_ | refine FCall.go' (cmp106 _ _) (FZs.v2 _ _) ?_ | refine FCall.goQ (cmp106 _ _) (FZs.v2 _ _) ?_
  simp only [Cd.cd67, Tk.t67, base0, base1, base2, base3, Option.isNone_none, Option.isNone_some, Nat.reduceBEq, true_or, or_true, false_or, or_false, Nat.reduceLT, Nat.reduceMod, Nat.reducePow, rmaps, nsucc, List.flatten_cons, List.flatten_nil, Nat.reduceEqDiff, Nat.reduceLeDiff, Nat.reduceAdd, Nat.reduceMul, Nat.reduceSub, ↓reduceIte, reduceCtorEq, decide_true, decide_false]
  first | refine FCall.go (cmp106 _ _) (FZs.v2 _ _) ?_ | refine FCall.go' (cmp106 _ _) (FZs.v2 _ _) ?_ | refine FCall.goQ (cmp106 _ _) (FZs.v2 _ _) ?_
  simp only [Cd.cd67, Tk.t67, base0, base1, base2, base3, Option.isNone_none, Option.isNone_some, Nat.reduceBEq, true_or, or_true, false_or, or_false, Nat.reduceLT, Nat.reduceMod, Nat.reducePow, rmaps, nsucc, List.flatten_cons, List.flatten_nil, Nat.reduceEqDiff, Nat.reduceLeDiff, Nat.reduceAdd, Nat.reduceMul, Nat.reduceSub, ↓reduceIte, reduceCtorEq, decide_true, decide_false]
  first | refine FCall.go (cmp106 _ _) (FZs.v2 _ _) ?_ | refine FCall.go' (cmp106 _ _) (FZs.v2 _ _) ?_ | refine FCall.goQ (cmp106 _ _) (FZs.v2 _ _) ?_
  simp only [Cd.cd67, Tk.t67, base0, base1, base2, base3, Option.isNone_none, Option.isNone_some, Nat.reduceBEq, true_or, or_true, false_or, or_false, Nat.reduceLT, Nat.reduceMod, Nat.reducePow, rmaps, nsucc, List.flatten_cons, List.flatten_nil, Nat.reduceEqDiff, Nat.reduceLeDiff, Nat.reduceAdd, Nat.reduceMul, Nat.reduceSub, ↓reduceIte, reduceCtorEq, decide_true, decide_false]
  first | refine FCall.go (cmp106 _ _) (FZs.v2 _ _) ?_ | refine FCall.go' (cmp106 _ _) (FZs.v2 _ _) ?_ | refine FCall.goQ (cmp106 _ _) (FZs.v2 _ _) ?_
  simp only [Cd.cd67, Tk.t67, base0, base1, base2, base3, Option.isNone_none, Option.isNone_some, Nat.reduceBEq, true_or, or_true, false_or, or_false, Nat.reduceLT, Nat.reduceMod, Nat.reducePow, rmaps, nsucc, List.flatten_cons, List.flatten_nil, Nat.reduceEqDiff, Nat.reduceLeDiff, Nat.reduceAdd, Nat.reduceMul, Nat.reduceSub, ↓reduceIte, reduceCtorEq, decide_true, decide_false]
  have h := or105 [cmpI a.fr b.fr, cmpI a.kd b.kd, cmpI a.lb b.lb, cmpI a.to b.to] (by simp) .full
  have hz : FZ _ := FZ.intL (l := [cmpI a.fr b.fr, cmpI a.kd b.kd, cmpI a.lb b.lb, cmpI a.to b.to]) (tip := .full) rfl
  simp only [List.map_cons, List.map_nil, intR] at h hz
  first | refine FCall.go h (FZs.one hz) ?_ | refine FCall.go' h (FZs.one hz) ?_ | refine FCall.goQ h (FZs.one hz) ?_
  simp only [Cd.cd67, Tk.t67, base0, base1, base2, base3, Option.isNone_none, Option.isNone_some, Nat.reduceBEq, true_or, or_true, false_or, or_false, Nat.reduceLT, Nat.reduceMod, Nat.reducePow, rmaps, nsucc, List.flatten_cons, List.flatten_nil, Nat.reduceEqDiff, Nat.reduceLeDiff, Nat.reduceAdd, Nat.reduceMul, Nat.reduceSub, ↓reduceIte, reduceCtorEq, decide_true, decide_false]
  exact fin_v (by rw [orL4]; rfl)
end Go.Proofs.YtchpcjmgifnmdaaDoor
