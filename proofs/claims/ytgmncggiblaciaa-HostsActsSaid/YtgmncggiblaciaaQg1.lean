/- Part 1 of a proof: hostsActs holds for every input; no condition. -/
import Derived.Test.YtgmncggiblaciaaProg
import Derived.KernelRfl
import Derived.ProofKit
import Derived.Test.YtgmncggiblaciaaAb0
import Derived.Test.YtgmncggiblaciaaAb1
import Derived.Test.YtgmncggiblaciaaAb2
import Derived.Test.YtgmncggiblaciaaAb3
import Derived.Test.YtgmncggiblaciaaAb4
import Derived.Test.YtgmncggiblaciaaAb5
import Derived.Test.YtgmncggiblaciaaAb6
import Derived.Test.YtgmncggiblaciaaAb7
import Derived.Test.YtgmncggiblaciaaAb8
import Derived.Test.YtgmncggiblaciaaAb8a
import Derived.Test.YtgmncggiblaciaaAb8b
import Derived.Test.YtgmncggiblaciaaAb8c
import Derived.Test.YtgmncggiblaciaaAb8d
import Derived.Test.YtgmncggiblaciaaAb9
import Derived.Test.YtgmncggiblaciaaAb10
import Derived.Test.YtgmncggiblaciaaAb11
import Derived.Test.YtgmncggiblaciaaAb12
import Derived.Test.YtgmncggiblaciaaAb13
import Derived.Test.YtgmncggiblaciaaAb14
import Derived.Test.YtgmncggiblaciaaAb15
import Derived.Test.YtgmncggiblaciaaAb16
import Derived.Test.YtgmncggiblaciaaAb17
import Derived.Test.YtgmncggiblaciaaAb18
import Derived.Test.YtgmncggiblaciaaAb19
import Derived.Test.YtgmncggiblaciaaAb20
import Derived.Test.YtgmncggiblaciaaAb21
set_option linter.unusedSimpArgs false
set_option linter.unusedVariables false
set_option linter.defProp false
/- Closed facts on the types of the translation, by program. -/
namespace Go.Proofs.Ytgmncggiblaciaa
open Go Go.Proofs.Ytgmncggiblaciaa.Ab
namespace Ty
theorem sz1 : szOf Try.prog 1 = some 1 := by kernel_rfl
theorem ag1 : isAggT Try.prog 1 = some false := by kernel_rfl
theorem un1 : (Try.prog.underlying 1).isSome = true := by kernel_rfl
theorem unn1 : (Try.prog.underlying 1).isNone = false := by kernel_rfl
theorem zr1 : zeroA Try.prog 1 = some [.v (.nilFunc)] := by kernel_rfl
theorem by1 : byOf Try.prog 1 = some 8 := by kernel_rfl
theorem if1 : isIfc Try.prog 1 = false := by kernel_rfl
theorem sz2 : szOf Try.prog 2 = some 1 := by kernel_rfl
theorem ag2 : isAggT Try.prog 2 = some false := by kernel_rfl
theorem un2 : (Try.prog.underlying 2).isSome = true := by kernel_rfl
theorem unn2 : (Try.prog.underlying 2).isNone = false := by kernel_rfl
theorem zr2 : zeroA Try.prog 2 = some [.v (.int .i64 0)] := by kernel_rfl
theorem by2 : byOf Try.prog 2 = some 8 := by kernel_rfl
theorem in2 : intT Try.prog 2 = some .i64 := by kernel_rfl
theorem if2 : isIfc Try.prog 2 = false := by kernel_rfl
theorem sz3 : szOf Try.prog 3 = some 1 := by kernel_rfl
theorem ag3 : isAggT Try.prog 3 = some false := by kernel_rfl
theorem un3 : (Try.prog.underlying 3).isSome = true := by kernel_rfl
theorem unn3 : (Try.prog.underlying 3).isNone = false := by kernel_rfl
theorem zr3 : zeroA Try.prog 3 = some [.v (.int .i64 0)] := by kernel_rfl
theorem by3 : byOf Try.prog 3 = some 8 := by kernel_rfl
theorem in3 : intT Try.prog 3 = some .i64 := by kernel_rfl
theorem if3 : isIfc Try.prog 3 = false := by kernel_rfl
theorem sz4 : szOf Try.prog 4 = some 1 := by kernel_rfl
theorem ag4 : isAggT Try.prog 4 = some false := by kernel_rfl
theorem un4 : (Try.prog.underlying 4).isSome = true := by kernel_rfl
theorem unn4 : (Try.prog.underlying 4).isNone = false := by kernel_rfl
theorem zr4 : zeroA Try.prog 4 = some [.v (.bool false)] := by kernel_rfl
theorem by4 : byOf Try.prog 4 = some 1 := by kernel_rfl
theorem bo4 : isBoolT Try.prog 4 = true := by kernel_rfl
theorem if4 : isIfc Try.prog 4 = false := by kernel_rfl
theorem sz9 : szOf Try.prog 9 = some 1 := by kernel_rfl
theorem ag9 : isAggT Try.prog 9 = some false := by kernel_rfl
theorem un9 : (Try.prog.underlying 9).isSome = true := by kernel_rfl
theorem unn9 : (Try.prog.underlying 9).isNone = false := by kernel_rfl
theorem zr9 : zeroA Try.prog 9 = some [.v (.string ByteArray.empty)] := by kernel_rfl
theorem by9 : byOf Try.prog 9 = some 16 := by kernel_rfl
theorem ni9 : notInt Try.prog 9 = true := by kernel_rfl
theorem st9 : isStrT Try.prog 9 = true := by kernel_rfl
theorem if9 : isIfc Try.prog 9 = false := by kernel_rfl
theorem ins9 : intT Try.prog 9 = none := by kernel_rfl
theorem sz22 : szOf Try.prog 22 = some 1 := by kernel_rfl
theorem ag22 : isAggT Try.prog 22 = some false := by kernel_rfl
theorem un22 : (Try.prog.underlying 22).isSome = true := by kernel_rfl
theorem unn22 : (Try.prog.underlying 22).isNone = false := by kernel_rfl
theorem zr22 : zeroA Try.prog 22 = some [.v (.slice none 0 0)] := by kernel_rfl
theorem el22 : elOf Try.prog 22 = some 3 := by kernel_rfl
theorem by22 : byOf Try.prog 22 = some 24 := by kernel_rfl
theorem ni22 : notInt Try.prog 22 = true := by kernel_rfl
theorem if22 : isIfc Try.prog 22 = false := by kernel_rfl
theorem sz24 : szOf Try.prog 24 = some 3 := by kernel_rfl
theorem ag24 : isAggT Try.prog 24 = some true := by kernel_rfl
theorem un24 : (Try.prog.underlying 24).isSome = true := by kernel_rfl
theorem unn24 : (Try.prog.underlying 24).isNone = false := by kernel_rfl
theorem zr24 : zeroA Try.prog 24 = some [.v (.int .i64 0), .v (.slice none 0 0), .v (.slice none 0 0)] := by kernel_rfl
theorem by24 : byOf Try.prog 24 = some 56 := by kernel_rfl
theorem if24 : isIfc Try.prog 24 = false := by kernel_rfl
theorem pl24 : placesOf Try.prog 24 = some [(0, 1), (1, 1), (2, 1)] := by kernel_rfl
theorem fo24_0 : fldOff Try.prog 24 0 = some 0 := by kernel_rfl
theorem ft24_0 : fldTy Try.prog 24 0 = some 3 := by kernel_rfl
theorem fo24_1 : fldOff Try.prog 24 1 = some 1 := by kernel_rfl
theorem ft24_1 : fldTy Try.prog 24 1 = some 22 := by kernel_rfl
theorem fo24_2 : fldOff Try.prog 24 2 = some 2 := by kernel_rfl
theorem ft24_2 : fldTy Try.prog 24 2 = some 22 := by kernel_rfl
theorem sz25 : szOf Try.prog 25 = some 1 := by kernel_rfl
theorem ag25 : isAggT Try.prog 25 = some false := by kernel_rfl
theorem un25 : (Try.prog.underlying 25).isSome = true := by kernel_rfl
theorem unn25 : (Try.prog.underlying 25).isNone = false := by kernel_rfl
theorem zr25 : zeroA Try.prog 25 = some [.v (.slice none 0 0)] := by kernel_rfl
theorem el25 : elOf Try.prog 25 = some 39 := by kernel_rfl
theorem by25 : byOf Try.prog 25 = some 24 := by kernel_rfl
theorem ni25 : notInt Try.prog 25 = true := by kernel_rfl
theorem if25 : isIfc Try.prog 25 = false := by kernel_rfl
theorem sz29 : szOf Try.prog 29 = some 1 := by kernel_rfl
theorem ag29 : isAggT Try.prog 29 = some false := by kernel_rfl
theorem un29 : (Try.prog.underlying 29).isSome = true := by kernel_rfl
theorem unn29 : (Try.prog.underlying 29).isNone = false := by kernel_rfl
theorem zr29 : zeroA Try.prog 29 = some [.v (.slice none 0 0)] := by kernel_rfl
theorem el29 : elOf Try.prog 29 = some 68 := by kernel_rfl
theorem by29 : byOf Try.prog 29 = some 24 := by kernel_rfl
theorem ni29 : notInt Try.prog 29 = true := by kernel_rfl
theorem if29 : isIfc Try.prog 29 = false := by kernel_rfl
theorem sz30 : szOf Try.prog 30 = some 1 := by kernel_rfl
theorem ag30 : isAggT Try.prog 30 = some false := by kernel_rfl
theorem un30 : (Try.prog.underlying 30).isSome = true := by kernel_rfl
theorem unn30 : (Try.prog.underlying 30).isNone = false := by kernel_rfl
theorem zr30 : zeroA Try.prog 30 = some [.v (.slice none 0 0)] := by kernel_rfl
theorem el30 : elOf Try.prog 30 = some 80 := by kernel_rfl
theorem by30 : byOf Try.prog 30 = some 24 := by kernel_rfl
theorem ni30 : notInt Try.prog 30 = true := by kernel_rfl
theorem if30 : isIfc Try.prog 30 = false := by kernel_rfl
theorem sz31 : szOf Try.prog 31 = some 1 := by kernel_rfl
theorem ag31 : isAggT Try.prog 31 = some false := by kernel_rfl
theorem un31 : (Try.prog.underlying 31).isSome = true := by kernel_rfl
theorem unn31 : (Try.prog.underlying 31).isNone = false := by kernel_rfl
theorem zr31 : zeroA Try.prog 31 = some [.v (.slice none 0 0)] := by kernel_rfl
theorem el31 : elOf Try.prog 31 = some 92 := by kernel_rfl
theorem by31 : byOf Try.prog 31 = some 24 := by kernel_rfl
theorem ni31 : notInt Try.prog 31 = true := by kernel_rfl
theorem if31 : isIfc Try.prog 31 = false := by kernel_rfl
theorem sz33 : szOf Try.prog 33 = some 4 := by kernel_rfl
theorem ag33 : isAggT Try.prog 33 = some true := by kernel_rfl
theorem un33 : (Try.prog.underlying 33).isSome = true := by kernel_rfl
theorem unn33 : (Try.prog.underlying 33).isNone = false := by kernel_rfl
theorem zr33 : zeroA Try.prog 33 = some [.v (.slice none 0 0), .v (.int .i64 0), .v (.slice none 0 0), .v (.slice none 0 0)] := by kernel_rfl
theorem by33 : byOf Try.prog 33 = some 80 := by kernel_rfl
theorem if33 : isIfc Try.prog 33 = false := by kernel_rfl
theorem pl33 : placesOf Try.prog 33 = some [(0, 1), (1, 1), (2, 1), (3, 1)] := by kernel_rfl
theorem fo33_0 : fldOff Try.prog 33 0 = some 0 := by kernel_rfl
theorem ft33_0 : fldTy Try.prog 33 0 = some 29 := by kernel_rfl
theorem fo33_1 : fldOff Try.prog 33 1 = some 1 := by kernel_rfl
theorem ft33_1 : fldTy Try.prog 33 1 = some 3 := by kernel_rfl
theorem fo33_2 : fldOff Try.prog 33 2 = some 2 := by kernel_rfl
theorem ft33_2 : fldTy Try.prog 33 2 = some 30 := by kernel_rfl
theorem fo33_3 : fldOff Try.prog 33 3 = some 3 := by kernel_rfl
theorem ft33_3 : fldTy Try.prog 33 3 = some 31 := by kernel_rfl
theorem sz34 : szOf Try.prog 34 = some 1 := by kernel_rfl
theorem ag34 : isAggT Try.prog 34 = some false := by kernel_rfl
theorem un34 : (Try.prog.underlying 34).isSome = true := by kernel_rfl
theorem unn34 : (Try.prog.underlying 34).isNone = false := by kernel_rfl
theorem zr34 : zeroA Try.prog 34 = some [.v (.int .i64 0)] := by kernel_rfl
theorem by34 : byOf Try.prog 34 = some 8 := by kernel_rfl
theorem in34 : intT Try.prog 34 = some .i64 := by kernel_rfl
theorem if34 : isIfc Try.prog 34 = false := by kernel_rfl
theorem sz39 : szOf Try.prog 39 = some 2 := by kernel_rfl
theorem ag39 : isAggT Try.prog 39 = some true := by kernel_rfl
theorem un39 : (Try.prog.underlying 39).isSome = true := by kernel_rfl
theorem unn39 : (Try.prog.underlying 39).isNone = false := by kernel_rfl
theorem zr39 : zeroA Try.prog 39 = some [.v (.int .i64 0), .v (.int .i64 0)] := by kernel_rfl
theorem by39 : byOf Try.prog 39 = some 16 := by kernel_rfl
theorem if39 : isIfc Try.prog 39 = false := by kernel_rfl
theorem ef39 : eqFs Try.prog 39 = some [(3, 0), (3, 1)] := by kernel_rfl
theorem pl39 : placesOf Try.prog 39 = some [(0, 1), (1, 1)] := by kernel_rfl
theorem fo39_0 : fldOff Try.prog 39 0 = some 0 := by kernel_rfl
theorem ft39_0 : fldTy Try.prog 39 0 = some 3 := by kernel_rfl
theorem fo39_1 : fldOff Try.prog 39 1 = some 1 := by kernel_rfl
theorem ft39_1 : fldTy Try.prog 39 1 = some 3 := by kernel_rfl
theorem sz56 : szOf Try.prog 56 = some 6 := by kernel_rfl
theorem ag56 : isAggT Try.prog 56 = some true := by kernel_rfl
theorem un56 : (Try.prog.underlying 56).isSome = true := by kernel_rfl
theorem unn56 : (Try.prog.underlying 56).isNone = false := by kernel_rfl
theorem zr56 : zeroA Try.prog 56 = some [.v (.slice none 0 0), .v (.int .i64 0), .v (.slice none 0 0), .v (.slice none 0 0), .v (.int .i64 0), .v (.int .i64 0)] := by kernel_rfl
theorem by56 : byOf Try.prog 56 = some 96 := by kernel_rfl
theorem if56 : isIfc Try.prog 56 = false := by kernel_rfl
theorem pl56 : placesOf Try.prog 56 = some [(0, 4), (4, 1), (5, 1)] := by kernel_rfl
theorem fo56_0 : fldOff Try.prog 56 0 = some 0 := by kernel_rfl
theorem ft56_0 : fldTy Try.prog 56 0 = some 33 := by kernel_rfl
theorem fo56_1 : fldOff Try.prog 56 1 = some 4 := by kernel_rfl
theorem ft56_1 : fldTy Try.prog 56 1 = some 3 := by kernel_rfl
theorem fo56_2 : fldOff Try.prog 56 2 = some 5 := by kernel_rfl
theorem ft56_2 : fldTy Try.prog 56 2 = some 3 := by kernel_rfl
theorem sz68 : szOf Try.prog 68 = some 4 := by kernel_rfl
theorem ag68 : isAggT Try.prog 68 = some true := by kernel_rfl
theorem un68 : (Try.prog.underlying 68).isSome = true := by kernel_rfl
theorem unn68 : (Try.prog.underlying 68).isNone = false := by kernel_rfl
theorem zr68 : zeroA Try.prog 68 = some [.v (.int .i64 0), .v (.bool false), .v (.bool false), .v (.int .i64 0)] := by kernel_rfl
theorem by68 : byOf Try.prog 68 = some 24 := by kernel_rfl
theorem if68 : isIfc Try.prog 68 = false := by kernel_rfl
theorem ef68 : eqFs Try.prog 68 = some [(3, 0), (4, 1), (4, 2), (3, 3)] := by kernel_rfl
theorem pl68 : placesOf Try.prog 68 = some [(0, 1), (1, 1), (2, 1), (3, 1)] := by kernel_rfl
theorem fo68_0 : fldOff Try.prog 68 0 = some 0 := by kernel_rfl
theorem ft68_0 : fldTy Try.prog 68 0 = some 3 := by kernel_rfl
theorem fo68_1 : fldOff Try.prog 68 1 = some 1 := by kernel_rfl
theorem ft68_1 : fldTy Try.prog 68 1 = some 4 := by kernel_rfl
theorem fo68_2 : fldOff Try.prog 68 2 = some 2 := by kernel_rfl
theorem ft68_2 : fldTy Try.prog 68 2 = some 4 := by kernel_rfl
theorem fo68_3 : fldOff Try.prog 68 3 = some 3 := by kernel_rfl
theorem ft68_3 : fldTy Try.prog 68 3 = some 3 := by kernel_rfl
theorem sz78 : szOf Try.prog 78 = some 1 := by kernel_rfl
theorem ag78 : isAggT Try.prog 78 = some false := by kernel_rfl
theorem un78 : (Try.prog.underlying 78).isSome = true := by kernel_rfl
theorem unn78 : (Try.prog.underlying 78).isNone = false := by kernel_rfl
theorem zr78 : zeroA Try.prog 78 = some [.v (.slice none 0 0)] := by kernel_rfl
theorem el78 : elOf Try.prog 78 = some 90 := by kernel_rfl
theorem by78 : byOf Try.prog 78 = some 24 := by kernel_rfl
theorem ni78 : notInt Try.prog 78 = true := by kernel_rfl
theorem if78 : isIfc Try.prog 78 = false := by kernel_rfl
theorem sz80 : szOf Try.prog 80 = some 2 := by kernel_rfl
theorem ag80 : isAggT Try.prog 80 = some true := by kernel_rfl
theorem un80 : (Try.prog.underlying 80).isSome = true := by kernel_rfl
theorem unn80 : (Try.prog.underlying 80).isNone = false := by kernel_rfl
theorem zr80 : zeroA Try.prog 80 = some [.v (.bool false), .v (.slice none 0 0)] := by kernel_rfl
theorem by80 : byOf Try.prog 80 = some 32 := by kernel_rfl
theorem if80 : isIfc Try.prog 80 = false := by kernel_rfl
theorem pl80 : placesOf Try.prog 80 = some [(0, 1), (1, 1)] := by kernel_rfl
theorem fo80_0 : fldOff Try.prog 80 0 = some 0 := by kernel_rfl
theorem ft80_0 : fldTy Try.prog 80 0 = some 4 := by kernel_rfl
theorem fo80_1 : fldOff Try.prog 80 1 = some 1 := by kernel_rfl
theorem ft80_1 : fldTy Try.prog 80 1 = some 78 := by kernel_rfl
theorem sz83 : szOf Try.prog 83 = some 1 := by kernel_rfl
theorem ag83 : isAggT Try.prog 83 = some false := by kernel_rfl
theorem un83 : (Try.prog.underlying 83).isSome = true := by kernel_rfl
theorem unn83 : (Try.prog.underlying 83).isNone = false := by kernel_rfl
theorem zr83 : zeroA Try.prog 83 = some [.v (.pointer none)] := by kernel_rfl
theorem by83 : byOf Try.prog 83 = some 8 := by kernel_rfl
theorem po83 : isPtrT Try.prog 83 = true := by kernel_rfl
theorem if83 : isIfc Try.prog 83 = false := by kernel_rfl
theorem sz85 : szOf Try.prog 85 = some 7 := by kernel_rfl
theorem ag85 : isAggT Try.prog 85 = some true := by kernel_rfl
theorem un85 : (Try.prog.underlying 85).isSome = true := by kernel_rfl
theorem unn85 : (Try.prog.underlying 85).isNone = false := by kernel_rfl
theorem zr85 : zeroA Try.prog 85 = some [.v (.int .i64 0), .v (.slice none 0 0), .v (.slice none 0 0), .v (.slice none 0 0), .v (.int .i64 0), .v (.slice none 0 0), .v (.slice none 0 0)] := by kernel_rfl
theorem by85 : byOf Try.prog 85 = some 136 := by kernel_rfl
theorem if85 : isIfc Try.prog 85 = false := by kernel_rfl
theorem pl85 : placesOf Try.prog 85 = some [(0, 3), (3, 4)] := by kernel_rfl
theorem fo85_0 : fldOff Try.prog 85 0 = some 0 := by kernel_rfl
theorem ft85_0 : fldTy Try.prog 85 0 = some 24 := by kernel_rfl
theorem fo85_1 : fldOff Try.prog 85 1 = some 3 := by kernel_rfl
theorem ft85_1 : fldTy Try.prog 85 1 = some 33 := by kernel_rfl
theorem sz88 : szOf Try.prog 88 = some 1 := by kernel_rfl
theorem ag88 : isAggT Try.prog 88 = some false := by kernel_rfl
theorem un88 : (Try.prog.underlying 88).isSome = true := by kernel_rfl
theorem unn88 : (Try.prog.underlying 88).isNone = false := by kernel_rfl
theorem zr88 : zeroA Try.prog 88 = some [.v (.nilFunc)] := by kernel_rfl
theorem by88 : byOf Try.prog 88 = some 8 := by kernel_rfl
theorem if88 : isIfc Try.prog 88 = false := by kernel_rfl
theorem sz90 : szOf Try.prog 90 = some 5 := by kernel_rfl
theorem ag90 : isAggT Try.prog 90 = some true := by kernel_rfl
theorem un90 : (Try.prog.underlying 90).isSome = true := by kernel_rfl
theorem unn90 : (Try.prog.underlying 90).isNone = false := by kernel_rfl
theorem zr90 : zeroA Try.prog 90 = some [.v (.int .i64 0), .v (.bool false), .v (.bool false), .v (.int .i64 0), .v (.int .i64 0)] := by kernel_rfl
theorem by90 : byOf Try.prog 90 = some 32 := by kernel_rfl
theorem if90 : isIfc Try.prog 90 = false := by kernel_rfl
theorem ef90 : eqFs Try.prog 90 = some [(3, 0), (4, 1), (4, 2), (3, 3), (3, 4)] := by kernel_rfl
theorem pl90 : placesOf Try.prog 90 = some [(0, 1), (1, 1), (2, 1), (3, 1), (4, 1)] := by kernel_rfl
theorem fo90_0 : fldOff Try.prog 90 0 = some 0 := by kernel_rfl
theorem ft90_0 : fldTy Try.prog 90 0 = some 3 := by kernel_rfl
theorem fo90_1 : fldOff Try.prog 90 1 = some 1 := by kernel_rfl
theorem ft90_1 : fldTy Try.prog 90 1 = some 4 := by kernel_rfl
theorem fo90_2 : fldOff Try.prog 90 2 = some 2 := by kernel_rfl
theorem ft90_2 : fldTy Try.prog 90 2 = some 4 := by kernel_rfl
theorem fo90_3 : fldOff Try.prog 90 3 = some 3 := by kernel_rfl
theorem ft90_3 : fldTy Try.prog 90 3 = some 3 := by kernel_rfl
theorem fo90_4 : fldOff Try.prog 90 4 = some 4 := by kernel_rfl
theorem ft90_4 : fldTy Try.prog 90 4 = some 3 := by kernel_rfl
theorem sz92 : szOf Try.prog 92 = some 4 := by kernel_rfl
theorem ag92 : isAggT Try.prog 92 = some true := by kernel_rfl
theorem un92 : (Try.prog.underlying 92).isSome = true := by kernel_rfl
theorem unn92 : (Try.prog.underlying 92).isNone = false := by kernel_rfl
theorem zr92 : zeroA Try.prog 92 = some [.v (.int .i64 0), .v (.int .i64 0), .v (.int .i64 0), .v (.int .i64 0)] := by kernel_rfl
theorem by92 : byOf Try.prog 92 = some 32 := by kernel_rfl
theorem if92 : isIfc Try.prog 92 = false := by kernel_rfl
theorem ef92 : eqFs Try.prog 92 = some [(3, 0), (3, 1), (3, 2), (3, 3)] := by kernel_rfl
theorem pl92 : placesOf Try.prog 92 = some [(0, 1), (1, 1), (2, 1), (3, 1)] := by kernel_rfl
theorem fo92_0 : fldOff Try.prog 92 0 = some 0 := by kernel_rfl
theorem ft92_0 : fldTy Try.prog 92 0 = some 3 := by kernel_rfl
theorem fo92_1 : fldOff Try.prog 92 1 = some 1 := by kernel_rfl
theorem ft92_1 : fldTy Try.prog 92 1 = some 3 := by kernel_rfl
theorem fo92_2 : fldOff Try.prog 92 2 = some 2 := by kernel_rfl
theorem ft92_2 : fldTy Try.prog 92 2 = some 3 := by kernel_rfl
theorem fo92_3 : fldOff Try.prog 92 3 = some 3 := by kernel_rfl
theorem ft92_3 : fldTy Try.prog 92 3 = some 3 := by kernel_rfl
theorem sz95 : szOf Try.prog 95 = some 1 := by kernel_rfl
theorem ag95 : isAggT Try.prog 95 = some false := by kernel_rfl
theorem un95 : (Try.prog.underlying 95).isSome = true := by kernel_rfl
theorem unn95 : (Try.prog.underlying 95).isNone = false := by kernel_rfl
theorem zr95 : zeroA Try.prog 95 = some [.v (.nilFunc)] := by kernel_rfl
theorem by95 : byOf Try.prog 95 = some 8 := by kernel_rfl
theorem if95 : isIfc Try.prog 95 = false := by kernel_rfl
theorem sz118 : szOf Try.prog 118 = some 1 := by kernel_rfl
theorem ag118 : isAggT Try.prog 118 = some false := by kernel_rfl
theorem un118 : (Try.prog.underlying 118).isSome = true := by kernel_rfl
theorem unn118 : (Try.prog.underlying 118).isNone = false := by kernel_rfl
theorem zr118 : zeroA Try.prog 118 = some [.v (.nilFunc)] := by kernel_rfl
theorem by118 : byOf Try.prog 118 = some 8 := by kernel_rfl
theorem if118 : isIfc Try.prog 118 = false := by kernel_rfl
end Ty
end Go.Proofs.Ytgmncggiblaciaa

/- The code of functions without what an evaluation has no need of, by program. -/
namespace Go.Proofs.Ytgmncggiblaciaa
open Go Go.Proofs.Ytgmncggiblaciaa.Ab
namespace Cd
/-- examiner/examinerref36.CheckState -/
def cd35 : CC := (.seq (.reg [⟨some 2, (Op.box 24 (Operand.tmp 0)), none⟩,
  ⟨some 3, (Op.box 33 (Operand.tmp 1)), none⟩,
  ⟨some 4, (Op.assign (Operand.const (Value.int IntKind.i64 0))), none⟩,
  ⟨some 5, (Op.assign (Operand.const (Value.int IntKind.i64 0))), none⟩])
 (.seq (.seq (.reg [⟨some 17, (Op.load 24 (Operand.tmp 2)), none⟩,
  ⟨some 18, (Op.call { callee := (Callee.value (Operand.func 11)), args := #[(Operand.tmp 17)], argTypes := #[24] }), none⟩,
  ⟨some 16, (Op.move (Operand.tmp 18)), none⟩,
  ⟨some 19, (Op.extract (Operand.tmp 16) 0), none⟩,
  ⟨some 20, (Op.extract (Operand.tmp 16) 1), none⟩,
  ⟨some 6, (Op.assign (Operand.tmp 19)), none⟩,
  ⟨some 7, (Op.assign (Operand.tmp 20)), none⟩])
 (.seq (.reg [⟨some 21, (Op.move (Operand.tmp 7)), none⟩,
  ⟨some 22, (Op.binOp BinOp.neq 3 (Operand.tmp 21) (Operand.const (Value.int IntKind.i64 0)) 3), none⟩])
 (.cond (Operand.tmp 22) (.seq (.reg [⟨some 23, (Op.move (Operand.tmp 7)), none⟩,
  ⟨some 4, (Op.assign (Operand.const (Value.int IntKind.i64 0))), none⟩,
  ⟨some 5, (Op.assign (Operand.tmp 23)), none⟩])
 .ret) .skip)))
 (.seq (.seq (.reg [⟨some 24, (Op.fieldAddr 33 (Operand.tmp 3) 0), none⟩,
  ⟨some 25, (Op.load 29 (Operand.tmp 24)), none⟩,
  ⟨some 26, (Op.call { callee := (Callee.builtin Builtin.len), args := #[(Operand.tmp 25)], argTypes := #[29] }), none⟩,
  ⟨some 27, (Op.fieldAddr 24 (Operand.tmp 2) 1), none⟩,
  ⟨some 28, (Op.load 22 (Operand.tmp 27)), none⟩,
  ⟨some 29, (Op.call { callee := (Callee.builtin Builtin.len), args := #[(Operand.tmp 28)], argTypes := #[22] }), none⟩,
  ⟨some 30, (Op.binOp BinOp.neq 3 (Operand.tmp 26) (Operand.tmp 29) 3), none⟩,
  ⟨some 31, (Op.move (Operand.tmp 30)), none⟩,
  ⟨some 32, (Op.fieldAddr 33 (Operand.tmp 3) 2), some (31, false)⟩,
  ⟨some 33, (Op.load 30 (Operand.tmp 32)), some (31, false)⟩,
  ⟨some 34, (Op.call { callee := (Callee.builtin Builtin.len), args := #[(Operand.tmp 33)], argTypes := #[30] }), some (31, false)⟩,
  ⟨some 35, (Op.fieldAddr 24 (Operand.tmp 2) 0), some (31, false)⟩,
  ⟨some 36, (Op.load 3 (Operand.tmp 35)), some (31, false)⟩,
  ⟨some 37, (Op.binOp BinOp.neq 3 (Operand.tmp 34) (Operand.tmp 36) 3), some (31, false)⟩,
  ⟨some 38, (Op.pick (Operand.tmp 31) (Operand.const (Value.bool true)) (Operand.tmp 37)), none⟩])
 (.cond (Operand.tmp 38) (.seq (.reg [⟨some 4, (Op.assign (Operand.const (Value.int IntKind.i64 0))), none⟩,
  ⟨some 5, (Op.assign (Operand.const (Value.int IntKind.i64 6))), none⟩])
 .ret) .skip))
 (.seq (.reg [⟨some 39, (Op.fieldAddr 33 (Operand.tmp 3) 3), none⟩,
  ⟨some 40, (Op.load 31 (Operand.tmp 39)), none⟩,
  ⟨some 41, (Op.call { callee := (Callee.builtin Builtin.len), args := #[(Operand.tmp 40)], argTypes := #[31] }), none⟩,
  ⟨some 42, (Op.binOp BinOp.gtr 3 (Operand.tmp 41) (Operand.const (Value.int IntKind.i64 12)) 3), none⟩,
  ⟨some 8, (Op.assign (Operand.tmp 42)), none⟩])
 (.seq (.seq (.reg [⟨some 9, (Op.assign (Operand.const (Value.int IntKind.i64 0))), none⟩])
 (.block 0 (.loop (.seq (.seq (.reg [⟨some 43, (Op.move (Operand.tmp 9)), none⟩,
  ⟨some 44, (Op.fieldAddr 33 (Operand.tmp 3) 2), none⟩,
  ⟨some 45, (Op.load 30 (Operand.tmp 44)), none⟩,
  ⟨some 46, (Op.call { callee := (Callee.builtin Builtin.len), args := #[(Operand.tmp 45)], argTypes := #[30] }), none⟩,
  ⟨some 47, (Op.binOp BinOp.lss 3 (Operand.tmp 43) (Operand.tmp 46) 3), none⟩])
 (.cond (Operand.tmp 47) .skip (.exit 0)))
 (.seq (.block 1 (.reg [⟨some 50, (Op.move (Operand.tmp 8)), none⟩,
  ⟨some 51, (Op.move (Operand.tmp 50)), none⟩,
  ⟨some 52, (Op.fieldAddr 33 (Operand.tmp 3) 2), some (51, false)⟩,
  ⟨some 53, (Op.load 30 (Operand.tmp 52)), some (51, false)⟩,
  ⟨some 54, (Op.move (Operand.tmp 9)), some (51, false)⟩,
  ⟨some 55, (Op.indexAddr 30 (Operand.tmp 53) (Operand.tmp 54)), some (51, false)⟩,
  ⟨some 56, (Op.fieldAddr 80 (Operand.tmp 55) 1), some (51, false)⟩,
  ⟨some 57, (Op.load 78 (Operand.tmp 56)), some (51, false)⟩,
  ⟨some 58, (Op.call { callee := (Callee.builtin Builtin.len), args := #[(Operand.tmp 57)], argTypes := #[78] }), some (51, false)⟩,
  ⟨some 59, (Op.binOp BinOp.gtr 3 (Operand.tmp 58) (Operand.const (Value.int IntKind.i64 6)) 3), some (51, false)⟩,
  ⟨some 60, (Op.pick (Operand.tmp 51) (Operand.const (Value.bool true)) (Operand.tmp 59)), none⟩,
  ⟨some 8, (Op.assign (Operand.tmp 60)), none⟩]))
 (.reg [⟨some 48, (Op.move (Operand.tmp 9)), none⟩,
  ⟨some 49, (Op.binOp BinOp.add 3 (Operand.tmp 48) (Operand.const (Value.int IntKind.i64 1)) 3), none⟩,
  ⟨some 9, (Op.assign (Operand.tmp 49)), none⟩]))))))
 (.seq (.seq (.reg [⟨some 61, (Op.move (Operand.tmp 8)), none⟩])
 (.cond (Operand.tmp 61) (.seq (.reg [⟨some 4, (Op.assign (Operand.const (Value.int IntKind.i64 0))), none⟩,
  ⟨some 5, (Op.assign (Operand.const (Value.int IntKind.i64 2))), none⟩])
 .ret) .skip))
 (.seq (.seq (.reg [⟨some 63, (Op.load 33 (Operand.tmp 3)), none⟩,
  ⟨some 64, (Op.call { callee := (Callee.value (Operand.func 59)), args := #[(Operand.tmp 63)], argTypes := #[33] }), none⟩,
  ⟨some 62, (Op.move (Operand.tmp 64)), none⟩,
  ⟨some 65, (Op.extract (Operand.tmp 62) 0), none⟩,
  ⟨some 66, (Op.extract (Operand.tmp 62) 1), none⟩,
  ⟨some 10, (Op.assign (Operand.tmp 65)), none⟩,
  ⟨some 11, (Op.assign (Operand.tmp 66)), none⟩])
 (.seq (.reg [⟨some 67, (Op.move (Operand.tmp 11)), none⟩,
  ⟨some 68, (Op.binOp BinOp.neq 3 (Operand.tmp 67) (Operand.const (Value.int IntKind.i64 0)) 3), none⟩])
 (.cond (Operand.tmp 68) (.seq (.reg [⟨some 69, (Op.move (Operand.tmp 10)), none⟩,
  ⟨some 70, (Op.move (Operand.tmp 11)), none⟩,
  ⟨some 4, (Op.assign (Operand.tmp 69)), none⟩,
  ⟨some 5, (Op.assign (Operand.tmp 70)), none⟩])
 .ret) .skip)))
 (.seq (.seq (.reg [⟨some 12, (Op.assign (Operand.const (Value.int IntKind.i64 0))), none⟩])
 (.block 2 (.loop (.seq (.seq (.reg [⟨some 71, (Op.move (Operand.tmp 12)), none⟩,
  ⟨some 72, (Op.fieldAddr 33 (Operand.tmp 3) 2), none⟩,
  ⟨some 73, (Op.load 30 (Operand.tmp 72)), none⟩,
  ⟨some 74, (Op.call { callee := (Callee.builtin Builtin.len), args := #[(Operand.tmp 73)], argTypes := #[30] }), none⟩,
  ⟨some 75, (Op.binOp BinOp.lss 3 (Operand.tmp 71) (Operand.tmp 74) 3), none⟩])
 (.cond (Operand.tmp 75) .skip (.exit 2)))
 (.seq (.block 3 (.seq (.reg [⟨some 78, (Op.load 24 (Operand.tmp 2)), none⟩,
  ⟨some 79, (Op.load 33 (Operand.tmp 3)), none⟩,
  ⟨some 80, (Op.move (Operand.tmp 12)), none⟩,
  ⟨some 81, (Op.call { callee := (Callee.value (Operand.func 60)), args := #[(Operand.tmp 78), (Operand.tmp 79), (Operand.tmp 80)], argTypes := #[24, 33, 3] }), none⟩,
  ⟨some 13, (Op.assign (Operand.tmp 81)), none⟩])
 (.seq (.reg [⟨some 82, (Op.move (Operand.tmp 13)), none⟩,
  ⟨some 83, (Op.binOp BinOp.neq 3 (Operand.tmp 82) (Operand.const (Value.int IntKind.i64 0)) 3), none⟩])
 (.cond (Operand.tmp 83) (.seq (.reg [⟨some 84, (Op.move (Operand.tmp 12)), none⟩,
  ⟨some 85, (Op.move (Operand.tmp 13)), none⟩,
  ⟨some 4, (Op.assign (Operand.tmp 84)), none⟩,
  ⟨some 5, (Op.assign (Operand.tmp 85)), none⟩])
 .ret) .skip))))
 (.reg [⟨some 76, (Op.move (Operand.tmp 12)), none⟩,
  ⟨some 77, (Op.binOp BinOp.add 3 (Operand.tmp 76) (Operand.const (Value.int IntKind.i64 1)) 3), none⟩,
  ⟨some 12, (Op.assign (Operand.tmp 77)), none⟩]))))))
 (.seq (.seq (.reg [⟨some 14, (Op.assign (Operand.const (Value.int IntKind.i64 0))), none⟩])
 (.block 4 (.loop (.seq (.seq (.reg [⟨some 86, (Op.move (Operand.tmp 14)), none⟩,
  ⟨some 87, (Op.fieldAddr 33 (Operand.tmp 3) 3), none⟩,
  ⟨some 88, (Op.load 31 (Operand.tmp 87)), none⟩,
  ⟨some 89, (Op.call { callee := (Callee.builtin Builtin.len), args := #[(Operand.tmp 88)], argTypes := #[31] }), none⟩,
  ⟨some 90, (Op.binOp BinOp.lss 3 (Operand.tmp 86) (Operand.tmp 89) 3), none⟩])
 (.cond (Operand.tmp 90) .skip (.exit 4)))
 (.seq (.block 5 (.seq (.dr [⟨0, .R, ⟨some 93, (Op.load 24 (Operand.tmp 2)), none⟩, [], false⟩,
  ⟨1, .F, ⟨some 94, (Op.fieldAddr 33 (Operand.tmp 3) 3), none⟩, [], false⟩,
  ⟨2, .R, ⟨some 95, (Op.load 31 (Operand.tmp 94)), none⟩, [], false⟩,
  ⟨3, .F, ⟨some 96, (Op.move (Operand.tmp 14)), none⟩, [], false⟩,
  ⟨4, .F, ⟨some 97, (Op.indexAddr 31 (Operand.tmp 95) (Operand.tmp 96)), none⟩, [], false⟩,
  ⟨5, .R, ⟨some 98, (Op.load 92 (Operand.tmp 97)), none⟩, [], false⟩,
  ⟨6, .E, ⟨some 99, (Op.call { callee := (Callee.value (Operand.func 61)), args := #[(Operand.tmp 93), (Operand.tmp 98)], argTypes := #[24, 92] }), none⟩, [], false⟩,
  ⟨7, .F, ⟨some 15, (Op.assign (Operand.tmp 99)), none⟩, [], false⟩])
 (.seq (.reg [⟨some 100, (Op.move (Operand.tmp 15)), none⟩,
  ⟨some 101, (Op.binOp BinOp.neq 3 (Operand.tmp 100) (Operand.const (Value.int IntKind.i64 0)) 3), none⟩])
 (.cond (Operand.tmp 101) (.seq (.reg [⟨some 102, (Op.move (Operand.tmp 14)), none⟩,
  ⟨some 103, (Op.move (Operand.tmp 15)), none⟩,
  ⟨some 4, (Op.assign (Operand.tmp 102)), none⟩,
  ⟨some 5, (Op.assign (Operand.tmp 103)), none⟩])
 .ret) .skip))))
 (.reg [⟨some 91, (Op.move (Operand.tmp 14)), none⟩,
  ⟨some 92, (Op.binOp BinOp.add 3 (Operand.tmp 91) (Operand.const (Value.int IntKind.i64 1)) 3), none⟩,
  ⟨some 14, (Op.assign (Operand.tmp 92)), none⟩]))))))
 (.seq (.reg [⟨some 4, (Op.assign (Operand.const (Value.int IntKind.i64 0))), none⟩,
  ⟨some 5, (Op.assign (Operand.const (Value.int IntKind.i64 0))), none⟩])
 .ret))))))))))
theorem fn35 : FnFact Try.prog 35 104 [(25, [(0, 3), (1, 0), (2, 3), (3, 0), (4, 0), (5, 3), (6, 2), (7, 0)], [[], [], [1], [], [1, 2, 3], [1, 2, 3, 4], [0, 1, 2, 3, 4, 5], [0, 1, 2, 3, 4, 5, 6]])] [(ResultVar.tmp 4), (ResultVar.tmp 5)] cd35 := ⟨by kernel_rfl, ⟨Try.f35, Try.func35, by kernel_rfl, by rfl, Try.ntmps35, congrArg Array.toList Try.results35⟩⟩
/-- examiner/examinerref36.Acts -/
def cd36 : CC := (.seq (.reg [⟨some 2, (Op.box 24 (Operand.tmp 0)), none⟩,
  ⟨some 3, (Op.box 33 (Operand.tmp 1)), none⟩,
  ⟨some 4, (Op.assign (Operand.const (Value.slice none 0 0))), none⟩])
 (.seq (.reg [⟨some 5, (Op.assign (Operand.const (Value.slice none 0 0))), none⟩])
 (.seq (.seq (.reg [⟨some 6, (Op.assign (Operand.const (Value.int IntKind.i64 0))), none⟩])
 (.block 0 (.loop (.seq (.seq (.reg [⟨some 9, (Op.move (Operand.tmp 6)), none⟩,
  ⟨some 10, (Op.binOp BinOp.lss 3 (Operand.tmp 9) (Operand.const (Value.int IntKind.i64 8)) 3), none⟩])
 (.cond (Operand.tmp 10) .skip (.exit 0)))
 (.seq (.block 1 (.seq (.reg [⟨some 7, (Op.assign (Operand.const (Value.int IntKind.i64 0))), none⟩])
 (.block 2 (.loop (.seq (.seq (.reg [⟨some 13, (Op.move (Operand.tmp 7)), none⟩,
  ⟨some 14, (Op.binOp BinOp.lss 3 (Operand.tmp 13) (Operand.const (Value.int IntKind.i64 12)) 3), none⟩])
 (.cond (Operand.tmp 14) .skip (.exit 2)))
 (.seq (.block 3 (.seq (.reg [⟨some 17, (Op.move (Operand.tmp 6)), none⟩,
  ⟨some 18, (Op.move (Operand.tmp 7)), none⟩,
  ⟨some 19, (Op.build 39 #[(0, (Operand.tmp 17)), (1, (Operand.tmp 18))]), none⟩,
  ⟨some 8, (Op.alloc 39), none⟩,
  ⟨none, (Op.store 39 (Operand.tmp 8) (Operand.tmp 19)), none⟩])
 (.seq (.reg [⟨some 20, (Op.load 24 (Operand.tmp 2)), none⟩,
  ⟨some 21, (Op.load 33 (Operand.tmp 3)), none⟩,
  ⟨some 22, (Op.load 39 (Operand.tmp 8)), none⟩,
  ⟨some 23, (Op.call { callee := (Callee.value (Operand.func 62)), args := #[(Operand.tmp 20), (Operand.tmp 21), (Operand.tmp 22)], argTypes := #[24, 33, 39] }), none⟩])
 (.cond (Operand.tmp 23) (.reg [⟨some 24, (Op.move (Operand.tmp 5)), none⟩,
  ⟨some 25, (Op.load 39 (Operand.tmp 8)), none⟩,
  ⟨some 26, (Op.buildSlice 25 1 #[(0, (Operand.tmp 25))]), none⟩,
  ⟨some 27, (Op.call { callee := (Callee.builtin Builtin.append), args := #[(Operand.tmp 24), (Operand.tmp 26)], argTypes := #[25, 25] }), none⟩,
  ⟨some 5, (Op.assign (Operand.tmp 27)), none⟩]) .skip))))
 (.reg [⟨some 15, (Op.move (Operand.tmp 7)), none⟩,
  ⟨some 16, (Op.binOp BinOp.add 3 (Operand.tmp 15) (Operand.const (Value.int IntKind.i64 1)) 3), none⟩,
  ⟨some 7, (Op.assign (Operand.tmp 16)), none⟩])))))))
 (.reg [⟨some 11, (Op.move (Operand.tmp 6)), none⟩,
  ⟨some 12, (Op.binOp BinOp.add 3 (Operand.tmp 11) (Operand.const (Value.int IntKind.i64 1)) 3), none⟩,
  ⟨some 6, (Op.assign (Operand.tmp 12)), none⟩]))))))
 (.seq (.reg [⟨some 28, (Op.move (Operand.tmp 5)), none⟩,
  ⟨some 4, (Op.assign (Operand.tmp 28)), none⟩])
 .ret))))
theorem fn36 : FnFact Try.prog 36 29 [] [(ResultVar.tmp 4)] cd36 := ⟨by kernel_rfl, ⟨Try.f36, Try.func36, by kernel_rfl, by rfl, Try.ntmps36, congrArg Array.toList Try.results36⟩⟩
/-- examiner/examinerref36.ActErr -/
def cd37 : CC := (.seq (.reg [⟨some 3, (Op.box 24 (Operand.tmp 0)), none⟩,
  ⟨some 4, (Op.box 33 (Operand.tmp 1)), none⟩,
  ⟨some 5, (Op.box 39 (Operand.tmp 2)), none⟩,
  ⟨some 6, (Op.assign (Operand.const (Value.int IntKind.i64 0))), none⟩])
 (.seq (.seq (.reg [⟨some 7, (Op.fieldAddr 39 (Operand.tmp 5) 0), none⟩,
  ⟨some 8, (Op.load 3 (Operand.tmp 7)), none⟩,
  ⟨some 9, (Op.call { callee := (Callee.value (Operand.func 29)), args := #[(Operand.tmp 8), (Operand.const (Value.int IntKind.i64 0)), (Operand.const (Value.int IntKind.i64 7))], argTypes := #[3, 3, 3] }), none⟩,
  ⟨some 10, (Op.unOp UnOp.not 4 (Operand.tmp 9)), none⟩])
 (.cond (Operand.tmp 10) (.seq (.reg [⟨some 6, (Op.assign (Operand.const (Value.int IntKind.i64 4))), none⟩])
 .ret) .skip))
 (.seq (.reg [⟨some 11, (Op.load 24 (Operand.tmp 3)), none⟩,
  ⟨some 12, (Op.load 33 (Operand.tmp 4)), none⟩,
  ⟨some 13, (Op.load 39 (Operand.tmp 5)), none⟩,
  ⟨some 14, (Op.call { callee := (Callee.value (Operand.func 62)), args := #[(Operand.tmp 11), (Operand.tmp 12), (Operand.tmp 13)], argTypes := #[24, 33, 39] }), none⟩,
  ⟨some 15, (Op.unOp UnOp.not 4 (Operand.tmp 14)), none⟩,
  ⟨some 16, (Op.call { callee := (Callee.value (Operand.func 63)), args := #[(Operand.tmp 15)], argTypes := #[4] }), none⟩,
  ⟨some 17, (Op.binOp BinOp.mul 3 (Operand.const (Value.int IntKind.i64 28)) (Operand.tmp 16) 3), none⟩,
  ⟨some 6, (Op.assign (Operand.tmp 17)), none⟩])
 .ret)))
theorem fn37 : FnFact Try.prog 37 18 [] [(ResultVar.tmp 6)] cd37 := ⟨by kernel_rfl, ⟨Try.f37, Try.func37, by kernel_rfl, by rfl, Try.ntmps37, congrArg Array.toList Try.results37⟩⟩
/-- examiner/examinerref36.Act -/
def cd38 : CC := (.seq (.reg [⟨some 3, (Op.box 24 (Operand.tmp 0)), none⟩,
  ⟨some 4, (Op.box 33 (Operand.tmp 1)), none⟩,
  ⟨some 5, (Op.box 39 (Operand.tmp 2)), none⟩,
  ⟨some 6, (Op.alloc 33), none⟩])
 (.seq (.reg [⟨some 9, (Op.load 33 (Operand.tmp 4)), none⟩,
  ⟨some 10, (Op.call { callee := (Callee.value (Operand.func 17)), args := #[(Operand.tmp 9)], argTypes := #[33] }), none⟩,
  ⟨none, (Op.store 33 (Operand.tmp 4) (Operand.tmp 10)), none⟩])
 (.seq (.seq (.reg [⟨some 11, (Op.fieldAddr 39 (Operand.tmp 5) 0), none⟩,
  ⟨some 12, (Op.load 3 (Operand.tmp 11)), none⟩])
 (.block 0 (.seq (.reg [⟨some 14, (Op.binOp BinOp.eql 3 (Operand.tmp 12) (Operand.const (Value.int IntKind.i64 0)) 3), none⟩,
  ⟨some 13, (Op.assign (Operand.tmp 14)), none⟩])
 (.cond (Operand.tmp 13) (.seq (.dr [⟨0, .F, ⟨some 15, (Op.fieldAddr 33 (Operand.tmp 4) 0), none⟩, [], false⟩,
  ⟨1, .R, ⟨some 16, (Op.load 29 (Operand.tmp 15)), none⟩, [], false⟩,
  ⟨2, .F, ⟨some 17, (Op.fieldAddr 39 (Operand.tmp 5) 1), none⟩, [], false⟩,
  ⟨3, .R, ⟨some 18, (Op.load 3 (Operand.tmp 17)), none⟩, [], false⟩,
  ⟨4, .F, ⟨some 19, (Op.fieldAddr 33 (Operand.tmp 4) 0), none⟩, [], false⟩,
  ⟨5, .R, ⟨some 20, (Op.load 29 (Operand.tmp 19)), none⟩, [], false⟩,
  ⟨6, .F, ⟨some 21, (Op.fieldAddr 39 (Operand.tmp 5) 1), none⟩, [], false⟩,
  ⟨7, .R, ⟨some 22, (Op.load 3 (Operand.tmp 21)), none⟩, [], false⟩,
  ⟨8, .F, ⟨some 23, (Op.indexAddr 29 (Operand.tmp 20) (Operand.tmp 22)), none⟩, [], false⟩,
  ⟨9, .F, ⟨some 24, (Op.fieldAddr 68 (Operand.tmp 23) 0), none⟩, [], false⟩,
  ⟨10, .R, ⟨some 25, (Op.load 3 (Operand.tmp 24)), none⟩, [], false⟩,
  ⟨11, .F, ⟨some 26, (Op.binOp BinOp.add 3 (Operand.tmp 25) (Operand.const (Value.int IntKind.i64 1)) 3), none⟩, [], false⟩,
  ⟨12, .F, ⟨some 27, (Op.indexAddr 29 (Operand.tmp 16) (Operand.tmp 18)), none⟩, [], false⟩,
  ⟨13, .F, ⟨some 28, (Op.fieldAddr 68 (Operand.tmp 27) 0), none⟩, [], false⟩,
  ⟨14, .E, ⟨none, (Op.store 3 (Operand.tmp 28) (Operand.tmp 26)), none⟩, [], false⟩])
 (.dr [⟨0, .F, ⟨some 29, (Op.fieldAddr 33 (Operand.tmp 4) 3), none⟩, [], false⟩,
  ⟨1, .R, ⟨some 30, (Op.load 31 (Operand.tmp 29)), none⟩, [], false⟩,
  ⟨2, .F, ⟨some 31, (Op.fieldAddr 24 (Operand.tmp 3) 1), none⟩, [], false⟩,
  ⟨3, .R, ⟨some 32, (Op.load 22 (Operand.tmp 31)), none⟩, [], false⟩,
  ⟨4, .F, ⟨some 33, (Op.fieldAddr 39 (Operand.tmp 5) 1), none⟩, [], false⟩,
  ⟨5, .R, ⟨some 34, (Op.load 3 (Operand.tmp 33)), none⟩, [], false⟩,
  ⟨6, .F, ⟨some 35, (Op.indexAddr 22 (Operand.tmp 32) (Operand.tmp 34)), none⟩, [], false⟩,
  ⟨7, .R, ⟨some 36, (Op.load 3 (Operand.tmp 35)), none⟩, [], false⟩,
  ⟨8, .F, ⟨some 37, (Op.fieldAddr 39 (Operand.tmp 5) 1), none⟩, [], false⟩,
  ⟨9, .R, ⟨some 38, (Op.load 3 (Operand.tmp 37)), none⟩, [], false⟩,
  ⟨10, .F, ⟨some 39, (Op.build 92 #[(0, (Operand.const (Value.int IntKind.i64 0))), (1, (Operand.tmp 36)), (2, (Operand.tmp 38))]), none⟩, [], false⟩,
  ⟨11, .E, ⟨some 40, (Op.call { callee := (Callee.value (Operand.func 64)), args := #[(Operand.tmp 30), (Operand.tmp 39)], argTypes := #[31, 92] }), none⟩, [], false⟩,
  ⟨12, .F, ⟨some 41, (Op.fieldAddr 33 (Operand.tmp 4) 3), none⟩, [], false⟩,
  ⟨13, .E, ⟨none, (Op.store 31 (Operand.tmp 41) (Operand.tmp 40)), none⟩, [], false⟩])) (.seq (.reg [⟨some 43, (Op.binOp BinOp.eql 3 (Operand.tmp 12) (Operand.const (Value.int IntKind.i64 1)) 3), none⟩,
  ⟨some 42, (Op.assign (Operand.tmp 43)), none⟩])
 (.cond (Operand.tmp 42) (.seq (.reg [⟨some 44, (Op.load 24 (Operand.tmp 3)), none⟩,
  ⟨some 45, (Op.load 33 (Operand.tmp 4)), none⟩,
  ⟨some 46, (Op.fieldAddr 39 (Operand.tmp 5) 1), none⟩,
  ⟨some 47, (Op.load 3 (Operand.tmp 46)), none⟩,
  ⟨some 48, (Op.call { callee := (Callee.value (Operand.func 65)), args := #[(Operand.tmp 44), (Operand.tmp 45), (Operand.tmp 47)], argTypes := #[24, 33, 3] }), none⟩,
  ⟨none, (Op.store 33 (Operand.tmp 6) (Operand.tmp 48)), none⟩])
 .ret) (.seq (.reg [⟨some 50, (Op.binOp BinOp.eql 3 (Operand.tmp 12) (Operand.const (Value.int IntKind.i64 2)) 3), none⟩,
  ⟨some 49, (Op.assign (Operand.tmp 50)), none⟩])
 (.cond (Operand.tmp 49) (.reg [⟨some 51, (Op.fieldAddr 33 (Operand.tmp 4) 3), none⟩,
  ⟨some 52, (Op.load 31 (Operand.tmp 51)), none⟩,
  ⟨some 53, (Op.fieldAddr 39 (Operand.tmp 5) 1), none⟩,
  ⟨some 54, (Op.load 3 (Operand.tmp 53)), none⟩,
  ⟨some 55, (Op.call { callee := (Callee.value (Operand.func 66)), args := #[(Operand.tmp 52), (Operand.tmp 54)], argTypes := #[31, 3] }), none⟩,
  ⟨some 56, (Op.fieldAddr 33 (Operand.tmp 4) 3), none⟩,
  ⟨none, (Op.store 31 (Operand.tmp 56) (Operand.tmp 55)), none⟩]) (.seq (.reg [⟨some 58, (Op.binOp BinOp.eql 3 (Operand.tmp 12) (Operand.const (Value.int IntKind.i64 3)) 3), none⟩,
  ⟨some 57, (Op.assign (Operand.tmp 58)), none⟩])
 (.cond (Operand.tmp 57) (.dr [⟨0, .F, ⟨some 59, (Op.fieldAddr 33 (Operand.tmp 4) 3), none⟩, [], false⟩,
  ⟨1, .R, ⟨some 60, (Op.load 31 (Operand.tmp 59)), none⟩, [], false⟩,
  ⟨2, .F, ⟨some 61, (Op.fieldAddr 33 (Operand.tmp 4) 3), none⟩, [], false⟩,
  ⟨3, .R, ⟨some 62, (Op.load 31 (Operand.tmp 61)), none⟩, [], false⟩,
  ⟨4, .F, ⟨some 63, (Op.fieldAddr 39 (Operand.tmp 5) 1), none⟩, [], false⟩,
  ⟨5, .R, ⟨some 64, (Op.load 3 (Operand.tmp 63)), none⟩, [], false⟩,
  ⟨6, .F, ⟨some 65, (Op.indexAddr 31 (Operand.tmp 62) (Operand.tmp 64)), none⟩, [], false⟩,
  ⟨7, .R, ⟨some 66, (Op.load 92 (Operand.tmp 65)), none⟩, [], false⟩,
  ⟨8, .E, ⟨some 67, (Op.call { callee := (Callee.value (Operand.func 64)), args := #[(Operand.tmp 60), (Operand.tmp 66)], argTypes := #[31, 92] }), none⟩, [], false⟩,
  ⟨9, .F, ⟨some 68, (Op.fieldAddr 33 (Operand.tmp 4) 3), none⟩, [], false⟩,
  ⟨10, .E, ⟨none, (Op.store 31 (Operand.tmp 68) (Operand.tmp 67)), none⟩, [], false⟩]) (.seq (.seq (.reg [⟨some 70, (Op.binOp BinOp.eql 3 (Operand.tmp 12) (Operand.const (Value.int IntKind.i64 4)) 3), none⟩,
  ⟨some 69, (Op.assign (Operand.tmp 70)), none⟩])
 (.cond (Operand.tmp 69) .skip (.reg [⟨some 71, (Op.binOp BinOp.eql 3 (Operand.tmp 12) (Operand.const (Value.int IntKind.i64 5)) 3), none⟩,
  ⟨some 69, (Op.assign (Operand.tmp 71)), none⟩])))
 (.cond (Operand.tmp 69) (.seq (.reg [⟨some 72, (Op.fieldAddr 24 (Operand.tmp 3) 1), none⟩,
  ⟨some 73, (Op.load 22 (Operand.tmp 72)), none⟩,
  ⟨some 74, (Op.fieldAddr 39 (Operand.tmp 5) 1), none⟩,
  ⟨some 75, (Op.load 3 (Operand.tmp 74)), none⟩,
  ⟨some 76, (Op.indexAddr 22 (Operand.tmp 73) (Operand.tmp 75)), none⟩,
  ⟨some 77, (Op.load 3 (Operand.tmp 76)), none⟩,
  ⟨some 7, (Op.assign (Operand.tmp 77)), none⟩])
 (.seq (.dr [⟨0, .F, ⟨some 78, (Op.fieldAddr 33 (Operand.tmp 4) 2), none⟩, [], false⟩,
  ⟨1, .R, ⟨some 79, (Op.load 30 (Operand.tmp 78)), none⟩, [], false⟩,
  ⟨2, .F, ⟨some 80, (Op.move (Operand.tmp 7)), none⟩, [], false⟩,
  ⟨3, .F, ⟨some 81, (Op.indexAddr 30 (Operand.tmp 79) (Operand.tmp 80)), none⟩, [], false⟩,
  ⟨4, .F, ⟨some 82, (Op.fieldAddr 80 (Operand.tmp 81) 1), none⟩, [], false⟩,
  ⟨5, .R, ⟨some 83, (Op.load 78 (Operand.tmp 82)), none⟩, [], false⟩,
  ⟨6, .R, ⟨some 84, (Op.load 24 (Operand.tmp 3)), none⟩, [], false⟩,
  ⟨7, .R, ⟨some 85, (Op.load 33 (Operand.tmp 4)), none⟩, [], false⟩,
  ⟨8, .F, ⟨some 86, (Op.fieldAddr 39 (Operand.tmp 5) 1), none⟩, [], false⟩,
  ⟨9, .R, ⟨some 87, (Op.load 3 (Operand.tmp 86)), none⟩, [], false⟩,
  ⟨10, .E, ⟨some 88, (Op.call { callee := (Callee.value (Operand.func 67)), args := #[(Operand.tmp 84), (Operand.tmp 85), (Operand.tmp 87)], argTypes := #[24, 33, 3] }), none⟩, [], true⟩,
  ⟨11, .F, ⟨some 89, (Op.indexAddr 78 (Operand.tmp 83) (Operand.tmp 88)), none⟩, [], false⟩,
  ⟨12, .F, ⟨some 8, (Op.assign (Operand.tmp 89)), none⟩, [], false⟩])
 (.seq (.dr [⟨0, .F, ⟨some 90, (Op.move (Operand.tmp 8)), none⟩, [], false⟩,
  ⟨1, .F, ⟨some 91, (Op.move (Operand.tmp 8)), none⟩, [], false⟩,
  ⟨2, .F, ⟨some 92, (Op.move (Operand.tmp 8)), none⟩, [], false⟩,
  ⟨3, .F, ⟨some 93, (Op.fieldAddr 24 (Operand.tmp 3) 2), none⟩, [], false⟩,
  ⟨4, .R, ⟨some 94, (Op.load 22 (Operand.tmp 93)), none⟩, [], false⟩,
  ⟨5, .F, ⟨some 95, (Op.fieldAddr 39 (Operand.tmp 5) 1), none⟩, [], false⟩,
  ⟨6, .R, ⟨some 96, (Op.load 3 (Operand.tmp 95)), none⟩, [], false⟩,
  ⟨7, .F, ⟨some 97, (Op.indexAddr 22 (Operand.tmp 94) (Operand.tmp 96)), none⟩, [], false⟩,
  ⟨8, .R, ⟨some 98, (Op.load 3 (Operand.tmp 97)), none⟩, [], false⟩,
  ⟨9, .F, ⟨some 99, (Op.move (Operand.tmp 8)), none⟩, [], false⟩,
  ⟨10, .F, ⟨some 100, (Op.nilCheck (Operand.tmp 99)), none⟩, [], false⟩,
  ⟨11, .F, ⟨some 101, (Op.fieldAddr 90 (Operand.tmp 100) 4), none⟩, [], false⟩,
  ⟨12, .R, ⟨some 102, (Op.load 3 (Operand.tmp 101)), none⟩, [], false⟩,
  ⟨13, .F, ⟨some 103, (Op.binOp BinOp.add 3 (Operand.tmp 102) (Operand.const (Value.int IntKind.i64 1)) 3), none⟩, [], false⟩,
  ⟨14, .F, ⟨some 104, (Op.nilCheck (Operand.tmp 90)), none⟩, [], false⟩,
  ⟨15, .F, ⟨some 105, (Op.fieldAddr 90 (Operand.tmp 104) 1), none⟩, [], false⟩,
  ⟨16, .E, ⟨none, (Op.store 4 (Operand.tmp 105) (Operand.const (Value.bool true))), none⟩, [], false⟩,
  ⟨17, .F, ⟨some 106, (Op.nilCheck (Operand.tmp 91)), none⟩, [], false⟩,
  ⟨18, .F, ⟨some 107, (Op.fieldAddr 90 (Operand.tmp 106) 3), none⟩, [], false⟩,
  ⟨19, .E, ⟨none, (Op.store 3 (Operand.tmp 107) (Operand.tmp 98)), none⟩, [], false⟩,
  ⟨20, .F, ⟨some 108, (Op.nilCheck (Operand.tmp 92)), none⟩, [], false⟩,
  ⟨21, .F, ⟨some 109, (Op.fieldAddr 90 (Operand.tmp 108) 4), none⟩, [], false⟩,
  ⟨22, .E, ⟨none, (Op.store 3 (Operand.tmp 109) (Operand.tmp 103)), none⟩, [], false⟩])
 (.dr [⟨0, .F, ⟨some 110, (Op.fieldAddr 33 (Operand.tmp 4) 3), none⟩, [], false⟩,
  ⟨1, .R, ⟨some 111, (Op.load 31 (Operand.tmp 110)), none⟩, [], false⟩,
  ⟨2, .F, ⟨some 112, (Op.move (Operand.tmp 7)), none⟩, [], false⟩,
  ⟨3, .F, ⟨some 113, (Op.fieldAddr 39 (Operand.tmp 5) 1), none⟩, [], false⟩,
  ⟨4, .R, ⟨some 114, (Op.load 3 (Operand.tmp 113)), none⟩, [], false⟩,
  ⟨5, .F, ⟨some 115, (Op.fieldAddr 24 (Operand.tmp 3) 2), none⟩, [], false⟩,
  ⟨6, .R, ⟨some 116, (Op.load 22 (Operand.tmp 115)), none⟩, [], false⟩,
  ⟨7, .F, ⟨some 117, (Op.fieldAddr 39 (Operand.tmp 5) 1), none⟩, [], false⟩,
  ⟨8, .R, ⟨some 118, (Op.load 3 (Operand.tmp 117)), none⟩, [], false⟩,
  ⟨9, .F, ⟨some 119, (Op.indexAddr 22 (Operand.tmp 116) (Operand.tmp 118)), none⟩, [], false⟩,
  ⟨10, .R, ⟨some 120, (Op.load 3 (Operand.tmp 119)), none⟩, [], false⟩,
  ⟨11, .F, ⟨some 121, (Op.build 92 #[(0, (Operand.const (Value.int IntKind.i64 2))), (1, (Operand.tmp 112)), (2, (Operand.tmp 114)), (3, (Operand.tmp 120))]), none⟩, [], false⟩,
  ⟨12, .E, ⟨some 122, (Op.call { callee := (Callee.value (Operand.func 64)), args := #[(Operand.tmp 111), (Operand.tmp 121)], argTypes := #[31, 92] }), none⟩, [], false⟩,
  ⟨13, .F, ⟨some 123, (Op.fieldAddr 33 (Operand.tmp 4) 3), none⟩, [], false⟩,
  ⟨14, .E, ⟨none, (Op.store 31 (Operand.tmp 123) (Operand.tmp 122)), none⟩, [], false⟩])))) (.seq (.reg [⟨some 125, (Op.binOp BinOp.eql 3 (Operand.tmp 12) (Operand.const (Value.int IntKind.i64 6)) 3), none⟩,
  ⟨some 124, (Op.assign (Operand.tmp 125)), none⟩])
 (.cond (Operand.tmp 124) (.reg [⟨some 126, (Op.fieldAddr 33 (Operand.tmp 4) 2), none⟩,
  ⟨some 127, (Op.load 30 (Operand.tmp 126)), none⟩,
  ⟨some 128, (Op.fieldAddr 39 (Operand.tmp 5) 1), none⟩,
  ⟨some 129, (Op.load 3 (Operand.tmp 128)), none⟩,
  ⟨some 130, (Op.indexAddr 30 (Operand.tmp 127) (Operand.tmp 129)), none⟩,
  ⟨some 131, (Op.fieldAddr 80 (Operand.tmp 130) 0), none⟩,
  ⟨none, (Op.store 4 (Operand.tmp 131) (Operand.const (Value.bool true))), none⟩]) (.seq (.reg [⟨some 133, (Op.binOp BinOp.eql 3 (Operand.tmp 12) (Operand.const (Value.int IntKind.i64 7)) 3), none⟩,
  ⟨some 132, (Op.assign (Operand.tmp 133)), none⟩])
 (.cond (Operand.tmp 132) (.seq (.reg [⟨some 134, (Op.load 33 (Operand.tmp 4)), none⟩,
  ⟨some 135, (Op.fieldAddr 39 (Operand.tmp 5) 1), none⟩,
  ⟨some 136, (Op.load 3 (Operand.tmp 135)), none⟩,
  ⟨some 137, (Op.call { callee := (Callee.value (Operand.func 68)), args := #[(Operand.tmp 134), (Operand.tmp 136), (Operand.const (Value.int IntKind.i64 4))], argTypes := #[33, 3, 3] }), none⟩,
  ⟨none, (Op.store 33 (Operand.tmp 6) (Operand.tmp 137)), none⟩])
 .ret) .skip))))))))))))))))
 (.seq (.reg [⟨some 138, (Op.load 33 (Operand.tmp 4)), none⟩,
  ⟨none, (Op.store 33 (Operand.tmp 6) (Operand.tmp 138)), none⟩])
 .ret))))
theorem fn38 : FnFact Try.prog 38 139 [(4, [(0, 0), (1, 3), (2, 0), (3, 3), (4, 0), (5, 3), (6, 0), (7, 3), (8, 0), (9, 0), (10, 3), (11, 0), (12, 0), (13, 0), (14, 2)], [[], [0], [], [2], [], [4], [], [6], [4, 5, 6, 7], [4, 5, 6, 7, 8], [4, 5, 6, 7, 8, 9], [4, 5, 6, 7, 8, 9, 10], [0, 1, 2, 3, 4, 5, 6, 7, 8, 9, 10, 11], [0, 1, 2, 3, 4, 5, 6, 7, 8, 9, 10, 11, 12], [0, 1, 2, 3, 4, 5, 6, 7, 8, 9, 10, 11, 12, 13]]), (5, [(0, 0), (1, 3), (2, 0), (3, 3), (4, 0), (5, 3), (6, 0), (7, 3), (8, 0), (9, 3), (10, 0), (11, 2), (12, 0), (13, 2)], [[], [0], [], [2], [], [4], [2, 3, 4, 5], [2, 3, 4, 5, 6], [], [8], [2, 3, 4, 5, 6, 7, 8, 9], [0, 1, 2, 3, 4, 5, 6, 7, 8, 9, 10], [0, 1, 2, 3, 4, 5, 6, 7, 8, 9, 10, 11], [0, 1, 2, 3, 4, 5, 6, 7, 8, 9, 10, 11, 12]]), (11, [(0, 0), (1, 3), (2, 0), (3, 3), (4, 0), (5, 3), (6, 0), (7, 3), (8, 2), (9, 0), (10, 2)], [[], [0], [], [2], [], [4], [2, 3, 4, 5], [2, 3, 4, 5, 6], [0, 1, 2, 3, 4, 5, 6, 7], [0, 1, 2, 3, 4, 5, 6, 7, 8], [0, 1, 2, 3, 4, 5, 6, 7, 8, 9]]), (15, [(0, 0), (1, 3), (2, 0), (3, 0), (4, 0), (5, 3), (6, 3), (7, 3), (8, 0), (9, 3), (10, 4), (11, 0), (12, 0)], [[], [0], [], [0, 1, 2], [0, 1, 2, 3], [0, 1, 2, 3, 4], [], [], [], [8], [6, 7, 8, 9], [0, 1, 2, 3, 4, 5, 6, 7, 8, 9, 10], [0, 1, 2, 3, 4, 5, 6, 7, 8, 9, 10, 11]]), (16, [(0, 0), (1, 0), (2, 0), (3, 0), (4, 3), (5, 0), (6, 3), (7, 0), (8, 3), (9, 0), (10, 0), (11, 0), (12, 3), (13, 0), (14, 0), (15, 0), (16, 2), (17, 0), (18, 0), (19, 2), (20, 0), (21, 0), (22, 2)], [[], [], [], [], [3], [], [5], [3, 4, 5, 6], [3, 4, 5, 6, 7], [], [9], [9, 10], [9, 10, 11], [9, 10, 11, 12], [0, 3, 4, 5, 6, 7, 8, 9, 10, 11, 12], [0, 3, 4, 5, 6, 7, 8, 9, 10, 11, 12, 14], [0, 3, 4, 5, 6, 7, 8, 9, 10, 11, 12, 14, 15], [0, 1, 3, 4, 5, 6, 7, 8, 9, 10, 11, 12, 14, 15, 16], [0, 1, 3, 4, 5, 6, 7, 8, 9, 10, 11, 12, 14, 15, 16, 17], [0, 1, 3, 4, 5, 6, 7, 8, 9, 10, 11, 12, 14, 15, 16, 17, 18], [0, 1, 2, 3, 4, 5, 6, 7, 8, 9, 10, 11, 12, 13, 14, 15, 16, 17, 18, 19], [0, 1, 2, 3, 4, 5, 6, 7, 8, 9, 10, 11, 12, 13, 14, 15, 16, 17, 18, 19, 20], [0, 1, 2, 3, 4, 5, 6, 7, 8, 9, 10, 11, 12, 13, 14, 15, 16, 17, 18, 19, 20, 21]]), (17, [(0, 0), (1, 3), (2, 0), (3, 0), (4, 3), (5, 0), (6, 3), (7, 0), (8, 3), (9, 0), (10, 3), (11, 0), (12, 2), (13, 0), (14, 2)], [[], [0], [], [], [3], [], [5], [], [7], [5, 6, 7, 8], [5, 6, 7, 8, 9], [2, 3, 4, 5, 6, 7, 8, 9, 10], [0, 1, 2, 3, 4, 5, 6, 7, 8, 9, 10, 11], [0, 1, 2, 3, 4, 5, 6, 7, 8, 9, 10, 11, 12], [0, 1, 2, 3, 4, 5, 6, 7, 8, 9, 10, 11, 12, 13]])] [(ResultVar.cell 6 33)] cd38 := ⟨by kernel_rfl, ⟨Try.f38, Try.func38, by kernel_rfl, by rfl, Try.ntmps38, congrArg Array.toList Try.results38⟩⟩
/-- examiner/examinerlaw36.Single -/
def cd39 : CC := (.seq (.reg [⟨some 0, (Op.alloc 24), none⟩])
 (.seq (.reg [⟨some 1, (Op.buildSlice 22 1 #[(0, (Operand.const (Value.int IntKind.i64 0)))]), none⟩,
  ⟨some 2, (Op.buildSlice 22 1 #[(0, (Operand.const (Value.int IntKind.i64 1)))]), none⟩,
  ⟨some 3, (Op.build 24 #[(0, (Operand.const (Value.int IntKind.i64 1))), (1, (Operand.tmp 1)), (2, (Operand.tmp 2))]), none⟩,
  ⟨none, (Op.store 24 (Operand.tmp 0) (Operand.tmp 3)), none⟩])
 .ret))
theorem fn39 : FnFact Try.prog 39 4 [] [(ResultVar.cell 0 24)] cd39 := ⟨by kernel_rfl, ⟨Try.f39, Try.func39, by kernel_rfl, by rfl, Try.ntmps39, congrArg Array.toList Try.results39⟩⟩
/-- examiner/examinerref36.isVerdict -/
def cd40 : CC := (.seq (.reg [⟨some 2, (Op.assign (Operand.const (Value.bool false))), none⟩])
 (.seq (.reg [⟨some 3, (Op.move (Operand.tmp 0)), none⟩,
  ⟨some 4, (Op.call { callee := (Callee.value (Operand.func 29)), args := #[(Operand.tmp 3), (Operand.const (Value.int IntKind.i64 0)), (Operand.const (Value.int IntKind.i64 4))], argTypes := #[3, 3, 3] }), none⟩,
  ⟨some 2, (Op.assign (Operand.tmp 4)), none⟩])
 .ret))
theorem fn40 : FnFact Try.prog 40 5 [] [(ResultVar.tmp 2)] cd40 := ⟨by kernel_rfl, ⟨Try.f40, Try.func40, by kernel_rfl, by rfl, Try.ntmps40, congrArg Array.toList Try.results40⟩⟩
/-- examiner/hosts.caseErr -/
def cd41 : CC := (.seq (.reg [⟨some 1, (Op.box 24 (Operand.tmp 0)), none⟩,
  ⟨some 2, (Op.assign (Operand.const (Value.int IntKind.i64 0))), none⟩])
 (.seq (.reg [⟨some 6, (Op.load 24 (Operand.tmp 1)), none⟩,
  ⟨some 7, (Op.call { callee := (Callee.value (Operand.func 32)), args := #[(Operand.tmp 6)], argTypes := #[24] }), none⟩,
  ⟨some 5, (Op.move (Operand.tmp 7)), none⟩,
  ⟨some 8, (Op.extract (Operand.tmp 5) 0), none⟩,
  ⟨some 9, (Op.extract (Operand.tmp 5) 1), none⟩,
  ⟨some 3, (Op.assign (Operand.tmp 8)), none⟩,
  ⟨some 4, (Op.assign (Operand.tmp 9)), none⟩])
 (.seq (.reg [⟨some 10, (Op.move (Operand.tmp 4)), none⟩,
  ⟨some 2, (Op.assign (Operand.tmp 10)), none⟩])
 .ret)))
theorem fn41 : FnFact Try.prog 41 11 [] [(ResultVar.tmp 2)] cd41 := ⟨by kernel_rfl, ⟨Try.f41, Try.func41, by kernel_rfl, by rfl, Try.ntmps41, congrArg Array.toList Try.results41⟩⟩
/-- examiner/hosts.start -/
def cd42 : CC := (.seq (.reg [⟨some 1, (Op.box 24 (Operand.tmp 0)), none⟩,
  ⟨some 2, (Op.alloc 33), none⟩])
 (.seq (.dr [⟨0, .F, ⟨some 3, (Op.fieldAddr 24 (Operand.tmp 1) 1), none⟩, [], false⟩,
  ⟨1, .R, ⟨some 4, (Op.load 22 (Operand.tmp 3)), none⟩, [], false⟩,
  ⟨2, .F, ⟨some 5, (Op.call { callee := (Callee.builtin Builtin.len), args := #[(Operand.tmp 4)], argTypes := #[22] }), none⟩, [], false⟩,
  ⟨3, .A, ⟨some 6, (Op.makeSlice 29 (Operand.tmp 5) (Operand.tmp 5)), none⟩, [], false⟩,
  ⟨4, .F, ⟨some 7, (Op.fieldAddr 24 (Operand.tmp 1) 0), none⟩, [], false⟩,
  ⟨5, .R, ⟨some 8, (Op.load 3 (Operand.tmp 7)), none⟩, [], false⟩,
  ⟨6, .A, ⟨some 9, (Op.makeSlice 30 (Operand.tmp 8) (Operand.tmp 8)), none⟩, [], false⟩,
  ⟨7, .F, ⟨some 10, (Op.build 33 #[(0, (Operand.tmp 6)), (2, (Operand.tmp 9))]), none⟩, [], false⟩,
  ⟨8, .E, ⟨none, (Op.store 33 (Operand.tmp 2) (Operand.tmp 10)), none⟩, [3, 6], false⟩])
 .ret))
theorem fn42 : FnFact Try.prog 42 11 [(1, [(0, 0), (1, 3), (2, 0), (3, 1), (4, 0), (5, 3), (6, 1), (7, 0), (8, 2)], [[], [0], [0, 1], [0, 1, 2], [], [4], [4, 5], [0, 1, 2, 3, 4, 5, 6], [0, 1, 2, 3, 4, 5, 6, 7]])] [(ResultVar.cell 2 33)] cd42 := ⟨by kernel_rfl, ⟨Try.f42, Try.func42, by kernel_rfl, by rfl, Try.ntmps42, congrArg Array.toList Try.results42⟩⟩
/-- examiner/examinerbase.OwnInts -/
def cd43 : CC := (.seq (.reg [⟨some 2, (Op.assign (Operand.const (Value.slice none 0 0))), none⟩])
 (.seq (.reg [⟨some 3, (Op.buildSlice 22 0 #[]), none⟩,
  ⟨some 4, (Op.move (Operand.tmp 0)), none⟩,
  ⟨some 5, (Op.call { callee := (Callee.builtin Builtin.append), args := #[(Operand.tmp 3), (Operand.tmp 4)], argTypes := #[22, 22] }), none⟩,
  ⟨some 2, (Op.assign (Operand.tmp 5)), none⟩])
 .ret))
theorem fn43 : FnFact Try.prog 43 6 [] [(ResultVar.tmp 2)] cd43 := ⟨by kernel_rfl, ⟨Try.f43, Try.func43, by kernel_rfl, by rfl, Try.ntmps43, congrArg Array.toList Try.results43⟩⟩
/-- examiner/hosts.stateErr -/
def cd44 : CC := (.seq (.reg [⟨some 2, (Op.box 24 (Operand.tmp 0)), none⟩,
  ⟨some 3, (Op.box 33 (Operand.tmp 1)), none⟩,
  ⟨some 4, (Op.assign (Operand.const (Value.int IntKind.i64 0))), none⟩])
 (.seq (.reg [⟨some 8, (Op.load 24 (Operand.tmp 2)), none⟩,
  ⟨some 9, (Op.load 33 (Operand.tmp 3)), none⟩,
  ⟨some 10, (Op.call { callee := (Callee.value (Operand.func 34)), args := #[(Operand.tmp 8), (Operand.tmp 9)], argTypes := #[24, 33] }), none⟩,
  ⟨some 7, (Op.move (Operand.tmp 10)), none⟩,
  ⟨some 11, (Op.extract (Operand.tmp 7) 0), none⟩,
  ⟨some 12, (Op.extract (Operand.tmp 7) 1), none⟩,
  ⟨some 5, (Op.assign (Operand.tmp 11)), none⟩,
  ⟨some 6, (Op.assign (Operand.tmp 12)), none⟩])
 (.seq (.reg [⟨some 13, (Op.move (Operand.tmp 6)), none⟩,
  ⟨some 4, (Op.assign (Operand.tmp 13)), none⟩])
 .ret)))
theorem fn44 : FnFact Try.prog 44 14 [] [(ResultVar.tmp 4)] cd44 := ⟨by kernel_rfl, ⟨Try.f44, Try.func44, by kernel_rfl, by rfl, Try.ntmps44, congrArg Array.toList Try.results44⟩⟩
/-- examiner/hosts.actErr -/
def cd45 : CC := (.seq (.reg [⟨some 3, (Op.box 24 (Operand.tmp 0)), none⟩,
  ⟨some 4, (Op.box 33 (Operand.tmp 1)), none⟩,
  ⟨some 5, (Op.box 39 (Operand.tmp 2)), none⟩,
  ⟨some 6, (Op.assign (Operand.const (Value.int IntKind.i64 0))), none⟩])
 (.seq (.block 0 (.seq (.reg [⟨some 8, (Op.fieldAddr 39 (Operand.tmp 5) 0), none⟩,
  ⟨some 9, (Op.load 3 (Operand.tmp 8)), none⟩,
  ⟨some 10, (Op.call { callee := (Callee.value (Operand.func 54)), args := #[(Operand.tmp 9), (Operand.const (Value.int IntKind.i64 0)), (Operand.const (Value.int IntKind.i64 7))], argTypes := #[3, 3, 3] }), none⟩,
  ⟨some 11, (Op.unOp UnOp.not 4 (Operand.tmp 10)), none⟩,
  ⟨some 7, (Op.assign (Operand.tmp 11)), none⟩])
 (.cond (Operand.tmp 7) (.seq (.reg [⟨some 6, (Op.assign (Operand.const (Value.int IntKind.i64 4))), none⟩])
 .ret) (.seq (.reg [⟨some 13, (Op.load 24 (Operand.tmp 3)), none⟩,
  ⟨some 14, (Op.load 33 (Operand.tmp 4)), none⟩,
  ⟨some 15, (Op.load 39 (Operand.tmp 5)), none⟩,
  ⟨some 16, (Op.call { callee := (Callee.value (Operand.func 50)), args := #[(Operand.tmp 13), (Operand.tmp 14), (Operand.tmp 15)], argTypes := #[24, 33, 39] }), none⟩,
  ⟨some 17, (Op.unOp UnOp.not 4 (Operand.tmp 16)), none⟩,
  ⟨some 12, (Op.assign (Operand.tmp 17)), none⟩])
 (.cond (Operand.tmp 12) (.seq (.reg [⟨some 6, (Op.assign (Operand.const (Value.int IntKind.i64 28))), none⟩])
 .ret) .skip)))))
 (.seq (.reg [⟨some 6, (Op.assign (Operand.const (Value.int IntKind.i64 0))), none⟩])
 .ret)))
theorem fn45 : FnFact Try.prog 45 18 [] [(ResultVar.tmp 6)] cd45 := ⟨by kernel_rfl, ⟨Try.f45, Try.func45, by kernel_rfl, by rfl, Try.ntmps45, congrArg Array.toList Try.results45⟩⟩
/-- examiner/hosts.own -/
def cd46 : CC := (.seq (.reg [⟨some 1, (Op.box 33 (Operand.tmp 0)), none⟩,
  ⟨some 2, (Op.alloc 33), none⟩])
 (.seq (.dr [⟨0, .F, ⟨some 4, (Op.fieldAddr 33 (Operand.tmp 1) 0), none⟩, [], false⟩,
  ⟨1, .R, ⟨some 5, (Op.load 29 (Operand.tmp 4)), none⟩, [], false⟩,
  ⟨3, .F, ⟨some 7, (Op.fieldAddr 33 (Operand.tmp 1) 2), none⟩, [], false⟩,
  ⟨4, .R, ⟨some 8, (Op.load 30 (Operand.tmp 7)), none⟩, [], false⟩,
  ⟨6, .F, ⟨some 10, (Op.fieldAddr 33 (Operand.tmp 1) 3), none⟩, [], false⟩,
  ⟨7, .R, ⟨some 11, (Op.load 31 (Operand.tmp 10)), none⟩, [], false⟩,
  ⟨2, .E, ⟨some 6, (Op.call { callee := (Callee.value (Operand.func 69)), args := #[(Operand.tmp 5)], argTypes := #[29] }), none⟩, [], true⟩,
  ⟨9, .F, ⟨some 13, (Op.fieldAddr 33 (Operand.tmp 1) 0), none⟩, [], false⟩,
  ⟨5, .E, ⟨some 9, (Op.call { callee := (Callee.value (Operand.func 70)), args := #[(Operand.tmp 8)], argTypes := #[30] }), none⟩, [], true⟩,
  ⟨8, .E, ⟨some 12, (Op.call { callee := (Callee.value (Operand.func 71)), args := #[(Operand.tmp 11)], argTypes := #[31] }), none⟩, [], false⟩,
  ⟨10, .E, ⟨none, (Op.store 29 (Operand.tmp 13) (Operand.tmp 6)), none⟩, [], false⟩,
  ⟨11, .F, ⟨some 14, (Op.fieldAddr 33 (Operand.tmp 1) 2), none⟩, [], false⟩,
  ⟨12, .E, ⟨none, (Op.store 30 (Operand.tmp 14) (Operand.tmp 9)), none⟩, [], false⟩,
  ⟨13, .F, ⟨some 15, (Op.fieldAddr 33 (Operand.tmp 1) 3), none⟩, [], false⟩,
  ⟨14, .E, ⟨none, (Op.store 31 (Operand.tmp 15) (Operand.tmp 12)), none⟩, [], false⟩])
 (.seq (.seq (.reg [⟨some 16, (Op.fieldAddr 33 (Operand.tmp 1) 2), none⟩,
  ⟨some 17, (Op.load 30 (Operand.tmp 16)), none⟩,
  ⟨some 18, (Op.call { callee := (Callee.builtin Builtin.len), args := #[(Operand.tmp 17)], argTypes := #[30] }), none⟩,
  ⟨some 19, (Op.move (Operand.const (Value.int IntKind.i64 0))), none⟩])
 (.block 0 (.loop (.seq (.reg [⟨some 20, (Op.binOp BinOp.lss 3 (Operand.tmp 19) (Operand.tmp 18) 3), none⟩])
 (.seq (.cond (Operand.tmp 20) .skip (.exit 0))
 (.seq (.block 1 (.seq (.reg [⟨some 21, (Op.move (Operand.tmp 19)), none⟩,
  ⟨some 3, (Op.assign (Operand.tmp 21)), none⟩])
 (.dr [⟨0, .F, ⟨some 22, (Op.fieldAddr 33 (Operand.tmp 1) 2), none⟩, [], false⟩,
  ⟨1, .R, ⟨some 23, (Op.load 30 (Operand.tmp 22)), none⟩, [], false⟩,
  ⟨2, .F, ⟨some 24, (Op.move (Operand.tmp 3)), none⟩, [], false⟩,
  ⟨3, .F, ⟨some 25, (Op.fieldAddr 33 (Operand.tmp 1) 2), none⟩, [], false⟩,
  ⟨4, .R, ⟨some 26, (Op.load 30 (Operand.tmp 25)), none⟩, [], false⟩,
  ⟨5, .F, ⟨some 27, (Op.move (Operand.tmp 3)), none⟩, [], false⟩,
  ⟨6, .F, ⟨some 28, (Op.indexAddr 30 (Operand.tmp 26) (Operand.tmp 27)), none⟩, [], false⟩,
  ⟨7, .F, ⟨some 29, (Op.fieldAddr 80 (Operand.tmp 28) 1), none⟩, [], false⟩,
  ⟨8, .R, ⟨some 30, (Op.load 78 (Operand.tmp 29)), none⟩, [], false⟩,
  ⟨9, .E, ⟨some 31, (Op.call { callee := (Callee.value (Operand.func 72)), args := #[(Operand.tmp 30)], argTypes := #[78] }), none⟩, [], true⟩,
  ⟨10, .F, ⟨some 32, (Op.indexAddr 30 (Operand.tmp 23) (Operand.tmp 24)), none⟩, [], false⟩,
  ⟨11, .F, ⟨some 33, (Op.fieldAddr 80 (Operand.tmp 32) 1), none⟩, [], false⟩,
  ⟨12, .E, ⟨none, (Op.store 78 (Operand.tmp 33) (Operand.tmp 31)), none⟩, [], false⟩])))
 (.reg [⟨some 34, (Op.binOp BinOp.add 3 (Operand.tmp 19) (Operand.const (Value.int IntKind.i64 1)) 3), none⟩,
  ⟨some 19, (Op.move (Operand.tmp 34)), none⟩])))))))
 (.seq (.reg [⟨some 35, (Op.load 33 (Operand.tmp 1)), none⟩,
  ⟨none, (Op.store 33 (Operand.tmp 2) (Operand.tmp 35)), none⟩])
 .ret))))
theorem fn46 : FnFact Try.prog 46 36 [(1, [(0, 0), (1, 3), (3, 0), (4, 3), (6, 0), (7, 3), (2, 4), (9, 0), (5, 4), (8, 2), (10, 2), (11, 0), (12, 2), (13, 0), (14, 2)], [[], [0], [0, 1], [], [3], [0, 1, 2, 3, 4], [], [6], [0, 1, 2, 3, 4, 5, 6, 7], [0, 1, 2, 3, 4, 6, 7], [0, 1, 2, 3, 4, 5, 6, 7, 8, 9], [0, 1, 2, 3, 4, 5, 6, 7, 8, 9, 10], [0, 1, 2, 3, 4, 5, 6, 7, 8, 9, 10, 11], [0, 1, 2, 3, 4, 5, 6, 7, 8, 9, 10, 11, 12], [0, 1, 2, 3, 4, 5, 6, 7, 8, 9, 10, 11, 12, 13]]), (5, [(0, 0), (1, 3), (2, 0), (3, 0), (4, 3), (5, 0), (6, 0), (7, 0), (8, 3), (9, 4), (10, 0), (11, 0), (12, 2)], [[], [0], [], [], [3], [], [3, 4, 5], [3, 4, 5, 6], [3, 4, 5, 6, 7], [3, 4, 5, 6, 7, 8], [0, 1, 2, 3, 4, 5, 6, 7, 8, 9], [0, 1, 2, 3, 4, 5, 6, 7, 8, 9, 10], [0, 1, 2, 3, 4, 5, 6, 7, 8, 9, 10, 11]])] [(ResultVar.cell 2 33)] cd46 := ⟨by kernel_rfl, ⟨Try.f46, Try.func46, by kernel_rfl, by rfl, Try.ntmps46, congrArg Array.toList Try.results46⟩⟩
/-- (*examiner/hosts.run).act -/
def cd47 : CC := (.seq (.reg [⟨some 3, (Op.box 39 (Operand.tmp 1)), none⟩])
 (.seq (.reg [⟨some 6, (Op.fieldAddr 39 (Operand.tmp 3) 0), none⟩,
  ⟨some 7, (Op.load 3 (Operand.tmp 6)), none⟩])
 (.block 0 (.seq (.reg [⟨some 9, (Op.binOp BinOp.eql 3 (Operand.tmp 7) (Operand.const (Value.int IntKind.i64 0)) 3), none⟩,
  ⟨some 8, (Op.assign (Operand.tmp 9)), none⟩])
 (.cond (Operand.tmp 8) (.seq (.dr [⟨0, .F, ⟨some 10, (Op.move (Operand.tmp 0)), none⟩, [], false⟩,
  ⟨1, .F, ⟨some 11, (Op.nilCheck (Operand.tmp 10)), none⟩, [], false⟩,
  ⟨2, .F, ⟨some 12, (Op.fieldAddr 85 (Operand.tmp 11) 1), none⟩, [], false⟩,
  ⟨3, .F, ⟨some 13, (Op.fieldAddr 33 (Operand.tmp 12) 0), none⟩, [], false⟩,
  ⟨4, .R, ⟨some 14, (Op.load 29 (Operand.tmp 13)), none⟩, [], false⟩,
  ⟨5, .F, ⟨some 15, (Op.fieldAddr 39 (Operand.tmp 3) 1), none⟩, [], false⟩,
  ⟨6, .R, ⟨some 16, (Op.load 3 (Operand.tmp 15)), none⟩, [], false⟩,
  ⟨7, .F, ⟨some 17, (Op.indexAddr 29 (Operand.tmp 14) (Operand.tmp 16)), none⟩, [], false⟩,
  ⟨8, .F, ⟨some 18, (Op.fieldAddr 68 (Operand.tmp 17) 0), none⟩, [], false⟩,
  ⟨9, .R, ⟨some 19, (Op.load 3 (Operand.tmp 18)), none⟩, [], false⟩,
  ⟨10, .F, ⟨some 20, (Op.binOp BinOp.add 3 (Operand.tmp 19) (Operand.const (Value.int IntKind.i64 1)) 3), none⟩, [], false⟩,
  ⟨11, .F, ⟨some 21, (Op.indexAddr 29 (Operand.tmp 14) (Operand.tmp 16)), none⟩, [], false⟩,
  ⟨12, .F, ⟨some 22, (Op.fieldAddr 68 (Operand.tmp 21) 0), none⟩, [], false⟩,
  ⟨13, .E, ⟨none, (Op.store 3 (Operand.tmp 22) (Operand.tmp 20)), none⟩, [], false⟩])
 (.reg [⟨some 23, (Op.move (Operand.tmp 0)), none⟩,
  ⟨some 24, (Op.fieldAddr 39 (Operand.tmp 3) 1), none⟩,
  ⟨some 25, (Op.load 3 (Operand.tmp 24)), none⟩,
  ⟨some 26, (Op.call { callee := (Callee.value (Operand.func 73)), args := #[(Operand.tmp 23), (Operand.const (Value.int IntKind.i64 0)), (Operand.tmp 25), (Operand.const (Value.int IntKind.i64 0))], argTypes := #[83, 3, 3, 3] }), none⟩])) (.seq (.reg [⟨some 28, (Op.binOp BinOp.eql 3 (Operand.tmp 7) (Operand.const (Value.int IntKind.i64 1)) 3), none⟩,
  ⟨some 27, (Op.assign (Operand.tmp 28)), none⟩])
 (.cond (Operand.tmp 27) (.seq (.dr [⟨0, .F, ⟨some 29, (Op.move (Operand.tmp 0)), none⟩, [], false⟩,
  ⟨1, .F, ⟨some 30, (Op.nilCheck (Operand.tmp 29)), none⟩, [], false⟩,
  ⟨2, .F, ⟨some 31, (Op.fieldAddr 85 (Operand.tmp 30) 1), none⟩, [], false⟩,
  ⟨3, .F, ⟨some 32, (Op.fieldAddr 33 (Operand.tmp 31) 3), none⟩, [], false⟩,
  ⟨4, .R, ⟨some 33, (Op.load 31 (Operand.tmp 32)), none⟩, [], false⟩,
  ⟨5, .F, ⟨some 34, (Op.fieldAddr 39 (Operand.tmp 3) 1), none⟩, [], false⟩,
  ⟨6, .R, ⟨some 35, (Op.load 3 (Operand.tmp 34)), none⟩, [], false⟩,
  ⟨7, .F, ⟨some 36, (Op.indexAddr 31 (Operand.tmp 33) (Operand.tmp 35)), none⟩, [], false⟩,
  ⟨8, .R, ⟨some 37, (Op.load 92 (Operand.tmp 36)), none⟩, [], false⟩,
  ⟨9, .A, ⟨some 4, (Op.alloc 92), none⟩, [], false⟩,
  ⟨10, .E, ⟨none, (Op.store 92 (Operand.tmp 4) (Operand.tmp 37)), none⟩, [9], false⟩])
 (.seq (.dr [⟨0, .F, ⟨some 38, (Op.move (Operand.tmp 0)), none⟩, [], false⟩,
  ⟨1, .F, ⟨some 39, (Op.move (Operand.tmp 0)), none⟩, [], false⟩,
  ⟨2, .F, ⟨some 40, (Op.nilCheck (Operand.tmp 39)), none⟩, [], false⟩,
  ⟨3, .F, ⟨some 41, (Op.fieldAddr 85 (Operand.tmp 40) 1), none⟩, [], false⟩,
  ⟨4, .F, ⟨some 42, (Op.fieldAddr 33 (Operand.tmp 41) 3), none⟩, [], false⟩,
  ⟨5, .R, ⟨some 43, (Op.load 31 (Operand.tmp 42)), none⟩, [], false⟩,
  ⟨6, .F, ⟨some 44, (Op.fieldAddr 39 (Operand.tmp 3) 1), none⟩, [], false⟩,
  ⟨7, .R, ⟨some 45, (Op.load 3 (Operand.tmp 44)), none⟩, [], false⟩,
  ⟨8, .F, ⟨some 46, (Op.fieldAddr 39 (Operand.tmp 3) 1), none⟩, [], false⟩,
  ⟨9, .R, ⟨some 47, (Op.load 3 (Operand.tmp 46)), none⟩, [], false⟩,
  ⟨10, .F, ⟨some 48, (Op.binOp BinOp.add 3 (Operand.tmp 47) (Operand.const (Value.int IntKind.i64 1)) 3), none⟩, [], false⟩,
  ⟨11, .E, ⟨some 49, (Op.call { callee := (Callee.value (Operand.func 74)), args := #[(Operand.tmp 43), (Operand.tmp 45), (Operand.tmp 48)], argTypes := #[31, 3, 3] }), none⟩, [], false⟩,
  ⟨12, .F, ⟨some 50, (Op.nilCheck (Operand.tmp 38)), none⟩, [], false⟩,
  ⟨13, .F, ⟨some 51, (Op.fieldAddr 85 (Operand.tmp 50) 1), none⟩, [], false⟩,
  ⟨14, .F, ⟨some 52, (Op.fieldAddr 33 (Operand.tmp 51) 3), none⟩, [], false⟩,
  ⟨15, .E, ⟨none, (Op.store 31 (Operand.tmp 52) (Operand.tmp 49)), none⟩, [], false⟩])
 (.reg [⟨some 53, (Op.move (Operand.tmp 0)), none⟩,
  ⟨some 54, (Op.load 92 (Operand.tmp 4)), none⟩,
  ⟨some 55, (Op.call { callee := (Callee.value (Operand.func 75)), args := #[(Operand.tmp 53), (Operand.tmp 54)], argTypes := #[83, 92] }), none⟩]))) (.seq (.reg [⟨some 57, (Op.binOp BinOp.eql 3 (Operand.tmp 7) (Operand.const (Value.int IntKind.i64 2)) 3), none⟩,
  ⟨some 56, (Op.assign (Operand.tmp 57)), none⟩])
 (.cond (Operand.tmp 56) (.dr [⟨0, .F, ⟨some 58, (Op.move (Operand.tmp 0)), none⟩, [], false⟩,
  ⟨1, .F, ⟨some 59, (Op.move (Operand.tmp 0)), none⟩, [], false⟩,
  ⟨2, .F, ⟨some 60, (Op.nilCheck (Operand.tmp 59)), none⟩, [], false⟩,
  ⟨3, .F, ⟨some 61, (Op.fieldAddr 85 (Operand.tmp 60) 1), none⟩, [], false⟩,
  ⟨4, .F, ⟨some 62, (Op.fieldAddr 33 (Operand.tmp 61) 3), none⟩, [], false⟩,
  ⟨5, .R, ⟨some 63, (Op.load 31 (Operand.tmp 62)), none⟩, [], false⟩,
  ⟨6, .F, ⟨some 64, (Op.fieldAddr 39 (Operand.tmp 3) 1), none⟩, [], false⟩,
  ⟨7, .R, ⟨some 65, (Op.load 3 (Operand.tmp 64)), none⟩, [], false⟩,
  ⟨8, .F, ⟨some 66, (Op.fieldAddr 39 (Operand.tmp 3) 1), none⟩, [], false⟩,
  ⟨9, .R, ⟨some 67, (Op.load 3 (Operand.tmp 66)), none⟩, [], false⟩,
  ⟨10, .F, ⟨some 68, (Op.binOp BinOp.add 3 (Operand.tmp 67) (Operand.const (Value.int IntKind.i64 1)) 3), none⟩, [], false⟩,
  ⟨11, .E, ⟨some 69, (Op.call { callee := (Callee.value (Operand.func 74)), args := #[(Operand.tmp 63), (Operand.tmp 65), (Operand.tmp 68)], argTypes := #[31, 3, 3] }), none⟩, [], false⟩,
  ⟨12, .F, ⟨some 70, (Op.nilCheck (Operand.tmp 58)), none⟩, [], false⟩,
  ⟨13, .F, ⟨some 71, (Op.fieldAddr 85 (Operand.tmp 70) 1), none⟩, [], false⟩,
  ⟨14, .F, ⟨some 72, (Op.fieldAddr 33 (Operand.tmp 71) 3), none⟩, [], false⟩,
  ⟨15, .E, ⟨none, (Op.store 31 (Operand.tmp 72) (Operand.tmp 69)), none⟩, [], false⟩]) (.seq (.reg [⟨some 74, (Op.binOp BinOp.eql 3 (Operand.tmp 7) (Operand.const (Value.int IntKind.i64 3)) 3), none⟩,
  ⟨some 73, (Op.assign (Operand.tmp 74)), none⟩])
 (.cond (Operand.tmp 73) (.dr [⟨0, .F, ⟨some 75, (Op.move (Operand.tmp 0)), none⟩, [], false⟩,
  ⟨1, .F, ⟨some 76, (Op.move (Operand.tmp 0)), none⟩, [], false⟩,
  ⟨2, .F, ⟨some 77, (Op.nilCheck (Operand.tmp 76)), none⟩, [], false⟩,
  ⟨3, .F, ⟨some 78, (Op.fieldAddr 85 (Operand.tmp 77) 1), none⟩, [], false⟩,
  ⟨4, .F, ⟨some 79, (Op.fieldAddr 33 (Operand.tmp 78) 3), none⟩, [], false⟩,
  ⟨5, .R, ⟨some 80, (Op.load 31 (Operand.tmp 79)), none⟩, [], false⟩,
  ⟨6, .F, ⟨some 81, (Op.move (Operand.tmp 0)), none⟩, [], false⟩,
  ⟨7, .F, ⟨some 82, (Op.nilCheck (Operand.tmp 81)), none⟩, [], false⟩,
  ⟨8, .F, ⟨some 83, (Op.fieldAddr 85 (Operand.tmp 82) 1), none⟩, [], false⟩,
  ⟨9, .F, ⟨some 84, (Op.fieldAddr 33 (Operand.tmp 83) 3), none⟩, [], false⟩,
  ⟨10, .R, ⟨some 85, (Op.load 31 (Operand.tmp 84)), none⟩, [], false⟩,
  ⟨11, .F, ⟨some 86, (Op.fieldAddr 39 (Operand.tmp 3) 1), none⟩, [], false⟩,
  ⟨12, .R, ⟨some 87, (Op.load 3 (Operand.tmp 86)), none⟩, [], false⟩,
  ⟨13, .F, ⟨some 88, (Op.indexAddr 31 (Operand.tmp 85) (Operand.tmp 87)), none⟩, [], false⟩,
  ⟨14, .R, ⟨some 89, (Op.load 92 (Operand.tmp 88)), none⟩, [], false⟩,
  ⟨15, .F, ⟨some 90, (Op.buildSlice 31 1 #[(0, (Operand.tmp 89))]), none⟩, [], false⟩,
  ⟨16, .E, ⟨some 91, (Op.call { callee := (Callee.builtin Builtin.append), args := #[(Operand.tmp 80), (Operand.tmp 90)], argTypes := #[31, 31] }), none⟩, [], false⟩,
  ⟨17, .F, ⟨some 92, (Op.nilCheck (Operand.tmp 75)), none⟩, [], false⟩,
  ⟨18, .F, ⟨some 93, (Op.fieldAddr 85 (Operand.tmp 92) 1), none⟩, [], false⟩,
  ⟨19, .F, ⟨some 94, (Op.fieldAddr 33 (Operand.tmp 93) 3), none⟩, [], false⟩,
  ⟨20, .E, ⟨none, (Op.store 31 (Operand.tmp 94) (Operand.tmp 91)), none⟩, [], false⟩]) (.seq (.seq (.reg [⟨some 96, (Op.binOp BinOp.eql 3 (Operand.tmp 7) (Operand.const (Value.int IntKind.i64 4)) 3), none⟩,
  ⟨some 95, (Op.assign (Operand.tmp 96)), none⟩])
 (.cond (Operand.tmp 95) .skip (.reg [⟨some 97, (Op.binOp BinOp.eql 3 (Operand.tmp 7) (Operand.const (Value.int IntKind.i64 5)) 3), none⟩,
  ⟨some 95, (Op.assign (Operand.tmp 97)), none⟩])))
 (.cond (Operand.tmp 95) (.seq (.dr [⟨0, .F, ⟨some 98, (Op.move (Operand.tmp 0)), none⟩, [], false⟩,
  ⟨1, .F, ⟨some 99, (Op.nilCheck (Operand.tmp 98)), none⟩, [], false⟩,
  ⟨2, .F, ⟨some 100, (Op.fieldAddr 85 (Operand.tmp 99) 1), none⟩, [], false⟩,
  ⟨3, .F, ⟨some 101, (Op.fieldAddr 33 (Operand.tmp 100) 2), none⟩, [], false⟩,
  ⟨4, .R, ⟨some 102, (Op.load 30 (Operand.tmp 101)), none⟩, [], false⟩,
  ⟨5, .F, ⟨some 103, (Op.move (Operand.tmp 0)), none⟩, [], false⟩,
  ⟨6, .F, ⟨some 104, (Op.nilCheck (Operand.tmp 103)), none⟩, [], false⟩,
  ⟨7, .F, ⟨some 105, (Op.fieldAddr 85 (Operand.tmp 104) 0), none⟩, [], false⟩,
  ⟨8, .F, ⟨some 106, (Op.fieldAddr 24 (Operand.tmp 105) 1), none⟩, [], false⟩,
  ⟨9, .R, ⟨some 107, (Op.load 22 (Operand.tmp 106)), none⟩, [], false⟩,
  ⟨10, .F, ⟨some 108, (Op.fieldAddr 39 (Operand.tmp 3) 1), none⟩, [], false⟩,
  ⟨11, .F, ⟨some 109, (Op.load 3 (Operand.tmp 108)), none⟩, [], false⟩,
  ⟨12, .F, ⟨some 110, (Op.indexAddr 22 (Operand.tmp 107) (Operand.tmp 109)), none⟩, [], false⟩,
  ⟨13, .R, ⟨some 111, (Op.load 3 (Operand.tmp 110)), none⟩, [], false⟩,
  ⟨14, .F, ⟨some 112, (Op.indexAddr 30 (Operand.tmp 102) (Operand.tmp 111)), none⟩, [], false⟩,
  ⟨15, .F, ⟨some 113, (Op.fieldAddr 80 (Operand.tmp 112) 1), none⟩, [], false⟩,
  ⟨16, .R, ⟨some 114, (Op.load 78 (Operand.tmp 113)), none⟩, [], false⟩,
  ⟨17, .F, ⟨some 115, (Op.move (Operand.tmp 0)), none⟩, [], false⟩,
  ⟨18, .F, ⟨some 116, (Op.nilCheck (Operand.tmp 115)), none⟩, [], false⟩,
  ⟨19, .F, ⟨some 117, (Op.fieldAddr 85 (Operand.tmp 116) 0), none⟩, [], false⟩,
  ⟨20, .R, ⟨some 118, (Op.load 24 (Operand.tmp 117)), none⟩, [], false⟩,
  ⟨21, .F, ⟨some 119, (Op.move (Operand.tmp 0)), none⟩, [], false⟩,
  ⟨22, .F, ⟨some 120, (Op.nilCheck (Operand.tmp 119)), none⟩, [], false⟩,
  ⟨23, .F, ⟨some 121, (Op.fieldAddr 85 (Operand.tmp 120) 1), none⟩, [], false⟩,
  ⟨24, .R, ⟨some 122, (Op.load 33 (Operand.tmp 121)), none⟩, [], false⟩,
  ⟨25, .F, ⟨some 123, (Op.fieldAddr 39 (Operand.tmp 3) 1), none⟩, [], false⟩,
  ⟨26, .R, ⟨some 124, (Op.load 3 (Operand.tmp 123)), none⟩, [], false⟩,
  ⟨27, .E, ⟨some 125, (Op.call { callee := (Callee.value (Operand.func 76)), args := #[(Operand.tmp 118), (Operand.tmp 122), (Operand.tmp 124)], argTypes := #[24, 33, 3] }), none⟩, [], true⟩,
  ⟨28, .F, ⟨some 126, (Op.indexAddr 78 (Operand.tmp 114) (Operand.tmp 125)), none⟩, [], false⟩,
  ⟨29, .F, ⟨some 5, (Op.assign (Operand.tmp 126)), none⟩, [], false⟩])
 (.seq (.dr [⟨0, .F, ⟨some 127, (Op.move (Operand.tmp 5)), none⟩, [], false⟩,
  ⟨1, .F, ⟨some 128, (Op.move (Operand.tmp 5)), none⟩, [], false⟩,
  ⟨2, .F, ⟨some 129, (Op.move (Operand.tmp 0)), none⟩, [], false⟩,
  ⟨3, .F, ⟨some 130, (Op.nilCheck (Operand.tmp 129)), none⟩, [], false⟩,
  ⟨4, .F, ⟨some 131, (Op.fieldAddr 85 (Operand.tmp 130) 0), none⟩, [], false⟩,
  ⟨5, .F, ⟨some 132, (Op.fieldAddr 24 (Operand.tmp 131) 2), none⟩, [], false⟩,
  ⟨6, .R, ⟨some 133, (Op.load 22 (Operand.tmp 132)), none⟩, [], false⟩,
  ⟨7, .F, ⟨some 134, (Op.fieldAddr 39 (Operand.tmp 3) 1), none⟩, [], false⟩,
  ⟨8, .R, ⟨some 135, (Op.load 3 (Operand.tmp 134)), none⟩, [], false⟩,
  ⟨9, .F, ⟨some 136, (Op.indexAddr 22 (Operand.tmp 133) (Operand.tmp 135)), none⟩, [], false⟩,
  ⟨10, .R, ⟨some 137, (Op.load 3 (Operand.tmp 136)), none⟩, [], false⟩,
  ⟨11, .F, ⟨some 138, (Op.nilCheck (Operand.tmp 127)), none⟩, [], false⟩,
  ⟨12, .F, ⟨some 139, (Op.fieldAddr 90 (Operand.tmp 138) 1), none⟩, [], false⟩,
  ⟨13, .E, ⟨none, (Op.store 4 (Operand.tmp 139) (Operand.const (Value.bool true))), none⟩, [], false⟩,
  ⟨14, .F, ⟨some 140, (Op.nilCheck (Operand.tmp 128)), none⟩, [], false⟩,
  ⟨15, .F, ⟨some 141, (Op.fieldAddr 90 (Operand.tmp 140) 3), none⟩, [], false⟩,
  ⟨16, .E, ⟨none, (Op.store 3 (Operand.tmp 141) (Operand.tmp 137)), none⟩, [], false⟩])
 (.seq (.reg [⟨some 142, (Op.move (Operand.tmp 5)), none⟩,
  ⟨some 143, (Op.nilCheck (Operand.tmp 142)), none⟩,
  ⟨some 144, (Op.fieldAddr 90 (Operand.tmp 143) 4), none⟩,
  ⟨some 145, (Op.load 3 (Operand.tmp 144)), none⟩,
  ⟨some 146, (Op.binOp BinOp.add 3 (Operand.tmp 145) (Operand.const (Value.int IntKind.i64 1)) 3), none⟩,
  ⟨some 147, (Op.nilCheck (Operand.tmp 142)), none⟩,
  ⟨some 148, (Op.fieldAddr 90 (Operand.tmp 147) 4), none⟩,
  ⟨none, (Op.store 3 (Operand.tmp 148) (Operand.tmp 146)), none⟩])
 (.dr [⟨0, .F, ⟨some 149, (Op.move (Operand.tmp 0)), none⟩, [], false⟩,
  ⟨1, .F, ⟨some 150, (Op.fieldAddr 39 (Operand.tmp 3) 1), none⟩, [], false⟩,
  ⟨2, .R, ⟨some 151, (Op.load 3 (Operand.tmp 150)), none⟩, [], false⟩,
  ⟨3, .F, ⟨some 152, (Op.move (Operand.tmp 5)), none⟩, [], false⟩,
  ⟨4, .F, ⟨some 153, (Op.nilCheck (Operand.tmp 152)), none⟩, [], false⟩,
  ⟨5, .F, ⟨some 154, (Op.fieldAddr 90 (Operand.tmp 153) 3), none⟩, [], false⟩,
  ⟨6, .R, ⟨some 155, (Op.load 3 (Operand.tmp 154)), none⟩, [], false⟩,
  ⟨7, .E, ⟨some 156, (Op.call { callee := (Callee.value (Operand.func 73)), args := #[(Operand.tmp 149), (Operand.const (Value.int IntKind.i64 2)), (Operand.tmp 151), (Operand.tmp 155)], argTypes := #[83, 3, 3, 3] }), none⟩, [], false⟩])))) (.seq (.reg [⟨some 158, (Op.binOp BinOp.eql 3 (Operand.tmp 7) (Operand.const (Value.int IntKind.i64 6)) 3), none⟩,
  ⟨some 157, (Op.assign (Operand.tmp 158)), none⟩])
 (.cond (Operand.tmp 157) (.dr [⟨0, .F, ⟨some 159, (Op.move (Operand.tmp 0)), none⟩, [], false⟩,
  ⟨1, .F, ⟨some 160, (Op.nilCheck (Operand.tmp 159)), none⟩, [], false⟩,
  ⟨2, .F, ⟨some 161, (Op.fieldAddr 85 (Operand.tmp 160) 1), none⟩, [], false⟩,
  ⟨3, .F, ⟨some 162, (Op.fieldAddr 33 (Operand.tmp 161) 2), none⟩, [], false⟩,
  ⟨4, .R, ⟨some 163, (Op.load 30 (Operand.tmp 162)), none⟩, [], false⟩,
  ⟨5, .F, ⟨some 164, (Op.fieldAddr 39 (Operand.tmp 3) 1), none⟩, [], false⟩,
  ⟨6, .R, ⟨some 165, (Op.load 3 (Operand.tmp 164)), none⟩, [], false⟩,
  ⟨7, .F, ⟨some 166, (Op.indexAddr 30 (Operand.tmp 163) (Operand.tmp 165)), none⟩, [], false⟩,
  ⟨8, .F, ⟨some 167, (Op.fieldAddr 80 (Operand.tmp 166) 0), none⟩, [], false⟩,
  ⟨9, .E, ⟨none, (Op.store 4 (Operand.tmp 167) (Operand.const (Value.bool true))), none⟩, [], false⟩]) (.seq (.reg [⟨some 169, (Op.binOp BinOp.eql 3 (Operand.tmp 7) (Operand.const (Value.int IntKind.i64 7)) 3), none⟩,
  ⟨some 168, (Op.assign (Operand.tmp 169)), none⟩])
 (.cond (Operand.tmp 168) (.reg [⟨some 170, (Op.move (Operand.tmp 0)), none⟩,
  ⟨some 171, (Op.fieldAddr 39 (Operand.tmp 3) 1), none⟩,
  ⟨some 172, (Op.load 3 (Operand.tmp 171)), none⟩,
  ⟨some 173, (Op.call { callee := (Callee.value (Operand.func 77)), args := #[(Operand.tmp 170), (Operand.tmp 172), (Operand.const (Value.int IntKind.i64 4))], argTypes := #[83, 3, 3] }), none⟩]) .skip)))))))))))))))))
theorem fn47 : FnFact Try.prog 47 174 [(3, [(0, 0), (1, 0), (2, 0), (3, 0), (4, 3), (5, 0), (6, 3), (7, 0), (8, 0), (9, 3), (10, 0), (11, 0), (12, 0), (13, 2)], [[], [0], [0, 1], [0, 1, 2], [0, 1, 2, 3], [], [5], [0, 1, 2, 3, 4, 5, 6], [0, 1, 2, 3, 4, 5, 6, 7], [0, 1, 2, 3, 4, 5, 6, 7, 8], [0, 1, 2, 3, 4, 5, 6, 7, 8, 9], [0, 1, 2, 3, 4, 5, 6, 7, 8, 9, 10], [0, 1, 2, 3, 4, 5, 6, 7, 8, 9, 10, 11], [0, 1, 2, 3, 4, 5, 6, 7, 8, 9, 10, 11, 12]]), (6, [(0, 0), (1, 0), (2, 0), (3, 0), (4, 3), (5, 0), (6, 3), (7, 0), (8, 3), (9, 1), (10, 2)], [[], [0], [0, 1], [0, 1, 2], [0, 1, 2, 3], [], [5], [0, 1, 2, 3, 4, 5, 6], [0, 1, 2, 3, 4, 5, 6, 7], [], [0, 1, 2, 3, 4, 5, 6, 7, 8, 9]]), (7, [(0, 0), (1, 0), (2, 0), (3, 0), (4, 0), (5, 3), (6, 0), (7, 3), (8, 0), (9, 3), (10, 0), (11, 2), (12, 0), (13, 0), (14, 0), (15, 2)], [[], [], [1], [1, 2], [1, 2, 3], [1, 2, 3, 4], [], [6], [], [8], [8, 9], [1, 2, 3, 4, 5, 6, 7, 8, 9, 10], [0, 1, 2, 3, 4, 5, 6, 7, 8, 9, 10, 11], [0, 1, 2, 3, 4, 5, 6, 7, 8, 9, 10, 11, 12], [0, 1, 2, 3, 4, 5, 6, 7, 8, 9, 10, 11, 12, 13], [0, 1, 2, 3, 4, 5, 6, 7, 8, 9, 10, 11, 12, 13, 14]]), (10, [(0, 0), (1, 0), (2, 0), (3, 0), (4, 0), (5, 3), (6, 0), (7, 3), (8, 0), (9, 3), (10, 0), (11, 2), (12, 0), (13, 0), (14, 0), (15, 2)], [[], [], [1], [1, 2], [1, 2, 3], [1, 2, 3, 4], [], [6], [], [8], [8, 9], [1, 2, 3, 4, 5, 6, 7, 8, 9, 10], [0, 1, 2, 3, 4, 5, 6, 7, 8, 9, 10, 11], [0, 1, 2, 3, 4, 5, 6, 7, 8, 9, 10, 11, 12], [0, 1, 2, 3, 4, 5, 6, 7, 8, 9, 10, 11, 12, 13], [0, 1, 2, 3, 4, 5, 6, 7, 8, 9, 10, 11, 12, 13, 14]]), (12, [(0, 0), (1, 0), (2, 0), (3, 0), (4, 0), (5, 3), (6, 0), (7, 0), (8, 0), (9, 0), (10, 3), (11, 0), (12, 3), (13, 0), (14, 3), (15, 0), (16, 2), (17, 0), (18, 0), (19, 0), (20, 2)], [[], [], [1], [1, 2], [1, 2, 3], [1, 2, 3, 4], [], [6], [6, 7], [6, 7, 8], [6, 7, 8, 9], [], [11], [6, 7, 8, 9, 10, 11, 12], [6, 7, 8, 9, 10, 11, 12, 13], [6, 7, 8, 9, 10, 11, 12, 13, 14], [1, 2, 3, 4, 5, 6, 7, 8, 9, 10, 11, 12, 13, 14, 15], [0, 1, 2, 3, 4, 5, 6, 7, 8, 9, 10, 11, 12, 13, 14, 15, 16], [0, 1, 2, 3, 4, 5, 6, 7, 8, 9, 10, 11, 12, 13, 14, 15, 16, 17], [0, 1, 2, 3, 4, 5, 6, 7, 8, 9, 10, 11, 12, 13, 14, 15, 16, 17, 18], [0, 1, 2, 3, 4, 5, 6, 7, 8, 9, 10, 11, 12, 13, 14, 15, 16, 17, 18, 19]]), (15, [(0, 0), (1, 0), (2, 0), (3, 0), (4, 3), (5, 0), (6, 0), (7, 0), (8, 0), (9, 3), (10, 0), (11, 0), (12, 0), (13, 3), (14, 0), (15, 0), (16, 3), (17, 0), (18, 0), (19, 0), (20, 3), (21, 0), (22, 0), (23, 0), (24, 3), (25, 0), (26, 3), (27, 4), (28, 0), (29, 0)], [[], [0], [0, 1], [0, 1, 2], [0, 1, 2, 3], [], [5], [5, 6], [5, 6, 7], [5, 6, 7, 8], [], [10], [5, 6, 7, 8, 9, 10, 11], [5, 6, 7, 8, 9, 10, 11, 12], [0, 1, 2, 3, 4, 5, 6, 7, 8, 9, 10, 11, 12, 13], [0, 1, 2, 3, 4, 5, 6, 7, 8, 9, 10, 11, 12, 13, 14], [0, 1, 2, 3, 4, 5, 6, 7, 8, 9, 10, 11, 12, 13, 14, 15], [], [17], [17, 18], [17, 18, 19], [], [21], [21, 22], [21, 22, 23], [], [25], [17, 18, 19, 20, 21, 22, 23, 24, 25, 26], [0, 1, 2, 3, 4, 5, 6, 7, 8, 9, 10, 11, 12, 13, 14, 15, 16, 17, 18, 19, 20, 21, 22, 23, 24, 25, 26, 27], [0, 1, 2, 3, 4, 5, 6, 7, 8, 9, 10, 11, 12, 13, 14, 15, 16, 17, 18, 19, 20, 21, 22, 23, 24, 25, 26, 27, 28]]), (16, [(0, 0), (1, 0), (2, 0), (3, 0), (4, 0), (5, 0), (6, 3), (7, 0), (8, 3), (9, 0), (10, 3), (11, 0), (12, 0), (13, 2), (14, 0), (15, 0), (16, 2)], [[], [], [], [2], [2, 3], [2, 3, 4], [2, 3, 4, 5], [], [7], [2, 3, 4, 5, 6, 7, 8], [2, 3, 4, 5, 6, 7, 8, 9], [0, 2, 3, 4, 5, 6, 7, 8, 9, 10], [0, 2, 3, 4, 5, 6, 7, 8, 9, 10, 11], [0, 2, 3, 4, 5, 6, 7, 8, 9, 10, 11, 12], [0, 1, 2, 3, 4, 5, 6, 7, 8, 9, 10, 11, 12, 13], [0, 1, 2, 3, 4, 5, 6, 7, 8, 9, 10, 11, 12, 13, 14], [0, 1, 2, 3, 4, 5, 6, 7, 8, 9, 10, 11, 12, 13, 14, 15]]), (18, [(0, 0), (1, 0), (2, 3), (3, 0), (4, 0), (5, 0), (6, 3), (7, 2)], [[], [], [1], [], [3], [3, 4], [3, 4, 5], [0, 1, 2, 3, 4, 5, 6]]), (20, [(0, 0), (1, 0), (2, 0), (3, 0), (4, 3), (5, 0), (6, 3), (7, 0), (8, 0), (9, 2)], [[], [0], [0, 1], [0, 1, 2], [0, 1, 2, 3], [], [5], [0, 1, 2, 3, 4, 5, 6], [0, 1, 2, 3, 4, 5, 6, 7], [0, 1, 2, 3, 4, 5, 6, 7, 8]])] [] cd47 := ⟨by kernel_rfl, ⟨Try.f47, Try.func47, by kernel_rfl, by rfl, Try.ntmps47, congrArg Array.toList Try.results47⟩⟩
/-- slices.ContainsFunc[[]examiner/api.Placed,examiner/api.Placed] -/
def cd48 : CC := (.seq (.reg [⟨some 4, (Op.assign (Operand.const (Value.bool false))), none⟩])
 (.seq (.reg [⟨some 5, (Op.move (Operand.tmp 0)), none⟩,
  ⟨some 6, (Op.move (Operand.tmp 1)), none⟩,
  ⟨some 7, (Op.call { callee := (Callee.value (Operand.func 78)), args := #[(Operand.tmp 5), (Operand.tmp 6)], argTypes := #[29, 88] }), none⟩,
  ⟨some 8, (Op.binOp BinOp.geq 3 (Operand.tmp 7) (Operand.const (Value.int IntKind.i64 0)) 3), none⟩,
  ⟨some 4, (Op.assign (Operand.tmp 8)), none⟩])
 .ret))
theorem fn48 : FnFact Try.prog 48 9 [] [(ResultVar.tmp 4)] cd48 := ⟨by kernel_rfl, ⟨Try.f48, Try.func48, by kernel_rfl, by rfl, Try.ntmps48, congrArg Array.toList Try.results48⟩⟩
/-- examiner/hosts.IsOver$1 -/
def cd49 : CC := (.seq (.reg [⟨some 1, (Op.box 68 (Operand.tmp 0)), none⟩,
  ⟨some 2, (Op.assign (Operand.const (Value.bool false))), none⟩])
 (.seq (.reg [⟨some 3, (Op.fieldAddr 68 (Operand.tmp 1) 2), none⟩,
  ⟨some 4, (Op.load 4 (Operand.tmp 3)), none⟩,
  ⟨some 5, (Op.unOp UnOp.not 4 (Operand.tmp 4)), none⟩,
  ⟨some 2, (Op.assign (Operand.tmp 5)), none⟩])
 .ret))
theorem fn49 : FnFact Try.prog 49 6 [] [(ResultVar.tmp 2)] cd49 := ⟨by kernel_rfl, ⟨Try.f49, Try.func49, by kernel_rfl, by rfl, Try.ntmps49, congrArg Array.toList Try.results49⟩⟩
/-- examiner/hosts.isPossible -/
def cd50 : CC := (.seq (.reg [⟨some 3, (Op.box 24 (Operand.tmp 0)), none⟩,
  ⟨some 4, (Op.box 33 (Operand.tmp 1)), none⟩,
  ⟨some 5, (Op.box 39 (Operand.tmp 2)), none⟩,
  ⟨some 6, (Op.assign (Operand.const (Value.bool false))), none⟩])
 (.seq (.seq (.reg [⟨some 11, (Op.fieldAddr 39 (Operand.tmp 5) 0), none⟩,
  ⟨some 12, (Op.load 3 (Operand.tmp 11)), none⟩])
 (.block 0 (.seq (.seq (.reg [⟨some 14, (Op.binOp BinOp.eql 3 (Operand.tmp 12) (Operand.const (Value.int IntKind.i64 1)) 3), none⟩,
  ⟨some 13, (Op.assign (Operand.tmp 14)), none⟩])
 (.cond (Operand.tmp 13) .skip (.reg [⟨some 15, (Op.binOp BinOp.eql 3 (Operand.tmp 12) (Operand.const (Value.int IntKind.i64 2)) 3), none⟩,
  ⟨some 13, (Op.assign (Operand.tmp 15)), none⟩])))
 (.cond (Operand.tmp 13) (.seq (.reg [⟨some 16, (Op.fieldAddr 39 (Operand.tmp 5) 1), none⟩,
  ⟨some 17, (Op.load 3 (Operand.tmp 16)), none⟩,
  ⟨some 18, (Op.fieldAddr 33 (Operand.tmp 4) 3), none⟩,
  ⟨some 19, (Op.load 31 (Operand.tmp 18)), none⟩,
  ⟨some 20, (Op.call { callee := (Callee.builtin Builtin.len), args := #[(Operand.tmp 19)], argTypes := #[31] }), none⟩,
  ⟨some 21, (Op.binOp BinOp.sub 3 (Operand.tmp 20) (Operand.const (Value.int IntKind.i64 1)) 3), none⟩,
  ⟨some 22, (Op.call { callee := (Callee.value (Operand.func 54)), args := #[(Operand.tmp 17), (Operand.const (Value.int IntKind.i64 0)), (Operand.tmp 21)], argTypes := #[3, 3, 3] }), none⟩,
  ⟨some 6, (Op.assign (Operand.tmp 22)), none⟩])
 .ret) (.seq (.reg [⟨some 24, (Op.binOp BinOp.eql 3 (Operand.tmp 12) (Operand.const (Value.int IntKind.i64 3)) 3), none⟩,
  ⟨some 23, (Op.assign (Operand.tmp 24)), none⟩])
 (.cond (Operand.tmp 23) (.seq (.reg [⟨some 25, (Op.fieldAddr 39 (Operand.tmp 5) 1), none⟩,
  ⟨some 26, (Op.load 3 (Operand.tmp 25)), none⟩,
  ⟨some 27, (Op.fieldAddr 33 (Operand.tmp 4) 3), none⟩,
  ⟨some 28, (Op.load 31 (Operand.tmp 27)), none⟩,
  ⟨some 29, (Op.call { callee := (Callee.builtin Builtin.len), args := #[(Operand.tmp 28)], argTypes := #[31] }), none⟩,
  ⟨some 30, (Op.binOp BinOp.sub 3 (Operand.tmp 29) (Operand.const (Value.int IntKind.i64 1)) 3), none⟩,
  ⟨some 31, (Op.call { callee := (Callee.value (Operand.func 54)), args := #[(Operand.tmp 26), (Operand.const (Value.int IntKind.i64 0)), (Operand.tmp 30)], argTypes := #[3, 3, 3] }), none⟩,
  ⟨some 32, (Op.move (Operand.tmp 31)), none⟩,
  ⟨some 33, (Op.fieldAddr 33 (Operand.tmp 4) 3), some (32, true)⟩,
  ⟨some 34, (Op.load 31 (Operand.tmp 33)), some (32, true)⟩,
  ⟨some 35, (Op.call { callee := (Callee.builtin Builtin.len), args := #[(Operand.tmp 34)], argTypes := #[31] }), some (32, true)⟩,
  ⟨some 36, (Op.binOp BinOp.lss 3 (Operand.tmp 35) (Operand.const (Value.int IntKind.i64 12)) 3), some (32, true)⟩,
  ⟨some 37, (Op.pick (Operand.tmp 32) (Operand.tmp 36) (Operand.const (Value.bool false))), none⟩,
  ⟨some 6, (Op.assign (Operand.tmp 37)), none⟩])
 .ret) (.seq (.reg [⟨some 39, (Op.binOp BinOp.eql 3 (Operand.tmp 12) (Operand.const (Value.int IntKind.i64 6)) 3), none⟩,
  ⟨some 38, (Op.assign (Operand.tmp 39)), none⟩])
 (.cond (Operand.tmp 38) (.seq (.reg [⟨some 40, (Op.fieldAddr 39 (Operand.tmp 5) 1), none⟩,
  ⟨some 41, (Op.load 3 (Operand.tmp 40)), none⟩,
  ⟨some 42, (Op.fieldAddr 24 (Operand.tmp 3) 0), none⟩,
  ⟨some 43, (Op.load 3 (Operand.tmp 42)), none⟩,
  ⟨some 44, (Op.binOp BinOp.sub 3 (Operand.tmp 43) (Operand.const (Value.int IntKind.i64 1)) 3), none⟩,
  ⟨some 45, (Op.call { callee := (Callee.value (Operand.func 54)), args := #[(Operand.tmp 41), (Operand.const (Value.int IntKind.i64 0)), (Operand.tmp 44)], argTypes := #[3, 3, 3] }), none⟩,
  ⟨some 46, (Op.move (Operand.tmp 45)), none⟩,
  ⟨some 47, (Op.fieldAddr 33 (Operand.tmp 4) 2), some (46, true)⟩,
  ⟨some 48, (Op.load 30 (Operand.tmp 47)), some (46, true)⟩,
  ⟨some 49, (Op.fieldAddr 39 (Operand.tmp 5) 1), some (46, true)⟩,
  ⟨some 50, (Op.load 3 (Operand.tmp 49)), some (46, true)⟩,
  ⟨some 51, (Op.indexAddr 30 (Operand.tmp 48) (Operand.tmp 50)), some (46, true)⟩,
  ⟨some 52, (Op.fieldAddr 80 (Operand.tmp 51) 0), some (46, true)⟩,
  ⟨some 53, (Op.load 4 (Operand.tmp 52)), some (46, true)⟩,
  ⟨some 54, (Op.unOp UnOp.not 4 (Operand.tmp 53)), some (46, true)⟩,
  ⟨some 55, (Op.pick (Operand.tmp 46) (Operand.tmp 54) (Operand.const (Value.bool false))), none⟩,
  ⟨some 6, (Op.assign (Operand.tmp 55)), none⟩])
 .ret) .skip))))))))
 (.seq (.seq (.reg [⟨some 56, (Op.fieldAddr 39 (Operand.tmp 5) 1), none⟩,
  ⟨some 57, (Op.load 3 (Operand.tmp 56)), none⟩,
  ⟨some 58, (Op.fieldAddr 24 (Operand.tmp 3) 1), none⟩,
  ⟨some 59, (Op.load 22 (Operand.tmp 58)), none⟩,
  ⟨some 60, (Op.call { callee := (Callee.builtin Builtin.len), args := #[(Operand.tmp 59)], argTypes := #[22] }), none⟩,
  ⟨some 61, (Op.binOp BinOp.sub 3 (Operand.tmp 60) (Operand.const (Value.int IntKind.i64 1)) 3), none⟩,
  ⟨some 62, (Op.call { callee := (Callee.value (Operand.func 54)), args := #[(Operand.tmp 57), (Operand.const (Value.int IntKind.i64 0)), (Operand.tmp 61)], argTypes := #[3, 3, 3] }), none⟩,
  ⟨some 63, (Op.unOp UnOp.not 4 (Operand.tmp 62)), none⟩])
 (.cond (Operand.tmp 63) (.seq (.reg [⟨some 6, (Op.assign (Operand.const (Value.bool false))), none⟩])
 .ret) .skip))
 (.seq (.reg [⟨some 64, (Op.fieldAddr 33 (Operand.tmp 4) 0), none⟩,
  ⟨some 65, (Op.load 29 (Operand.tmp 64)), none⟩,
  ⟨some 66, (Op.fieldAddr 39 (Operand.tmp 5) 1), none⟩,
  ⟨some 67, (Op.load 3 (Operand.tmp 66)), none⟩,
  ⟨some 68, (Op.indexAddr 29 (Operand.tmp 65) (Operand.tmp 67)), none⟩,
  ⟨some 69, (Op.load 68 (Operand.tmp 68)), none⟩,
  ⟨some 7, (Op.alloc 68), none⟩,
  ⟨none, (Op.store 68 (Operand.tmp 7) (Operand.tmp 69)), none⟩])
 (.seq (.seq (.reg [⟨some 70, (Op.fieldAddr 39 (Operand.tmp 5) 0), none⟩,
  ⟨some 71, (Op.load 3 (Operand.tmp 70)), none⟩])
 (.block 1 (.seq (.reg [⟨some 73, (Op.binOp BinOp.eql 3 (Operand.tmp 71) (Operand.const (Value.int IntKind.i64 0)) 3), none⟩,
  ⟨some 72, (Op.assign (Operand.tmp 73)), none⟩])
 (.cond (Operand.tmp 72) (.seq (.reg [⟨some 74, (Op.fieldAddr 68 (Operand.tmp 7) 2), none⟩,
  ⟨some 75, (Op.load 4 (Operand.tmp 74)), none⟩,
  ⟨some 76, (Op.unOp UnOp.not 4 (Operand.tmp 75)), none⟩,
  ⟨some 77, (Op.move (Operand.tmp 76)), none⟩,
  ⟨some 78, (Op.fieldAddr 68 (Operand.tmp 7) 0), some (77, true)⟩,
  ⟨some 79, (Op.load 3 (Operand.tmp 78)), some (77, true)⟩,
  ⟨some 80, (Op.binOp BinOp.lss 3 (Operand.tmp 79) (Operand.const (Value.int IntKind.i64 3)) 3), some (77, true)⟩,
  ⟨some 81, (Op.pick (Operand.tmp 77) (Operand.tmp 80) (Operand.const (Value.bool false))), none⟩,
  ⟨some 6, (Op.assign (Operand.tmp 81)), none⟩])
 .ret) (.seq (.reg [⟨some 83, (Op.binOp BinOp.eql 3 (Operand.tmp 71) (Operand.const (Value.int IntKind.i64 7)) 3), none⟩,
  ⟨some 82, (Op.assign (Operand.tmp 83)), none⟩])
 (.cond (Operand.tmp 82) (.seq (.reg [⟨some 84, (Op.fieldAddr 68 (Operand.tmp 7) 2), none⟩,
  ⟨some 85, (Op.load 4 (Operand.tmp 84)), none⟩,
  ⟨some 86, (Op.unOp UnOp.not 4 (Operand.tmp 85)), none⟩,
  ⟨some 6, (Op.assign (Operand.tmp 86)), none⟩])
 .ret) .skip))))))
 (.seq (.dr [⟨0, .F, ⟨some 87, (Op.fieldAddr 33 (Operand.tmp 4) 2), none⟩, [], false⟩,
  ⟨1, .R, ⟨some 88, (Op.load 30 (Operand.tmp 87)), none⟩, [], false⟩,
  ⟨2, .F, ⟨some 89, (Op.fieldAddr 24 (Operand.tmp 3) 1), none⟩, [], false⟩,
  ⟨3, .R, ⟨some 90, (Op.load 22 (Operand.tmp 89)), none⟩, [], false⟩,
  ⟨4, .F, ⟨some 91, (Op.fieldAddr 39 (Operand.tmp 5) 1), none⟩, [], false⟩,
  ⟨5, .R, ⟨some 92, (Op.load 3 (Operand.tmp 91)), none⟩, [], false⟩,
  ⟨6, .F, ⟨some 93, (Op.indexAddr 22 (Operand.tmp 90) (Operand.tmp 92)), none⟩, [], false⟩,
  ⟨7, .R, ⟨some 94, (Op.load 3 (Operand.tmp 93)), none⟩, [], false⟩,
  ⟨8, .F, ⟨some 95, (Op.indexAddr 30 (Operand.tmp 88) (Operand.tmp 94)), none⟩, [], false⟩,
  ⟨9, .R, ⟨some 96, (Op.load 80 (Operand.tmp 95)), none⟩, [], false⟩,
  ⟨10, .A, ⟨some 8, (Op.alloc 80), none⟩, [], false⟩,
  ⟨11, .E, ⟨none, (Op.store 80 (Operand.tmp 8) (Operand.tmp 96)), none⟩, [10], false⟩])
 (.seq (.reg [⟨some 97, (Op.load 24 (Operand.tmp 3)), none⟩,
  ⟨some 98, (Op.load 33 (Operand.tmp 4)), none⟩,
  ⟨some 99, (Op.fieldAddr 39 (Operand.tmp 5) 1), none⟩,
  ⟨some 100, (Op.load 3 (Operand.tmp 99)), none⟩,
  ⟨some 101, (Op.call { callee := (Callee.value (Operand.func 76)), args := #[(Operand.tmp 97), (Operand.tmp 98), (Operand.tmp 100)], argTypes := #[24, 33, 3] }), none⟩,
  ⟨some 9, (Op.assign (Operand.tmp 101)), none⟩])
 (.seq (.seq (.reg [⟨some 102, (Op.move (Operand.tmp 9)), none⟩,
  ⟨some 103, (Op.binOp BinOp.lss 3 (Operand.tmp 102) (Operand.const (Value.int IntKind.i64 0)) 3), none⟩,
  ⟨some 104, (Op.move (Operand.tmp 103)), none⟩,
  ⟨some 105, (Op.fieldAddr 80 (Operand.tmp 8) 0), some (104, false)⟩,
  ⟨some 106, (Op.load 4 (Operand.tmp 105)), some (104, false)⟩,
  ⟨some 107, (Op.pick (Operand.tmp 104) (Operand.const (Value.bool true)) (Operand.tmp 106)), none⟩])
 (.cond (Operand.tmp 107) (.seq (.reg [⟨some 6, (Op.assign (Operand.const (Value.bool false))), none⟩])
 .ret) .skip))
 (.seq (.reg [⟨some 108, (Op.fieldAddr 80 (Operand.tmp 8) 1), none⟩,
  ⟨some 109, (Op.load 78 (Operand.tmp 108)), none⟩,
  ⟨some 110, (Op.move (Operand.tmp 9)), none⟩,
  ⟨some 111, (Op.indexAddr 78 (Operand.tmp 109) (Operand.tmp 110)), none⟩,
  ⟨some 112, (Op.load 90 (Operand.tmp 111)), none⟩,
  ⟨some 10, (Op.alloc 90), none⟩,
  ⟨none, (Op.store 90 (Operand.tmp 10) (Operand.tmp 112)), none⟩])
 (.seq (.seq (.reg [⟨some 113, (Op.fieldAddr 39 (Operand.tmp 5) 0), none⟩,
  ⟨some 114, (Op.load 3 (Operand.tmp 113)), none⟩,
  ⟨some 115, (Op.binOp BinOp.eql 3 (Operand.tmp 114) (Operand.const (Value.int IntKind.i64 4)) 3), none⟩])
 (.cond (Operand.tmp 115) (.seq (.reg [⟨some 116, (Op.fieldAddr 90 (Operand.tmp 10) 1), none⟩,
  ⟨some 117, (Op.load 4 (Operand.tmp 116)), none⟩,
  ⟨some 118, (Op.unOp UnOp.not 4 (Operand.tmp 117)), none⟩,
  ⟨some 6, (Op.assign (Operand.tmp 118)), none⟩])
 .ret) .skip))
 (.seq (.reg [⟨some 119, (Op.fieldAddr 90 (Operand.tmp 10) 1), none⟩,
  ⟨some 120, (Op.load 4 (Operand.tmp 119)), none⟩,
  ⟨some 121, (Op.move (Operand.tmp 120)), none⟩,
  ⟨some 122, (Op.fieldAddr 90 (Operand.tmp 10) 2), some (121, true)⟩,
  ⟨some 123, (Op.load 4 (Operand.tmp 122)), some (121, true)⟩,
  ⟨some 124, (Op.unOp UnOp.not 4 (Operand.tmp 123)), some (121, true)⟩,
  ⟨some 125, (Op.pick (Operand.tmp 121) (Operand.tmp 124) (Operand.const (Value.bool false))), none⟩,
  ⟨some 126, (Op.move (Operand.tmp 125)), none⟩,
  ⟨some 127, (Op.fieldAddr 90 (Operand.tmp 10) 4), some (126, true)⟩,
  ⟨some 128, (Op.load 3 (Operand.tmp 127)), some (126, true)⟩,
  ⟨some 129, (Op.binOp BinOp.lss 3 (Operand.tmp 128) (Operand.const (Value.int IntKind.i64 3)) 3), some (126, true)⟩,
  ⟨some 130, (Op.pick (Operand.tmp 126) (Operand.tmp 129) (Operand.const (Value.bool false))), none⟩,
  ⟨some 6, (Op.assign (Operand.tmp 130)), none⟩])
 .ret)))))))))))
theorem fn50 : FnFact Try.prog 50 131 [(17, [(0, 0), (1, 3), (2, 0), (3, 3), (4, 0), (5, 3), (6, 0), (7, 3), (8, 0), (9, 3), (10, 1), (11, 2)], [[], [0], [], [2], [], [4], [2, 3, 4, 5], [2, 3, 4, 5, 6], [0, 1, 2, 3, 4, 5, 6, 7], [0, 1, 2, 3, 4, 5, 6, 7, 8], [], [0, 1, 2, 3, 4, 5, 6, 7, 8, 9, 10]])] [(ResultVar.tmp 6)] cd50 := ⟨by kernel_rfl, ⟨Try.f50, Try.func50, by kernel_rfl, by rfl, Try.ntmps50, congrArg Array.toList Try.results50⟩⟩
/-- examiner/hosts.isVerdict -/
def cd51 : CC := (.seq (.reg [⟨some 2, (Op.assign (Operand.const (Value.bool false))), none⟩])
 (.seq (.reg [⟨some 3, (Op.move (Operand.tmp 0)), none⟩,
  ⟨some 4, (Op.call { callee := (Callee.value (Operand.func 54)), args := #[(Operand.tmp 3), (Operand.const (Value.int IntKind.i64 0)), (Operand.const (Value.int IntKind.i64 4))], argTypes := #[3, 3, 3] }), none⟩,
  ⟨some 2, (Op.assign (Operand.tmp 4)), none⟩])
 .ret))
theorem fn51 : FnFact Try.prog 51 5 [] [(ResultVar.tmp 2)] cd51 := ⟨by kernel_rfl, ⟨Try.f51, Try.func51, by kernel_rfl, by rfl, Try.ntmps51, congrArg Array.toList Try.results51⟩⟩
/-- slices.Max[[]int,int] -/
def cd52 : CC := (.seq (.reg [⟨some 2, (Op.assign (Operand.const (Value.int IntKind.i64 0))), none⟩])
 (.seq (.seq (.reg [⟨some 5, (Op.move (Operand.tmp 0)), none⟩,
  ⟨some 6, (Op.call { callee := (Callee.builtin Builtin.len), args := #[(Operand.tmp 5)], argTypes := #[22] }), none⟩,
  ⟨some 7, (Op.binOp BinOp.lss 3 (Operand.tmp 6) (Operand.const (Value.int IntKind.i64 1)) 3), none⟩])
 (.cond (Operand.tmp 7) (.reg [⟨some 8, (Op.makeInterface 9 (Operand.const (Value.string { data := #[115, 108, 105, 99, 101, 115, 46, 77, 97, 120, 58, 32, 101, 109, 112, 116, 121, 32, 108, 105, 115, 116] }))), none⟩,
  ⟨none, (Op.panic (Operand.tmp 8)), none⟩]) .skip))
 (.seq (.reg [⟨some 9, (Op.move (Operand.tmp 0)), none⟩,
  ⟨some 10, (Op.indexAddr 22 (Operand.tmp 9) (Operand.const (Value.int IntKind.i64 0))), none⟩,
  ⟨some 11, (Op.load 3 (Operand.tmp 10)), none⟩,
  ⟨some 3, (Op.assign (Operand.tmp 11)), none⟩])
 (.seq (.seq (.reg [⟨some 4, (Op.assign (Operand.const (Value.int IntKind.i64 1))), none⟩])
 (.block 0 (.loop (.seq (.seq (.reg [⟨some 12, (Op.move (Operand.tmp 4)), none⟩,
  ⟨some 13, (Op.move (Operand.tmp 0)), none⟩,
  ⟨some 14, (Op.call { callee := (Callee.builtin Builtin.len), args := #[(Operand.tmp 13)], argTypes := #[22] }), none⟩,
  ⟨some 15, (Op.binOp BinOp.lss 3 (Operand.tmp 12) (Operand.tmp 14) 3), none⟩])
 (.cond (Operand.tmp 15) .skip (.exit 0)))
 (.seq (.block 1 (.reg [⟨some 18, (Op.move (Operand.tmp 3)), none⟩,
  ⟨some 19, (Op.move (Operand.tmp 0)), none⟩,
  ⟨some 20, (Op.move (Operand.tmp 4)), none⟩,
  ⟨some 21, (Op.indexAddr 22 (Operand.tmp 19) (Operand.tmp 20)), none⟩,
  ⟨some 22, (Op.load 3 (Operand.tmp 21)), none⟩,
  ⟨some 23, (Op.call { callee := (Callee.builtin Builtin.max), args := #[(Operand.tmp 18), (Operand.tmp 22)], argTypes := #[3, 3] }), none⟩,
  ⟨some 3, (Op.assign (Operand.tmp 23)), none⟩]))
 (.reg [⟨some 16, (Op.move (Operand.tmp 4)), none⟩,
  ⟨some 17, (Op.binOp BinOp.add 3 (Operand.tmp 16) (Operand.const (Value.int IntKind.i64 1)) 3), none⟩,
  ⟨some 4, (Op.assign (Operand.tmp 17)), none⟩]))))))
 (.seq (.reg [⟨some 24, (Op.move (Operand.tmp 3)), none⟩,
  ⟨some 2, (Op.assign (Operand.tmp 24)), none⟩])
 .ret)))))
theorem fn52 : FnFact Try.prog 52 25 [] [(ResultVar.tmp 2)] cd52 := ⟨by kernel_rfl, ⟨Try.f52, Try.func52, by kernel_rfl, by rfl, Try.ntmps52, congrArg Array.toList Try.results52⟩⟩
/-- examiner/hosts.ScheduleTo$1 -/
def cd53 : CC := (.seq (.reg [⟨some 7, (Op.move (Operand.tmp 0)), none⟩,
  ⟨some 8, (Op.move (Operand.tmp 1)), none⟩,
  ⟨some 9, (Op.build 39 #[(0, (Operand.tmp 7)), (1, (Operand.tmp 8))]), none⟩,
  ⟨some 6, (Op.alloc 39), none⟩,
  ⟨none, (Op.store 39 (Operand.tmp 6) (Operand.tmp 9)), none⟩])
 (.seq (.reg [⟨some 10, (Op.load 25 (Operand.tmp 2)), none⟩,
  ⟨some 11, (Op.load 39 (Operand.tmp 6)), none⟩,
  ⟨some 12, (Op.buildSlice 25 1 #[(0, (Operand.tmp 11))]), none⟩,
  ⟨some 13, (Op.call { callee := (Callee.builtin Builtin.append), args := #[(Operand.tmp 10), (Operand.tmp 12)], argTypes := #[25, 25] }), none⟩,
  ⟨none, (Op.store 25 (Operand.tmp 2) (Operand.tmp 13)), none⟩])
 (.reg [⟨some 14, (Op.load 83 (Operand.tmp 3)), none⟩,
  ⟨some 15, (Op.load 39 (Operand.tmp 6)), none⟩,
  ⟨some 16, (Op.call { callee := (Callee.value (Operand.func 47)), args := #[(Operand.tmp 14), (Operand.tmp 15)], argTypes := #[83, 39] }), none⟩])))
theorem fn53 : FnFact Try.prog 53 17 [] [] cd53 := ⟨by kernel_rfl, ⟨Try.f53, Try.func53, by kernel_rfl, by rfl, Try.ntmps53, congrArg Array.toList Try.results53⟩⟩
/-- examiner/hosts.within -/
def cd54 : CC := (.seq (.reg [⟨some 6, (Op.assign (Operand.const (Value.bool false))), none⟩])
 (.seq (.reg [⟨some 7, (Op.move (Operand.tmp 1)), none⟩,
  ⟨some 8, (Op.move (Operand.tmp 0)), none⟩,
  ⟨some 9, (Op.binOp BinOp.leq 3 (Operand.tmp 7) (Operand.tmp 8) 3), none⟩,
  ⟨some 10, (Op.move (Operand.tmp 9)), none⟩,
  ⟨some 11, (Op.move (Operand.tmp 0)), some (10, true)⟩,
  ⟨some 12, (Op.move (Operand.tmp 2)), some (10, true)⟩,
  ⟨some 13, (Op.binOp BinOp.leq 3 (Operand.tmp 11) (Operand.tmp 12) 3), some (10, true)⟩,
  ⟨some 14, (Op.pick (Operand.tmp 10) (Operand.tmp 13) (Operand.const (Value.bool false))), none⟩,
  ⟨some 6, (Op.assign (Operand.tmp 14)), none⟩])
 .ret))
theorem fn54 : FnFact Try.prog 54 15 [] [(ResultVar.tmp 6)] cd54 := ⟨by kernel_rfl, ⟨Try.f54, Try.func54, by kernel_rfl, by rfl, Try.ntmps54, congrArg Array.toList Try.results54⟩⟩
/-- slices.ContainsFunc[[]examiner/api.HostState,examiner/api.HostState] -/
def cd55 : CC := (.seq (.reg [⟨some 4, (Op.assign (Operand.const (Value.bool false))), none⟩])
 (.seq (.reg [⟨some 5, (Op.move (Operand.tmp 0)), none⟩,
  ⟨some 6, (Op.move (Operand.tmp 1)), none⟩,
  ⟨some 7, (Op.call { callee := (Callee.value (Operand.func 79)), args := #[(Operand.tmp 5), (Operand.tmp 6)], argTypes := #[30, 95] }), none⟩,
  ⟨some 8, (Op.binOp BinOp.geq 3 (Operand.tmp 7) (Operand.const (Value.int IntKind.i64 0)) 3), none⟩,
  ⟨some 4, (Op.assign (Operand.tmp 8)), none⟩])
 .ret))
theorem fn55 : FnFact Try.prog 55 9 [] [(ResultVar.tmp 4)] cd55 := ⟨by kernel_rfl, ⟨Try.f55, Try.func55, by kernel_rfl, by rfl, Try.ntmps55, congrArg Array.toList Try.results55⟩⟩
/-- examiner/hosts.CheckState$1 -/
def cd56 : CC := (.seq (.reg [⟨some 1, (Op.box 80 (Operand.tmp 0)), none⟩,
  ⟨some 2, (Op.assign (Operand.const (Value.bool false))), none⟩])
 (.seq (.reg [⟨some 3, (Op.fieldAddr 80 (Operand.tmp 1) 1), none⟩,
  ⟨some 4, (Op.load 78 (Operand.tmp 3)), none⟩,
  ⟨some 5, (Op.call { callee := (Callee.builtin Builtin.len), args := #[(Operand.tmp 4)], argTypes := #[78] }), none⟩,
  ⟨some 6, (Op.binOp BinOp.gtr 3 (Operand.tmp 5) (Operand.const (Value.int IntKind.i64 6)) 3), none⟩,
  ⟨some 2, (Op.assign (Operand.tmp 6)), none⟩])
 .ret))
theorem fn56 : FnFact Try.prog 56 7 [] [(ResultVar.tmp 2)] cd56 := ⟨by kernel_rfl, ⟨Try.f56, Try.func56, by kernel_rfl, by rfl, Try.ntmps56, congrArg Array.toList Try.results56⟩⟩
/-- examiner/hosts.partErr -/
def cd57 : CC := (.seq (.reg [⟨some 4, (Op.box 24 (Operand.tmp 0)), none⟩,
  ⟨some 7, (Op.box 90 (Operand.tmp 3)), none⟩,
  ⟨some 8, (Op.assign (Operand.const (Value.int IntKind.i64 0))), none⟩])
 (.seq (.block 0 (.seq (.reg [⟨some 10, (Op.load 24 (Operand.tmp 4)), none⟩,
  ⟨some 11, (Op.fieldAddr 90 (Operand.tmp 7) 0), none⟩,
  ⟨some 12, (Op.load 3 (Operand.tmp 11)), none⟩,
  ⟨some 13, (Op.move (Operand.tmp 1)), none⟩,
  ⟨some 14, (Op.call { callee := (Callee.value (Operand.func 80)), args := #[(Operand.tmp 10), (Operand.tmp 12), (Operand.tmp 13)], argTypes := #[24, 3, 3] }), none⟩,
  ⟨some 15, (Op.unOp UnOp.not 4 (Operand.tmp 14)), none⟩,
  ⟨some 9, (Op.assign (Operand.tmp 15)), none⟩])
 (.cond (Operand.tmp 9) (.seq (.reg [⟨some 8, (Op.assign (Operand.const (Value.int IntKind.i64 11))), none⟩])
 .ret) (.seq (.reg [⟨some 17, (Op.move (Operand.tmp 2)), none⟩,
  ⟨some 18, (Op.makeFunc (Fn.func 82) #[] #[(Operand.tmp 7)]), none⟩,
  ⟨some 19, (Op.call { callee := (Callee.value (Operand.func 81)), args := #[(Operand.tmp 17), (Operand.tmp 18)], argTypes := #[78, 118] }), none⟩,
  ⟨some 16, (Op.assign (Operand.tmp 19)), none⟩])
 (.cond (Operand.tmp 16) (.seq (.reg [⟨some 8, (Op.assign (Operand.const (Value.int IntKind.i64 13))), none⟩])
 .ret) (.seq (.reg [⟨some 21, (Op.fieldAddr 90 (Operand.tmp 7) 1), none⟩,
  ⟨some 22, (Op.load 4 (Operand.tmp 21)), none⟩,
  ⟨some 23, (Op.unOp UnOp.not 4 (Operand.tmp 22)), none⟩,
  ⟨some 24, (Op.move (Operand.tmp 23)), none⟩,
  ⟨some 25, (Op.fieldAddr 90 (Operand.tmp 7) 2), some (24, true)⟩,
  ⟨some 26, (Op.load 4 (Operand.tmp 25)), some (24, true)⟩,
  ⟨some 27, (Op.move (Operand.tmp 26)), some (24, true)⟩,
  ⟨some 28, (Op.fieldAddr 90 (Operand.tmp 7) 3), some (27, false)⟩,
  ⟨some 29, (Op.load 3 (Operand.tmp 28)), some (27, false)⟩,
  ⟨some 30, (Op.binOp BinOp.neq 3 (Operand.tmp 29) (Operand.const (Value.int IntKind.i64 0)) 3), some (27, false)⟩,
  ⟨some 31, (Op.pick (Operand.tmp 27) (Operand.const (Value.bool true)) (Operand.tmp 30)), some (24, true)⟩,
  ⟨some 32, (Op.move (Operand.tmp 31)), some (24, true)⟩,
  ⟨some 33, (Op.fieldAddr 90 (Operand.tmp 7) 4), some (32, false)⟩,
  ⟨some 34, (Op.load 3 (Operand.tmp 33)), some (32, false)⟩,
  ⟨some 35, (Op.binOp BinOp.neq 3 (Operand.tmp 34) (Operand.const (Value.int IntKind.i64 0)) 3), some (32, false)⟩,
  ⟨some 36, (Op.pick (Operand.tmp 32) (Operand.const (Value.bool true)) (Operand.tmp 35)), some (24, true)⟩,
  ⟨some 37, (Op.pick (Operand.tmp 24) (Operand.tmp 36) (Operand.const (Value.bool false))), none⟩,
  ⟨some 20, (Op.assign (Operand.tmp 37)), none⟩])
 (.cond (Operand.tmp 20) (.seq (.reg [⟨some 8, (Op.assign (Operand.const (Value.int IntKind.i64 28))), none⟩])
 .ret) (.seq (.dr [⟨0, .F, ⟨some 39, (Op.fieldAddr 90 (Operand.tmp 7) 1), none⟩, [], false⟩,
  ⟨1, .R, ⟨some 40, (Op.load 4 (Operand.tmp 39)), none⟩, [], false⟩,
  ⟨2, .F, ⟨some 41, (Op.move (Operand.tmp 40)), none⟩, [], false⟩,
  ⟨3, .F, ⟨some 42, (Op.fieldAddr 90 (Operand.tmp 7) 3), some (41, true)⟩, [], false⟩,
  ⟨4, .R, ⟨some 43, (Op.load 3 (Operand.tmp 42)), some (41, true)⟩, [], false⟩,
  ⟨5, .F, ⟨some 44, (Op.fieldAddr 24 (Operand.tmp 4) 2), some (41, true)⟩, [], false⟩,
  ⟨6, .R, ⟨some 45, (Op.load 22 (Operand.tmp 44)), some (41, true)⟩, [], false⟩,
  ⟨7, .F, ⟨some 46, (Op.fieldAddr 90 (Operand.tmp 7) 0), some (41, true)⟩, [], false⟩,
  ⟨8, .R, ⟨some 47, (Op.load 3 (Operand.tmp 46)), some (41, true)⟩, [], false⟩,
  ⟨9, .F, ⟨some 48, (Op.indexAddr 22 (Operand.tmp 45) (Operand.tmp 47)), some (41, true)⟩, [], false⟩,
  ⟨10, .R, ⟨some 49, (Op.load 3 (Operand.tmp 48)), some (41, true)⟩, [], false⟩,
  ⟨11, .F, ⟨some 50, (Op.binOp BinOp.neq 3 (Operand.tmp 43) (Operand.tmp 49) 3), some (41, true)⟩, [], false⟩,
  ⟨12, .F, ⟨some 51, (Op.move (Operand.tmp 50)), some (41, true)⟩, [], false⟩,
  ⟨13, .F, ⟨some 52, (Op.fieldAddr 90 (Operand.tmp 7) 4), some (51, false)⟩, [], false⟩,
  ⟨14, .R, ⟨some 53, (Op.load 3 (Operand.tmp 52)), some (51, false)⟩, [], false⟩,
  ⟨15, .E, ⟨some 54, (Op.call { callee := (Callee.value (Operand.func 54)), args := #[(Operand.tmp 53), (Operand.const (Value.int IntKind.i64 1)), (Operand.const (Value.int IntKind.i64 3))], argTypes := #[3, 3, 3] }), some (51, false)⟩, [], false⟩,
  ⟨16, .F, ⟨some 55, (Op.unOp UnOp.not 4 (Operand.tmp 54)), some (51, false)⟩, [], false⟩,
  ⟨17, .F, ⟨some 56, (Op.pick (Operand.tmp 51) (Operand.const (Value.bool true)) (Operand.tmp 55)), some (41, true)⟩, [], false⟩,
  ⟨18, .F, ⟨some 57, (Op.pick (Operand.tmp 41) (Operand.tmp 56) (Operand.const (Value.bool false))), none⟩, [], false⟩,
  ⟨19, .F, ⟨some 38, (Op.assign (Operand.tmp 57)), none⟩, [], false⟩])
 (.cond (Operand.tmp 38) (.seq (.reg [⟨some 8, (Op.assign (Operand.const (Value.int IntKind.i64 3))), none⟩])
 .ret) .skip)))))))))
 (.seq (.reg [⟨some 8, (Op.assign (Operand.const (Value.int IntKind.i64 0))), none⟩])
 .ret)))
theorem fn57 : FnFact Try.prog 57 58 [(7, [(0, 0), (1, 3), (2, 0), (3, 0), (4, 3), (5, 0), (6, 3), (7, 0), (8, 3), (9, 0), (10, 3), (11, 0), (12, 0), (13, 0), (14, 3), (15, 2), (16, 0), (17, 0), (18, 0), (19, 0)], [[], [0], [0, 1], [0, 1, 2], [0, 1, 2, 3], [0, 1, 2], [0, 1, 2, 5], [0, 1, 2], [0, 1, 2, 7], [0, 1, 2, 5, 6, 7, 8], [0, 1, 2, 5, 6, 7, 8, 9], [0, 1, 2, 3, 4, 5, 6, 7, 8, 9, 10], [0, 1, 2, 3, 4, 5, 6, 7, 8, 9, 10, 11], [0, 1, 2, 3, 4, 5, 6, 7, 8, 9, 10, 11, 12], [0, 1, 2, 3, 4, 5, 6, 7, 8, 9, 10, 11, 12, 13], [0, 1, 2, 3, 4, 5, 6, 7, 8, 9, 10, 11, 12, 13, 14], [0, 1, 2, 3, 4, 5, 6, 7, 8, 9, 10, 11, 12, 13, 14, 15], [0, 1, 2, 3, 4, 5, 6, 7, 8, 9, 10, 11, 12, 13, 14, 15, 16], [0, 1, 2, 3, 4, 5, 6, 7, 8, 9, 10, 11, 12, 13, 14, 15, 16, 17], [0, 1, 2, 3, 4, 5, 6, 7, 8, 9, 10, 11, 12, 13, 14, 15, 16, 17, 18]])] [(ResultVar.tmp 8)] cd57 := ⟨by kernel_rfl, ⟨Try.f57, Try.func57, by kernel_rfl, by rfl, Try.ntmps57, congrArg Array.toList Try.results57⟩⟩
/-- examiner/hosts.packetErr -/
def cd58 : CC := (.seq (.reg [⟨some 2, (Op.box 24 (Operand.tmp 0)), none⟩,
  ⟨some 3, (Op.box 92 (Operand.tmp 1)), none⟩,
  ⟨some 4, (Op.assign (Operand.const (Value.int IntKind.i64 0))), none⟩])
 (.seq (.block 0 (.seq (.reg [⟨some 6, (Op.fieldAddr 92 (Operand.tmp 3) 0), none⟩,
  ⟨some 7, (Op.load 3 (Operand.tmp 6)), none⟩,
  ⟨some 8, (Op.call { callee := (Callee.value (Operand.func 54)), args := #[(Operand.tmp 7), (Operand.const (Value.int IntKind.i64 0)), (Operand.const (Value.int IntKind.i64 3))], argTypes := #[3, 3, 3] }), none⟩,
  ⟨some 9, (Op.unOp UnOp.not 4 (Operand.tmp 8)), none⟩,
  ⟨some 5, (Op.assign (Operand.tmp 9)), none⟩])
 (.cond (Operand.tmp 5) (.seq (.reg [⟨some 4, (Op.assign (Operand.const (Value.int IntKind.i64 4))), none⟩])
 .ret) (.seq (.reg [⟨some 11, (Op.fieldAddr 92 (Operand.tmp 3) 1), none⟩,
  ⟨some 12, (Op.load 3 (Operand.tmp 11)), none⟩,
  ⟨some 13, (Op.fieldAddr 24 (Operand.tmp 2) 0), none⟩,
  ⟨some 14, (Op.load 3 (Operand.tmp 13)), none⟩,
  ⟨some 15, (Op.binOp BinOp.sub 3 (Operand.tmp 14) (Operand.const (Value.int IntKind.i64 1)) 3), none⟩,
  ⟨some 16, (Op.call { callee := (Callee.value (Operand.func 54)), args := #[(Operand.tmp 12), (Operand.const (Value.int IntKind.i64 0)), (Operand.tmp 15)], argTypes := #[3, 3, 3] }), none⟩,
  ⟨some 17, (Op.unOp UnOp.not 4 (Operand.tmp 16)), none⟩,
  ⟨some 10, (Op.assign (Operand.tmp 17)), none⟩])
 (.cond (Operand.tmp 10) (.seq (.reg [⟨some 4, (Op.assign (Operand.const (Value.int IntKind.i64 3))), none⟩])
 .ret) (.seq (.reg [⟨some 19, (Op.load 24 (Operand.tmp 2)), none⟩,
  ⟨some 20, (Op.fieldAddr 92 (Operand.tmp 3) 2), none⟩,
  ⟨some 21, (Op.load 3 (Operand.tmp 20)), none⟩,
  ⟨some 22, (Op.fieldAddr 92 (Operand.tmp 3) 1), none⟩,
  ⟨some 23, (Op.load 3 (Operand.tmp 22)), none⟩,
  ⟨some 24, (Op.call { callee := (Callee.value (Operand.func 80)), args := #[(Operand.tmp 19), (Operand.tmp 21), (Operand.tmp 23)], argTypes := #[24, 3, 3] }), none⟩,
  ⟨some 25, (Op.unOp UnOp.not 4 (Operand.tmp 24)), none⟩,
  ⟨some 18, (Op.assign (Operand.tmp 25)), none⟩])
 (.cond (Operand.tmp 18) (.seq (.reg [⟨some 4, (Op.assign (Operand.const (Value.int IntKind.i64 11))), none⟩])
 .ret) (.seq (.seq (.dr [⟨0, .F, ⟨some 27, (Op.fieldAddr 92 (Operand.tmp 3) 0), none⟩, [], false⟩,
  ⟨1, .R, ⟨some 28, (Op.load 3 (Operand.tmp 27)), none⟩, [], false⟩,
  ⟨2, .F, ⟨some 29, (Op.binOp BinOp.eql 3 (Operand.tmp 28) (Operand.const (Value.int IntKind.i64 2)) 3), none⟩, [], false⟩,
  ⟨3, .F, ⟨some 30, (Op.move (Operand.tmp 29)), none⟩, [], false⟩,
  ⟨4, .F, ⟨some 31, (Op.fieldAddr 92 (Operand.tmp 3) 3), some (30, true)⟩, [], false⟩,
  ⟨5, .R, ⟨some 32, (Op.load 3 (Operand.tmp 31)), some (30, true)⟩, [], false⟩,
  ⟨6, .F, ⟨some 33, (Op.fieldAddr 24 (Operand.tmp 2) 2), some (30, true)⟩, [], false⟩,
  ⟨7, .R, ⟨some 34, (Op.load 22 (Operand.tmp 33)), some (30, true)⟩, [], false⟩,
  ⟨8, .F, ⟨some 35, (Op.fieldAddr 92 (Operand.tmp 3) 2), some (30, true)⟩, [], false⟩,
  ⟨9, .R, ⟨some 36, (Op.load 3 (Operand.tmp 35)), some (30, true)⟩, [], false⟩,
  ⟨10, .F, ⟨some 37, (Op.indexAddr 22 (Operand.tmp 34) (Operand.tmp 36)), some (30, true)⟩, [], false⟩,
  ⟨11, .R, ⟨some 38, (Op.load 3 (Operand.tmp 37)), some (30, true)⟩, [], false⟩,
  ⟨12, .F, ⟨some 39, (Op.binOp BinOp.neq 3 (Operand.tmp 32) (Operand.tmp 38) 3), some (30, true)⟩, [], false⟩,
  ⟨13, .F, ⟨some 40, (Op.pick (Operand.tmp 30) (Operand.tmp 39) (Operand.const (Value.bool false))), none⟩, [], false⟩,
  ⟨14, .F, ⟨some 26, (Op.assign (Operand.tmp 40)), none⟩, [], false⟩])
 (.cond (Operand.tmp 26) .skip (.reg [⟨some 41, (Op.fieldAddr 92 (Operand.tmp 3) 0), none⟩,
  ⟨some 42, (Op.load 3 (Operand.tmp 41)), none⟩,
  ⟨some 43, (Op.binOp BinOp.neq 3 (Operand.tmp 42) (Operand.const (Value.int IntKind.i64 2)) 3), none⟩,
  ⟨some 44, (Op.move (Operand.tmp 43)), none⟩,
  ⟨some 45, (Op.fieldAddr 92 (Operand.tmp 3) 3), some (44, true)⟩,
  ⟨some 46, (Op.load 3 (Operand.tmp 45)), some (44, true)⟩,
  ⟨some 47, (Op.binOp BinOp.neq 3 (Operand.tmp 46) (Operand.const (Value.int IntKind.i64 0)) 3), some (44, true)⟩,
  ⟨some 48, (Op.pick (Operand.tmp 44) (Operand.tmp 47) (Operand.const (Value.bool false))), none⟩,
  ⟨some 26, (Op.assign (Operand.tmp 48)), none⟩])))
 (.cond (Operand.tmp 26) (.seq (.reg [⟨some 4, (Op.assign (Operand.const (Value.int IntKind.i64 3))), none⟩])
 .ret) .skip)))))))))
 (.seq (.reg [⟨some 4, (Op.assign (Operand.const (Value.int IntKind.i64 0))), none⟩])
 .ret)))
theorem fn58 : FnFact Try.prog 58 49 [(7, [(0, 0), (1, 3), (2, 0), (3, 0), (4, 0), (5, 3), (6, 0), (7, 3), (8, 0), (9, 3), (10, 0), (11, 3), (12, 0), (13, 0), (14, 0)], [[], [0], [0, 1], [0, 1, 2], [0, 1, 2, 3], [0, 1, 2, 3, 4], [0, 1, 2, 3], [0, 1, 2, 3, 6], [0, 1, 2, 3], [0, 1, 2, 3, 8], [0, 1, 2, 3, 6, 7, 8, 9], [0, 1, 2, 3, 6, 7, 8, 9, 10], [0, 1, 2, 3, 4, 5, 6, 7, 8, 9, 10, 11], [0, 1, 2, 3, 4, 5, 6, 7, 8, 9, 10, 11, 12], [0, 1, 2, 3, 4, 5, 6, 7, 8, 9, 10, 11, 12, 13]])] [(ResultVar.tmp 4)] cd58 := ⟨by kernel_rfl, ⟨Try.f58, Try.func58, by kernel_rfl, by rfl, Try.ntmps58, congrArg Array.toList Try.results58⟩⟩
/-- examiner/examinerref36.placedErr -/
def cd59 : CC := (.seq (.reg [⟨some 1, (Op.box 33 (Operand.tmp 0)), none⟩,
  ⟨some 2, (Op.assign (Operand.const (Value.int IntKind.i64 0))), none⟩,
  ⟨some 3, (Op.assign (Operand.const (Value.int IntKind.i64 0))), none⟩])
 (.seq (.reg [⟨some 4, (Op.assign (Operand.const (Value.int IntKind.i64 0))), none⟩])
 (.seq (.seq (.reg [⟨some 5, (Op.assign (Operand.const (Value.int IntKind.i64 0))), none⟩])
 (.block 0 (.loop (.seq (.seq (.reg [⟨some 7, (Op.move (Operand.tmp 5)), none⟩,
  ⟨some 8, (Op.fieldAddr 33 (Operand.tmp 1) 0), none⟩,
  ⟨some 9, (Op.load 29 (Operand.tmp 8)), none⟩,
  ⟨some 10, (Op.call { callee := (Callee.builtin Builtin.len), args := #[(Operand.tmp 9)], argTypes := #[29] }), none⟩,
  ⟨some 11, (Op.binOp BinOp.lss 3 (Operand.tmp 7) (Operand.tmp 10) 3), none⟩])
 (.cond (Operand.tmp 11) .skip (.exit 0)))
 (.seq (.block 1 (.seq (.reg [⟨some 14, (Op.fieldAddr 33 (Operand.tmp 1) 0), none⟩,
  ⟨some 15, (Op.load 29 (Operand.tmp 14)), none⟩,
  ⟨some 16, (Op.move (Operand.tmp 5)), none⟩,
  ⟨some 17, (Op.indexAddr 29 (Operand.tmp 15) (Operand.tmp 16)), none⟩,
  ⟨some 18, (Op.load 68 (Operand.tmp 17)), none⟩,
  ⟨some 6, (Op.alloc 68), none⟩,
  ⟨none, (Op.store 68 (Operand.tmp 6) (Operand.tmp 18)), none⟩])
 (.seq (.seq (.reg [⟨some 19, (Op.fieldAddr 68 (Operand.tmp 6) 0), none⟩,
  ⟨some 20, (Op.load 3 (Operand.tmp 19)), none⟩,
  ⟨some 21, (Op.call { callee := (Callee.value (Operand.func 29)), args := #[(Operand.tmp 20), (Operand.const (Value.int IntKind.i64 0)), (Operand.const (Value.int IntKind.i64 3))], argTypes := #[3, 3, 3] }), none⟩,
  ⟨some 22, (Op.unOp UnOp.not 4 (Operand.tmp 21)), none⟩,
  ⟨some 23, (Op.move (Operand.tmp 22)), none⟩,
  ⟨some 24, (Op.fieldAddr 68 (Operand.tmp 6) 3), some (23, false)⟩,
  ⟨some 25, (Op.load 3 (Operand.tmp 24)), some (23, false)⟩,
  ⟨some 26, (Op.call { callee := (Callee.value (Operand.func 40)), args := #[(Operand.tmp 25)], argTypes := #[3] }), some (23, false)⟩,
  ⟨some 27, (Op.unOp UnOp.not 4 (Operand.tmp 26)), some (23, false)⟩,
  ⟨some 28, (Op.pick (Operand.tmp 23) (Operand.const (Value.bool true)) (Operand.tmp 27)), none⟩])
 (.cond (Operand.tmp 28) (.seq (.reg [⟨some 29, (Op.move (Operand.tmp 5)), none⟩,
  ⟨some 2, (Op.assign (Operand.tmp 29)), none⟩,
  ⟨some 3, (Op.assign (Operand.const (Value.int IntKind.i64 3))), none⟩])
 .ret) .skip))
 (.seq (.seq (.reg [⟨some 30, (Op.fieldAddr 68 (Operand.tmp 6) 2), none⟩,
  ⟨some 31, (Op.load 4 (Operand.tmp 30)), none⟩,
  ⟨some 32, (Op.unOp UnOp.not 4 (Operand.tmp 31)), none⟩,
  ⟨some 33, (Op.move (Operand.tmp 32)), none⟩,
  ⟨some 34, (Op.fieldAddr 68 (Operand.tmp 6) 3), some (33, true)⟩,
  ⟨some 35, (Op.load 3 (Operand.tmp 34)), some (33, true)⟩,
  ⟨some 36, (Op.binOp BinOp.neq 3 (Operand.tmp 35) (Operand.const (Value.int IntKind.i64 0)) 3), some (33, true)⟩,
  ⟨some 37, (Op.pick (Operand.tmp 33) (Operand.tmp 36) (Operand.const (Value.bool false))), none⟩])
 (.cond (Operand.tmp 37) (.seq (.reg [⟨some 38, (Op.move (Operand.tmp 5)), none⟩,
  ⟨some 2, (Op.assign (Operand.tmp 38)), none⟩,
  ⟨some 3, (Op.assign (Operand.const (Value.int IntKind.i64 28))), none⟩])
 .ret) .skip))
 (.reg [⟨some 39, (Op.move (Operand.tmp 4)), none⟩,
  ⟨some 40, (Op.fieldAddr 68 (Operand.tmp 6) 3), none⟩,
  ⟨some 41, (Op.load 3 (Operand.tmp 40)), none⟩,
  ⟨some 42, (Op.call { callee := (Callee.builtin Builtin.max), args := #[(Operand.tmp 39), (Operand.tmp 41)], argTypes := #[3, 3] }), none⟩,
  ⟨some 4, (Op.assign (Operand.tmp 42)), none⟩])))))
 (.reg [⟨some 12, (Op.move (Operand.tmp 5)), none⟩,
  ⟨some 13, (Op.binOp BinOp.add 3 (Operand.tmp 12) (Operand.const (Value.int IntKind.i64 1)) 3), none⟩,
  ⟨some 5, (Op.assign (Operand.tmp 13)), none⟩]))))))
 (.seq (.reg [⟨some 43, (Op.move (Operand.tmp 4)), none⟩,
  ⟨some 44, (Op.fieldAddr 33 (Operand.tmp 1) 1), none⟩,
  ⟨some 45, (Op.load 3 (Operand.tmp 44)), none⟩,
  ⟨some 46, (Op.binOp BinOp.neq 3 (Operand.tmp 43) (Operand.tmp 45) 3), none⟩,
  ⟨some 47, (Op.call { callee := (Callee.value (Operand.func 63)), args := #[(Operand.tmp 46)], argTypes := #[4] }), none⟩,
  ⟨some 48, (Op.binOp BinOp.mul 3 (Operand.const (Value.int IntKind.i64 3)) (Operand.tmp 47) 3), none⟩,
  ⟨some 2, (Op.assign (Operand.const (Value.int IntKind.i64 0))), none⟩,
  ⟨some 3, (Op.assign (Operand.tmp 48)), none⟩])
 .ret))))
theorem fn59 : FnFact Try.prog 59 49 [] [(ResultVar.tmp 2), (ResultVar.tmp 3)] cd59 := ⟨by kernel_rfl, ⟨Try.f59, Try.func59, by kernel_rfl, by rfl, Try.ntmps59, congrArg Array.toList Try.results59⟩⟩
/-- examiner/examinerref36.hostErr -/
def cd60 : CC := (.seq (.reg [⟨some 3, (Op.box 24 (Operand.tmp 0)), none⟩,
  ⟨some 4, (Op.box 33 (Operand.tmp 1)), none⟩,
  ⟨some 6, (Op.assign (Operand.const (Value.int IntKind.i64 0))), none⟩])
 (.seq (.reg [⟨some 11, (Op.fieldAddr 33 (Operand.tmp 4) 2), none⟩,
  ⟨some 12, (Op.load 30 (Operand.tmp 11)), none⟩,
  ⟨some 13, (Op.move (Operand.tmp 2)), none⟩,
  ⟨some 14, (Op.indexAddr 30 (Operand.tmp 12) (Operand.tmp 13)), none⟩,
  ⟨some 15, (Op.fieldAddr 80 (Operand.tmp 14) 1), none⟩,
  ⟨some 16, (Op.load 78 (Operand.tmp 15)), none⟩,
  ⟨some 7, (Op.assign (Operand.tmp 16)), none⟩])
 (.seq (.seq (.reg [⟨some 8, (Op.assign (Operand.const (Value.int IntKind.i64 0))), none⟩])
 (.block 0 (.loop (.seq (.seq (.reg [⟨some 17, (Op.move (Operand.tmp 8)), none⟩,
  ⟨some 18, (Op.move (Operand.tmp 7)), none⟩,
  ⟨some 19, (Op.call { callee := (Callee.builtin Builtin.len), args := #[(Operand.tmp 18)], argTypes := #[78] }), none⟩,
  ⟨some 20, (Op.binOp BinOp.lss 3 (Operand.tmp 17) (Operand.tmp 19) 3), none⟩])
 (.cond (Operand.tmp 20) .skip (.exit 0)))
 (.seq (.block 1 (.seq (.reg [⟨some 23, (Op.move (Operand.tmp 7)), none⟩,
  ⟨some 24, (Op.move (Operand.tmp 8)), none⟩,
  ⟨some 25, (Op.indexAddr 78 (Operand.tmp 23) (Operand.tmp 24)), none⟩,
  ⟨some 26, (Op.load 90 (Operand.tmp 25)), none⟩,
  ⟨some 9, (Op.alloc 90), none⟩,
  ⟨none, (Op.store 90 (Operand.tmp 9) (Operand.tmp 26)), none⟩])
 (.seq (.seq (.reg [⟨some 27, (Op.fieldAddr 90 (Operand.tmp 9) 0), none⟩,
  ⟨some 28, (Op.load 3 (Operand.tmp 27)), none⟩,
  ⟨some 29, (Op.fieldAddr 24 (Operand.tmp 3) 1), none⟩,
  ⟨some 30, (Op.load 22 (Operand.tmp 29)), none⟩,
  ⟨some 31, (Op.call { callee := (Callee.builtin Builtin.len), args := #[(Operand.tmp 30)], argTypes := #[22] }), none⟩,
  ⟨some 32, (Op.binOp BinOp.sub 3 (Operand.tmp 31) (Operand.const (Value.int IntKind.i64 1)) 3), none⟩,
  ⟨some 33, (Op.call { callee := (Callee.value (Operand.func 29)), args := #[(Operand.tmp 28), (Operand.const (Value.int IntKind.i64 0)), (Operand.tmp 32)], argTypes := #[3, 3, 3] }), none⟩,
  ⟨some 34, (Op.unOp UnOp.not 4 (Operand.tmp 33)), none⟩,
  ⟨some 35, (Op.move (Operand.tmp 34)), none⟩,
  ⟨some 36, (Op.fieldAddr 24 (Operand.tmp 3) 1), some (35, false)⟩,
  ⟨some 37, (Op.load 22 (Operand.tmp 36)), some (35, false)⟩,
  ⟨some 38, (Op.fieldAddr 90 (Operand.tmp 9) 0), some (35, false)⟩,
  ⟨some 39, (Op.load 3 (Operand.tmp 38)), some (35, false)⟩,
  ⟨some 40, (Op.indexAddr 22 (Operand.tmp 37) (Operand.tmp 39)), some (35, false)⟩,
  ⟨some 41, (Op.load 3 (Operand.tmp 40)), some (35, false)⟩,
  ⟨some 42, (Op.move (Operand.tmp 2)), some (35, false)⟩,
  ⟨some 43, (Op.binOp BinOp.neq 3 (Operand.tmp 41) (Operand.tmp 42) 3), some (35, false)⟩,
  ⟨some 44, (Op.pick (Operand.tmp 35) (Operand.const (Value.bool true)) (Operand.tmp 43)), none⟩])
 (.cond (Operand.tmp 44) (.seq (.reg [⟨some 6, (Op.assign (Operand.const (Value.int IntKind.i64 11))), none⟩])
 .ret) .skip))
 (.seq (.seq (.reg [⟨some 10, (Op.assign (Operand.const (Value.int IntKind.i64 0))), none⟩])
 (.block 2 (.loop (.seq (.seq (.reg [⟨some 45, (Op.move (Operand.tmp 10)), none⟩,
  ⟨some 46, (Op.move (Operand.tmp 8)), none⟩,
  ⟨some 47, (Op.binOp BinOp.lss 3 (Operand.tmp 45) (Operand.tmp 46) 3), none⟩])
 (.cond (Operand.tmp 47) .skip (.exit 2)))
 (.seq (.block 3 (.seq (.dr [⟨0, .F, ⟨some 50, (Op.move (Operand.tmp 7)), none⟩, [], false⟩,
  ⟨1, .F, ⟨some 51, (Op.move (Operand.tmp 10)), none⟩, [], false⟩,
  ⟨2, .F, ⟨some 52, (Op.indexAddr 78 (Operand.tmp 50) (Operand.tmp 51)), none⟩, [], false⟩,
  ⟨3, .F, ⟨some 53, (Op.fieldAddr 90 (Operand.tmp 52) 0), none⟩, [], false⟩,
  ⟨4, .R, ⟨some 54, (Op.load 3 (Operand.tmp 53)), none⟩, [], false⟩,
  ⟨5, .F, ⟨some 55, (Op.fieldAddr 90 (Operand.tmp 9) 0), none⟩, [], false⟩,
  ⟨6, .R, ⟨some 56, (Op.load 3 (Operand.tmp 55)), none⟩, [], false⟩,
  ⟨7, .F, ⟨some 57, (Op.binOp BinOp.eql 3 (Operand.tmp 54) (Operand.tmp 56) 3), none⟩, [], false⟩])
 (.cond (Operand.tmp 57) (.seq (.reg [⟨some 6, (Op.assign (Operand.const (Value.int IntKind.i64 13))), none⟩])
 .ret) .skip)))
 (.reg [⟨some 48, (Op.move (Operand.tmp 10)), none⟩,
  ⟨some 49, (Op.binOp BinOp.add 3 (Operand.tmp 48) (Operand.const (Value.int IntKind.i64 1)) 3), none⟩,
  ⟨some 10, (Op.assign (Operand.tmp 49)), none⟩]))))))
 (.seq (.seq (.reg [⟨some 58, (Op.fieldAddr 90 (Operand.tmp 9) 1), none⟩,
  ⟨some 59, (Op.load 4 (Operand.tmp 58)), none⟩,
  ⟨some 60, (Op.unOp UnOp.not 4 (Operand.tmp 59)), none⟩,
  ⟨some 61, (Op.move (Operand.tmp 60)), none⟩,
  ⟨some 62, (Op.fieldAddr 90 (Operand.tmp 9) 2), some (61, true)⟩,
  ⟨some 63, (Op.load 4 (Operand.tmp 62)), some (61, true)⟩,
  ⟨some 64, (Op.move (Operand.tmp 63)), some (61, true)⟩,
  ⟨some 65, (Op.fieldAddr 90 (Operand.tmp 9) 3), some (64, false)⟩,
  ⟨some 66, (Op.load 3 (Operand.tmp 65)), some (64, false)⟩,
  ⟨some 67, (Op.binOp BinOp.neq 3 (Operand.tmp 66) (Operand.const (Value.int IntKind.i64 0)) 3), some (64, false)⟩,
  ⟨some 68, (Op.pick (Operand.tmp 64) (Operand.const (Value.bool true)) (Operand.tmp 67)), some (61, true)⟩,
  ⟨some 69, (Op.move (Operand.tmp 68)), some (61, true)⟩,
  ⟨some 70, (Op.fieldAddr 90 (Operand.tmp 9) 4), some (69, false)⟩,
  ⟨some 71, (Op.load 3 (Operand.tmp 70)), some (69, false)⟩,
  ⟨some 72, (Op.binOp BinOp.neq 3 (Operand.tmp 71) (Operand.const (Value.int IntKind.i64 0)) 3), some (69, false)⟩,
  ⟨some 73, (Op.pick (Operand.tmp 69) (Operand.const (Value.bool true)) (Operand.tmp 72)), some (61, true)⟩,
  ⟨some 74, (Op.pick (Operand.tmp 61) (Operand.tmp 73) (Operand.const (Value.bool false))), none⟩])
 (.cond (Operand.tmp 74) (.seq (.reg [⟨some 6, (Op.assign (Operand.const (Value.int IntKind.i64 28))), none⟩])
 .ret) .skip))
 (.seq (.dr [⟨0, .F, ⟨some 75, (Op.fieldAddr 90 (Operand.tmp 9) 1), none⟩, [], false⟩,
  ⟨1, .R, ⟨some 76, (Op.load 4 (Operand.tmp 75)), none⟩, [], false⟩,
  ⟨2, .F, ⟨some 77, (Op.move (Operand.tmp 76)), none⟩, [], false⟩,
  ⟨3, .F, ⟨some 78, (Op.fieldAddr 90 (Operand.tmp 9) 3), some (77, true)⟩, [], false⟩,
  ⟨4, .R, ⟨some 79, (Op.load 3 (Operand.tmp 78)), some (77, true)⟩, [], false⟩,
  ⟨5, .F, ⟨some 80, (Op.fieldAddr 24 (Operand.tmp 3) 2), some (77, true)⟩, [], false⟩,
  ⟨6, .R, ⟨some 81, (Op.load 22 (Operand.tmp 80)), some (77, true)⟩, [], false⟩,
  ⟨7, .F, ⟨some 82, (Op.fieldAddr 90 (Operand.tmp 9) 0), some (77, true)⟩, [], false⟩,
  ⟨8, .R, ⟨some 83, (Op.load 3 (Operand.tmp 82)), some (77, true)⟩, [], false⟩,
  ⟨9, .F, ⟨some 84, (Op.indexAddr 22 (Operand.tmp 81) (Operand.tmp 83)), some (77, true)⟩, [], false⟩,
  ⟨10, .R, ⟨some 85, (Op.load 3 (Operand.tmp 84)), some (77, true)⟩, [], false⟩,
  ⟨11, .F, ⟨some 86, (Op.binOp BinOp.neq 3 (Operand.tmp 79) (Operand.tmp 85) 3), some (77, true)⟩, [], false⟩,
  ⟨12, .F, ⟨some 87, (Op.move (Operand.tmp 86)), some (77, true)⟩, [], false⟩,
  ⟨13, .F, ⟨some 88, (Op.fieldAddr 90 (Operand.tmp 9) 4), some (87, false)⟩, [], false⟩,
  ⟨14, .R, ⟨some 89, (Op.load 3 (Operand.tmp 88)), some (87, false)⟩, [], false⟩,
  ⟨15, .E, ⟨some 90, (Op.call { callee := (Callee.value (Operand.func 29)), args := #[(Operand.tmp 89), (Operand.const (Value.int IntKind.i64 1)), (Operand.const (Value.int IntKind.i64 3))], argTypes := #[3, 3, 3] }), some (87, false)⟩, [], false⟩,
  ⟨16, .F, ⟨some 91, (Op.unOp UnOp.not 4 (Operand.tmp 90)), some (87, false)⟩, [], false⟩,
  ⟨17, .F, ⟨some 92, (Op.pick (Operand.tmp 87) (Operand.const (Value.bool true)) (Operand.tmp 91)), some (77, true)⟩, [], false⟩,
  ⟨18, .F, ⟨some 93, (Op.pick (Operand.tmp 77) (Operand.tmp 92) (Operand.const (Value.bool false))), none⟩, [], false⟩])
 (.cond (Operand.tmp 93) (.seq (.reg [⟨some 6, (Op.assign (Operand.const (Value.int IntKind.i64 3))), none⟩])
 .ret) .skip)))))))
 (.reg [⟨some 21, (Op.move (Operand.tmp 8)), none⟩,
  ⟨some 22, (Op.binOp BinOp.add 3 (Operand.tmp 21) (Operand.const (Value.int IntKind.i64 1)) 3), none⟩,
  ⟨some 8, (Op.assign (Operand.tmp 22)), none⟩]))))))
 (.seq (.reg [⟨some 6, (Op.assign (Operand.const (Value.int IntKind.i64 0))), none⟩])
 .ret))))
theorem fn60 : FnFact Try.prog 60 94 [(11, [(0, 0), (1, 0), (2, 0), (3, 0), (4, 3), (5, 0), (6, 3), (7, 0)], [[], [], [0, 1], [0, 1, 2], [0, 1, 2, 3], [], [5], [0, 1, 2, 3, 4, 5, 6]]), (15, [(0, 0), (1, 3), (2, 0), (3, 0), (4, 3), (5, 0), (6, 3), (7, 0), (8, 3), (9, 0), (10, 3), (11, 0), (12, 0), (13, 0), (14, 3), (15, 2), (16, 0), (17, 0), (18, 0)], [[], [0], [0, 1], [0, 1, 2], [0, 1, 2, 3], [0, 1, 2], [0, 1, 2, 5], [0, 1, 2], [0, 1, 2, 7], [0, 1, 2, 5, 6, 7, 8], [0, 1, 2, 5, 6, 7, 8, 9], [0, 1, 2, 3, 4, 5, 6, 7, 8, 9, 10], [0, 1, 2, 3, 4, 5, 6, 7, 8, 9, 10, 11], [0, 1, 2, 3, 4, 5, 6, 7, 8, 9, 10, 11, 12], [0, 1, 2, 3, 4, 5, 6, 7, 8, 9, 10, 11, 12, 13], [0, 1, 2, 3, 4, 5, 6, 7, 8, 9, 10, 11, 12, 13, 14], [0, 1, 2, 3, 4, 5, 6, 7, 8, 9, 10, 11, 12, 13, 14, 15], [0, 1, 2, 3, 4, 5, 6, 7, 8, 9, 10, 11, 12, 13, 14, 15, 16], [0, 1, 2, 3, 4, 5, 6, 7, 8, 9, 10, 11, 12, 13, 14, 15, 16, 17]])] [(ResultVar.tmp 6)] cd60 := ⟨by kernel_rfl, ⟨Try.f60, Try.func60, by kernel_rfl, by rfl, Try.ntmps60, congrArg Array.toList Try.results60⟩⟩
/-- examiner/examinerref36.packetErr -/
def cd61 : CC := (.seq (.reg [⟨some 2, (Op.box 24 (Operand.tmp 0)), none⟩,
  ⟨some 3, (Op.box 92 (Operand.tmp 1)), none⟩,
  ⟨some 4, (Op.assign (Operand.const (Value.int IntKind.i64 0))), none⟩])
 (.seq (.seq (.reg [⟨some 6, (Op.fieldAddr 92 (Operand.tmp 3) 0), none⟩,
  ⟨some 7, (Op.load 3 (Operand.tmp 6)), none⟩,
  ⟨some 8, (Op.call { callee := (Callee.value (Operand.func 29)), args := #[(Operand.tmp 7), (Operand.const (Value.int IntKind.i64 0)), (Operand.const (Value.int IntKind.i64 3))], argTypes := #[3, 3, 3] }), none⟩,
  ⟨some 9, (Op.unOp UnOp.not 4 (Operand.tmp 8)), none⟩])
 (.cond (Operand.tmp 9) (.seq (.reg [⟨some 4, (Op.assign (Operand.const (Value.int IntKind.i64 4))), none⟩])
 .ret) .skip))
 (.seq (.seq (.reg [⟨some 10, (Op.fieldAddr 92 (Operand.tmp 3) 1), none⟩,
  ⟨some 11, (Op.load 3 (Operand.tmp 10)), none⟩,
  ⟨some 12, (Op.fieldAddr 24 (Operand.tmp 2) 0), none⟩,
  ⟨some 13, (Op.load 3 (Operand.tmp 12)), none⟩,
  ⟨some 14, (Op.binOp BinOp.sub 3 (Operand.tmp 13) (Operand.const (Value.int IntKind.i64 1)) 3), none⟩,
  ⟨some 15, (Op.call { callee := (Callee.value (Operand.func 29)), args := #[(Operand.tmp 11), (Operand.const (Value.int IntKind.i64 0)), (Operand.tmp 14)], argTypes := #[3, 3, 3] }), none⟩,
  ⟨some 16, (Op.unOp UnOp.not 4 (Operand.tmp 15)), none⟩])
 (.cond (Operand.tmp 16) (.seq (.reg [⟨some 4, (Op.assign (Operand.const (Value.int IntKind.i64 3))), none⟩])
 .ret) .skip))
 (.seq (.seq (.dr [⟨0, .F, ⟨some 17, (Op.fieldAddr 92 (Operand.tmp 3) 2), none⟩, [], false⟩,
  ⟨1, .R, ⟨some 18, (Op.load 3 (Operand.tmp 17)), none⟩, [], false⟩,
  ⟨2, .F, ⟨some 19, (Op.fieldAddr 24 (Operand.tmp 2) 1), none⟩, [], false⟩,
  ⟨3, .R, ⟨some 20, (Op.load 22 (Operand.tmp 19)), none⟩, [], false⟩,
  ⟨4, .F, ⟨some 21, (Op.call { callee := (Callee.builtin Builtin.len), args := #[(Operand.tmp 20)], argTypes := #[22] }), none⟩, [], false⟩,
  ⟨5, .F, ⟨some 22, (Op.binOp BinOp.sub 3 (Operand.tmp 21) (Operand.const (Value.int IntKind.i64 1)) 3), none⟩, [], false⟩,
  ⟨6, .E, ⟨some 23, (Op.call { callee := (Callee.value (Operand.func 29)), args := #[(Operand.tmp 18), (Operand.const (Value.int IntKind.i64 0)), (Operand.tmp 22)], argTypes := #[3, 3, 3] }), none⟩, [], false⟩,
  ⟨7, .F, ⟨some 24, (Op.unOp UnOp.not 4 (Operand.tmp 23)), none⟩, [], false⟩,
  ⟨8, .F, ⟨some 25, (Op.move (Operand.tmp 24)), none⟩, [], false⟩,
  ⟨9, .F, ⟨some 26, (Op.fieldAddr 24 (Operand.tmp 2) 1), some (25, false)⟩, [], false⟩,
  ⟨10, .R, ⟨some 27, (Op.load 22 (Operand.tmp 26)), some (25, false)⟩, [], false⟩,
  ⟨11, .F, ⟨some 28, (Op.fieldAddr 92 (Operand.tmp 3) 2), some (25, false)⟩, [], false⟩,
  ⟨12, .R, ⟨some 29, (Op.load 3 (Operand.tmp 28)), some (25, false)⟩, [], false⟩,
  ⟨13, .F, ⟨some 30, (Op.indexAddr 22 (Operand.tmp 27) (Operand.tmp 29)), some (25, false)⟩, [], false⟩,
  ⟨14, .R, ⟨some 31, (Op.load 3 (Operand.tmp 30)), some (25, false)⟩, [], false⟩,
  ⟨15, .F, ⟨some 32, (Op.fieldAddr 92 (Operand.tmp 3) 1), some (25, false)⟩, [], false⟩,
  ⟨16, .R, ⟨some 33, (Op.load 3 (Operand.tmp 32)), some (25, false)⟩, [], false⟩,
  ⟨17, .F, ⟨some 34, (Op.binOp BinOp.neq 3 (Operand.tmp 31) (Operand.tmp 33) 3), some (25, false)⟩, [], false⟩,
  ⟨18, .F, ⟨some 35, (Op.pick (Operand.tmp 25) (Operand.const (Value.bool true)) (Operand.tmp 34)), none⟩, [], false⟩])
 (.cond (Operand.tmp 35) (.seq (.reg [⟨some 4, (Op.assign (Operand.const (Value.int IntKind.i64 11))), none⟩])
 .ret) .skip))
 (.seq (.reg [⟨some 5, (Op.assign (Operand.const (Value.int IntKind.i64 0))), none⟩])
 (.seq (.seq (.reg [⟨some 36, (Op.fieldAddr 92 (Operand.tmp 3) 0), none⟩,
  ⟨some 37, (Op.load 3 (Operand.tmp 36)), none⟩,
  ⟨some 38, (Op.binOp BinOp.eql 3 (Operand.tmp 37) (Operand.const (Value.int IntKind.i64 2)) 3), none⟩])
 (.cond (Operand.tmp 38) (.reg [⟨some 39, (Op.fieldAddr 24 (Operand.tmp 2) 2), none⟩,
  ⟨some 40, (Op.load 22 (Operand.tmp 39)), none⟩,
  ⟨some 41, (Op.fieldAddr 92 (Operand.tmp 3) 2), none⟩,
  ⟨some 42, (Op.load 3 (Operand.tmp 41)), none⟩,
  ⟨some 43, (Op.indexAddr 22 (Operand.tmp 40) (Operand.tmp 42)), none⟩,
  ⟨some 44, (Op.load 3 (Operand.tmp 43)), none⟩,
  ⟨some 5, (Op.assign (Operand.tmp 44)), none⟩]) .skip))
 (.seq (.reg [⟨some 45, (Op.fieldAddr 92 (Operand.tmp 3) 3), none⟩,
  ⟨some 46, (Op.load 3 (Operand.tmp 45)), none⟩,
  ⟨some 47, (Op.move (Operand.tmp 5)), none⟩,
  ⟨some 48, (Op.binOp BinOp.neq 3 (Operand.tmp 46) (Operand.tmp 47) 3), none⟩,
  ⟨some 49, (Op.call { callee := (Callee.value (Operand.func 63)), args := #[(Operand.tmp 48)], argTypes := #[4] }), none⟩,
  ⟨some 50, (Op.binOp BinOp.mul 3 (Operand.const (Value.int IntKind.i64 3)) (Operand.tmp 49) 3), none⟩,
  ⟨some 4, (Op.assign (Operand.tmp 50)), none⟩])
 .ret)))))))
theorem fn61 : FnFact Try.prog 61 51 [(5, [(0, 0), (1, 3), (2, 0), (3, 3), (4, 0), (5, 0), (6, 2), (7, 0), (8, 0), (9, 0), (10, 3), (11, 0), (12, 3), (13, 0), (14, 3), (15, 0), (16, 3), (17, 0), (18, 0)], [[], [0], [], [2], [2, 3], [2, 3, 4], [0, 1, 2, 3, 4, 5], [0, 1, 2, 3, 4, 5, 6], [0, 1, 2, 3, 4, 5, 6, 7], [0, 1, 2, 3, 4, 5, 6, 7, 8], [0, 1, 2, 3, 4, 5, 6, 7, 8, 9], [0, 1, 2, 3, 4, 5, 6, 7, 8], [0, 1, 2, 3, 4, 5, 6, 7, 8, 11], [0, 1, 2, 3, 4, 5, 6, 7, 8, 9, 10, 11, 12], [0, 1, 2, 3, 4, 5, 6, 7, 8, 9, 10, 11, 12, 13], [0, 1, 2, 3, 4, 5, 6, 7, 8], [0, 1, 2, 3, 4, 5, 6, 7, 8, 15], [0, 1, 2, 3, 4, 5, 6, 7, 8, 9, 10, 11, 12, 13, 14, 15, 16], [0, 1, 2, 3, 4, 5, 6, 7, 8, 9, 10, 11, 12, 13, 14, 15, 16, 17]])] [(ResultVar.tmp 4)] cd61 := ⟨by kernel_rfl, ⟨Try.f61, Try.func61, by kernel_rfl, by rfl, Try.ntmps61, congrArg Array.toList Try.results61⟩⟩
/-- examiner/examinerref36.CanAct -/
def cd62 : CC := (.seq (.reg [⟨some 3, (Op.box 24 (Operand.tmp 0)), none⟩,
  ⟨some 4, (Op.box 33 (Operand.tmp 1)), none⟩,
  ⟨some 5, (Op.box 39 (Operand.tmp 2)), none⟩,
  ⟨some 6, (Op.assign (Operand.const (Value.bool false))), none⟩])
 (.seq (.seq (.reg [⟨some 10, (Op.fieldAddr 39 (Operand.tmp 5) 0), none⟩,
  ⟨some 11, (Op.load 3 (Operand.tmp 10)), none⟩])
 (.block 0 (.seq (.seq (.reg [⟨some 13, (Op.binOp BinOp.eql 3 (Operand.tmp 11) (Operand.const (Value.int IntKind.i64 1)) 3), none⟩,
  ⟨some 12, (Op.assign (Operand.tmp 13)), none⟩])
 (.cond (Operand.tmp 12) .skip (.reg [⟨some 14, (Op.binOp BinOp.eql 3 (Operand.tmp 11) (Operand.const (Value.int IntKind.i64 2)) 3), none⟩,
  ⟨some 12, (Op.assign (Operand.tmp 14)), none⟩])))
 (.cond (Operand.tmp 12) (.seq (.reg [⟨some 15, (Op.fieldAddr 39 (Operand.tmp 5) 1), none⟩,
  ⟨some 16, (Op.load 3 (Operand.tmp 15)), none⟩,
  ⟨some 17, (Op.fieldAddr 33 (Operand.tmp 4) 3), none⟩,
  ⟨some 18, (Op.load 31 (Operand.tmp 17)), none⟩,
  ⟨some 19, (Op.call { callee := (Callee.builtin Builtin.len), args := #[(Operand.tmp 18)], argTypes := #[31] }), none⟩,
  ⟨some 20, (Op.binOp BinOp.sub 3 (Operand.tmp 19) (Operand.const (Value.int IntKind.i64 1)) 3), none⟩,
  ⟨some 21, (Op.call { callee := (Callee.value (Operand.func 29)), args := #[(Operand.tmp 16), (Operand.const (Value.int IntKind.i64 0)), (Operand.tmp 20)], argTypes := #[3, 3, 3] }), none⟩,
  ⟨some 6, (Op.assign (Operand.tmp 21)), none⟩])
 .ret) (.seq (.reg [⟨some 23, (Op.binOp BinOp.eql 3 (Operand.tmp 11) (Operand.const (Value.int IntKind.i64 3)) 3), none⟩,
  ⟨some 22, (Op.assign (Operand.tmp 23)), none⟩])
 (.cond (Operand.tmp 22) (.seq (.reg [⟨some 24, (Op.fieldAddr 39 (Operand.tmp 5) 1), none⟩,
  ⟨some 25, (Op.load 3 (Operand.tmp 24)), none⟩,
  ⟨some 26, (Op.fieldAddr 33 (Operand.tmp 4) 3), none⟩,
  ⟨some 27, (Op.load 31 (Operand.tmp 26)), none⟩,
  ⟨some 28, (Op.call { callee := (Callee.builtin Builtin.len), args := #[(Operand.tmp 27)], argTypes := #[31] }), none⟩,
  ⟨some 29, (Op.binOp BinOp.sub 3 (Operand.tmp 28) (Operand.const (Value.int IntKind.i64 1)) 3), none⟩,
  ⟨some 30, (Op.call { callee := (Callee.value (Operand.func 29)), args := #[(Operand.tmp 25), (Operand.const (Value.int IntKind.i64 0)), (Operand.tmp 29)], argTypes := #[3, 3, 3] }), none⟩,
  ⟨some 31, (Op.move (Operand.tmp 30)), none⟩,
  ⟨some 32, (Op.fieldAddr 33 (Operand.tmp 4) 3), some (31, true)⟩,
  ⟨some 33, (Op.load 31 (Operand.tmp 32)), some (31, true)⟩,
  ⟨some 34, (Op.call { callee := (Callee.builtin Builtin.len), args := #[(Operand.tmp 33)], argTypes := #[31] }), some (31, true)⟩,
  ⟨some 35, (Op.binOp BinOp.lss 3 (Operand.tmp 34) (Operand.const (Value.int IntKind.i64 12)) 3), some (31, true)⟩,
  ⟨some 36, (Op.pick (Operand.tmp 31) (Operand.tmp 35) (Operand.const (Value.bool false))), none⟩,
  ⟨some 6, (Op.assign (Operand.tmp 36)), none⟩])
 .ret) (.seq (.reg [⟨some 38, (Op.binOp BinOp.eql 3 (Operand.tmp 11) (Operand.const (Value.int IntKind.i64 6)) 3), none⟩,
  ⟨some 37, (Op.assign (Operand.tmp 38)), none⟩])
 (.cond (Operand.tmp 37) (.seq (.reg [⟨some 39, (Op.fieldAddr 39 (Operand.tmp 5) 1), none⟩,
  ⟨some 40, (Op.load 3 (Operand.tmp 39)), none⟩,
  ⟨some 41, (Op.fieldAddr 24 (Operand.tmp 3) 0), none⟩,
  ⟨some 42, (Op.load 3 (Operand.tmp 41)), none⟩,
  ⟨some 43, (Op.binOp BinOp.sub 3 (Operand.tmp 42) (Operand.const (Value.int IntKind.i64 1)) 3), none⟩,
  ⟨some 44, (Op.call { callee := (Callee.value (Operand.func 29)), args := #[(Operand.tmp 40), (Operand.const (Value.int IntKind.i64 0)), (Operand.tmp 43)], argTypes := #[3, 3, 3] }), none⟩,
  ⟨some 45, (Op.move (Operand.tmp 44)), none⟩,
  ⟨some 46, (Op.fieldAddr 33 (Operand.tmp 4) 2), some (45, true)⟩,
  ⟨some 47, (Op.load 30 (Operand.tmp 46)), some (45, true)⟩,
  ⟨some 48, (Op.fieldAddr 39 (Operand.tmp 5) 1), some (45, true)⟩,
  ⟨some 49, (Op.load 3 (Operand.tmp 48)), some (45, true)⟩,
  ⟨some 50, (Op.indexAddr 30 (Operand.tmp 47) (Operand.tmp 49)), some (45, true)⟩,
  ⟨some 51, (Op.fieldAddr 80 (Operand.tmp 50) 0), some (45, true)⟩,
  ⟨some 52, (Op.load 4 (Operand.tmp 51)), some (45, true)⟩,
  ⟨some 53, (Op.unOp UnOp.not 4 (Operand.tmp 52)), some (45, true)⟩,
  ⟨some 54, (Op.pick (Operand.tmp 45) (Operand.tmp 53) (Operand.const (Value.bool false))), none⟩,
  ⟨some 6, (Op.assign (Operand.tmp 54)), none⟩])
 .ret) .skip))))))))
 (.seq (.seq (.reg [⟨some 55, (Op.fieldAddr 39 (Operand.tmp 5) 1), none⟩,
  ⟨some 56, (Op.load 3 (Operand.tmp 55)), none⟩,
  ⟨some 57, (Op.fieldAddr 24 (Operand.tmp 3) 1), none⟩,
  ⟨some 58, (Op.load 22 (Operand.tmp 57)), none⟩,
  ⟨some 59, (Op.call { callee := (Callee.builtin Builtin.len), args := #[(Operand.tmp 58)], argTypes := #[22] }), none⟩,
  ⟨some 60, (Op.binOp BinOp.sub 3 (Operand.tmp 59) (Operand.const (Value.int IntKind.i64 1)) 3), none⟩,
  ⟨some 61, (Op.call { callee := (Callee.value (Operand.func 29)), args := #[(Operand.tmp 56), (Operand.const (Value.int IntKind.i64 0)), (Operand.tmp 60)], argTypes := #[3, 3, 3] }), none⟩,
  ⟨some 62, (Op.unOp UnOp.not 4 (Operand.tmp 61)), none⟩])
 (.cond (Operand.tmp 62) (.seq (.reg [⟨some 6, (Op.assign (Operand.const (Value.bool false))), none⟩])
 .ret) .skip))
 (.seq (.seq (.reg [⟨some 63, (Op.fieldAddr 39 (Operand.tmp 5) 0), none⟩,
  ⟨some 64, (Op.load 3 (Operand.tmp 63)), none⟩,
  ⟨some 65, (Op.binOp BinOp.eql 3 (Operand.tmp 64) (Operand.const (Value.int IntKind.i64 0)) 3), none⟩])
 (.cond (Operand.tmp 65) (.seq (.reg [⟨some 66, (Op.fieldAddr 33 (Operand.tmp 4) 0), none⟩,
  ⟨some 67, (Op.load 29 (Operand.tmp 66)), none⟩,
  ⟨some 68, (Op.fieldAddr 39 (Operand.tmp 5) 1), none⟩,
  ⟨some 69, (Op.load 3 (Operand.tmp 68)), none⟩,
  ⟨some 70, (Op.indexAddr 29 (Operand.tmp 67) (Operand.tmp 69)), none⟩,
  ⟨some 71, (Op.fieldAddr 68 (Operand.tmp 70) 2), none⟩,
  ⟨some 72, (Op.load 4 (Operand.tmp 71)), none⟩,
  ⟨some 73, (Op.unOp UnOp.not 4 (Operand.tmp 72)), none⟩,
  ⟨some 74, (Op.move (Operand.tmp 73)), none⟩,
  ⟨some 75, (Op.fieldAddr 33 (Operand.tmp 4) 0), some (74, true)⟩,
  ⟨some 76, (Op.load 29 (Operand.tmp 75)), some (74, true)⟩,
  ⟨some 77, (Op.fieldAddr 39 (Operand.tmp 5) 1), some (74, true)⟩,
  ⟨some 78, (Op.load 3 (Operand.tmp 77)), some (74, true)⟩,
  ⟨some 79, (Op.indexAddr 29 (Operand.tmp 76) (Operand.tmp 78)), some (74, true)⟩,
  ⟨some 80, (Op.fieldAddr 68 (Operand.tmp 79) 0), some (74, true)⟩,
  ⟨some 81, (Op.load 3 (Operand.tmp 80)), some (74, true)⟩,
  ⟨some 82, (Op.binOp BinOp.lss 3 (Operand.tmp 81) (Operand.const (Value.int IntKind.i64 3)) 3), some (74, true)⟩,
  ⟨some 83, (Op.pick (Operand.tmp 74) (Operand.tmp 82) (Operand.const (Value.bool false))), none⟩,
  ⟨some 6, (Op.assign (Operand.tmp 83)), none⟩])
 .ret) .skip))
 (.seq (.seq (.reg [⟨some 84, (Op.fieldAddr 39 (Operand.tmp 5) 0), none⟩,
  ⟨some 85, (Op.load 3 (Operand.tmp 84)), none⟩,
  ⟨some 86, (Op.binOp BinOp.eql 3 (Operand.tmp 85) (Operand.const (Value.int IntKind.i64 7)) 3), none⟩])
 (.cond (Operand.tmp 86) (.seq (.reg [⟨some 87, (Op.fieldAddr 33 (Operand.tmp 4) 0), none⟩,
  ⟨some 88, (Op.load 29 (Operand.tmp 87)), none⟩,
  ⟨some 89, (Op.fieldAddr 39 (Operand.tmp 5) 1), none⟩,
  ⟨some 90, (Op.load 3 (Operand.tmp 89)), none⟩,
  ⟨some 91, (Op.indexAddr 29 (Operand.tmp 88) (Operand.tmp 90)), none⟩,
  ⟨some 92, (Op.fieldAddr 68 (Operand.tmp 91) 2), none⟩,
  ⟨some 93, (Op.load 4 (Operand.tmp 92)), none⟩,
  ⟨some 94, (Op.unOp UnOp.not 4 (Operand.tmp 93)), none⟩,
  ⟨some 6, (Op.assign (Operand.tmp 94)), none⟩])
 .ret) .skip))
 (.seq (.dr [⟨0, .F, ⟨some 95, (Op.fieldAddr 33 (Operand.tmp 4) 2), none⟩, [], false⟩,
  ⟨1, .R, ⟨some 96, (Op.load 30 (Operand.tmp 95)), none⟩, [], false⟩,
  ⟨2, .F, ⟨some 97, (Op.fieldAddr 24 (Operand.tmp 3) 1), none⟩, [], false⟩,
  ⟨3, .R, ⟨some 98, (Op.load 22 (Operand.tmp 97)), none⟩, [], false⟩,
  ⟨4, .F, ⟨some 99, (Op.fieldAddr 39 (Operand.tmp 5) 1), none⟩, [], false⟩,
  ⟨5, .R, ⟨some 100, (Op.load 3 (Operand.tmp 99)), none⟩, [], false⟩,
  ⟨6, .F, ⟨some 101, (Op.indexAddr 22 (Operand.tmp 98) (Operand.tmp 100)), none⟩, [], false⟩,
  ⟨7, .R, ⟨some 102, (Op.load 3 (Operand.tmp 101)), none⟩, [], false⟩,
  ⟨8, .F, ⟨some 103, (Op.indexAddr 30 (Operand.tmp 96) (Operand.tmp 102)), none⟩, [], false⟩,
  ⟨9, .R, ⟨some 104, (Op.load 80 (Operand.tmp 103)), none⟩, [], false⟩,
  ⟨10, .A, ⟨some 7, (Op.alloc 80), none⟩, [], false⟩,
  ⟨11, .E, ⟨none, (Op.store 80 (Operand.tmp 7) (Operand.tmp 104)), none⟩, [10], false⟩])
 (.seq (.reg [⟨some 105, (Op.load 24 (Operand.tmp 3)), none⟩,
  ⟨some 106, (Op.load 33 (Operand.tmp 4)), none⟩,
  ⟨some 107, (Op.fieldAddr 39 (Operand.tmp 5) 1), none⟩,
  ⟨some 108, (Op.load 3 (Operand.tmp 107)), none⟩,
  ⟨some 109, (Op.call { callee := (Callee.value (Operand.func 67)), args := #[(Operand.tmp 105), (Operand.tmp 106), (Operand.tmp 108)], argTypes := #[24, 33, 3] }), none⟩,
  ⟨some 8, (Op.assign (Operand.tmp 109)), none⟩])
 (.seq (.seq (.reg [⟨some 110, (Op.move (Operand.tmp 8)), none⟩,
  ⟨some 111, (Op.binOp BinOp.eql 3 (Operand.tmp 110) (Operand.const (Value.int IntKind.i64 (-1))) 3), none⟩,
  ⟨some 112, (Op.move (Operand.tmp 111)), none⟩,
  ⟨some 113, (Op.fieldAddr 80 (Operand.tmp 7) 0), some (112, false)⟩,
  ⟨some 114, (Op.load 4 (Operand.tmp 113)), some (112, false)⟩,
  ⟨some 115, (Op.pick (Operand.tmp 112) (Operand.const (Value.bool true)) (Operand.tmp 114)), none⟩])
 (.cond (Operand.tmp 115) (.seq (.reg [⟨some 6, (Op.assign (Operand.const (Value.bool false))), none⟩])
 .ret) .skip))
 (.seq (.reg [⟨some 116, (Op.fieldAddr 80 (Operand.tmp 7) 1), none⟩,
  ⟨some 117, (Op.load 78 (Operand.tmp 116)), none⟩,
  ⟨some 118, (Op.move (Operand.tmp 8)), none⟩,
  ⟨some 119, (Op.indexAddr 78 (Operand.tmp 117) (Operand.tmp 118)), none⟩,
  ⟨some 120, (Op.load 90 (Operand.tmp 119)), none⟩,
  ⟨some 9, (Op.alloc 90), none⟩,
  ⟨none, (Op.store 90 (Operand.tmp 9) (Operand.tmp 120)), none⟩])
 (.seq (.seq (.reg [⟨some 121, (Op.fieldAddr 39 (Operand.tmp 5) 0), none⟩,
  ⟨some 122, (Op.load 3 (Operand.tmp 121)), none⟩,
  ⟨some 123, (Op.binOp BinOp.eql 3 (Operand.tmp 122) (Operand.const (Value.int IntKind.i64 4)) 3), none⟩])
 (.cond (Operand.tmp 123) (.seq (.reg [⟨some 124, (Op.fieldAddr 90 (Operand.tmp 9) 1), none⟩,
  ⟨some 125, (Op.load 4 (Operand.tmp 124)), none⟩,
  ⟨some 126, (Op.unOp UnOp.not 4 (Operand.tmp 125)), none⟩,
  ⟨some 6, (Op.assign (Operand.tmp 126)), none⟩])
 .ret) .skip))
 (.seq (.reg [⟨some 127, (Op.fieldAddr 90 (Operand.tmp 9) 1), none⟩,
  ⟨some 128, (Op.load 4 (Operand.tmp 127)), none⟩,
  ⟨some 129, (Op.move (Operand.tmp 128)), none⟩,
  ⟨some 130, (Op.fieldAddr 90 (Operand.tmp 9) 2), some (129, true)⟩,
  ⟨some 131, (Op.load 4 (Operand.tmp 130)), some (129, true)⟩,
  ⟨some 132, (Op.unOp UnOp.not 4 (Operand.tmp 131)), some (129, true)⟩,
  ⟨some 133, (Op.pick (Operand.tmp 129) (Operand.tmp 132) (Operand.const (Value.bool false))), none⟩,
  ⟨some 134, (Op.move (Operand.tmp 133)), none⟩,
  ⟨some 135, (Op.fieldAddr 90 (Operand.tmp 9) 4), some (134, true)⟩,
  ⟨some 136, (Op.load 3 (Operand.tmp 135)), some (134, true)⟩,
  ⟨some 137, (Op.binOp BinOp.lss 3 (Operand.tmp 136) (Operand.const (Value.int IntKind.i64 3)) 3), some (134, true)⟩,
  ⟨some 138, (Op.pick (Operand.tmp 134) (Operand.tmp 137) (Operand.const (Value.bool false))), none⟩,
  ⟨some 6, (Op.assign (Operand.tmp 138)), none⟩])
 .ret)))))))))))
theorem fn62 : FnFact Try.prog 62 139 [(15, [(0, 0), (1, 3), (2, 0), (3, 3), (4, 0), (5, 3), (6, 0), (7, 3), (8, 0), (9, 3), (10, 1), (11, 2)], [[], [0], [], [2], [], [4], [2, 3, 4, 5], [2, 3, 4, 5, 6], [0, 1, 2, 3, 4, 5, 6, 7], [0, 1, 2, 3, 4, 5, 6, 7, 8], [], [0, 1, 2, 3, 4, 5, 6, 7, 8, 9, 10]])] [(ResultVar.tmp 6)] cd62 := ⟨by kernel_rfl, ⟨Try.f62, Try.func62, by kernel_rfl, by rfl, Try.ntmps62, congrArg Array.toList Try.results62⟩⟩
/-- examiner/examinerbase.Count -/
def cd63 : CC := (.seq (.reg [⟨some 2, (Op.assign (Operand.const (Value.int IntKind.i64 0))), none⟩])
 (.seq (.seq (.reg [⟨some 3, (Op.move (Operand.tmp 0)), none⟩])
 (.cond (Operand.tmp 3) (.seq (.reg [⟨some 2, (Op.assign (Operand.const (Value.int IntKind.i64 1))), none⟩])
 .ret) .skip))
 (.seq (.reg [⟨some 2, (Op.assign (Operand.const (Value.int IntKind.i64 0))), none⟩])
 .ret)))
theorem fn63 : FnFact Try.prog 63 4 [] [(ResultVar.tmp 2)] cd63 := ⟨by kernel_rfl, ⟨Try.f63, Try.func63, by kernel_rfl, by rfl, Try.ntmps63, congrArg Array.toList Try.results63⟩⟩
/-- examiner/examinerref36.send -/
def cd64 : CC := (.seq (.reg [⟨some 3, (Op.box 92 (Operand.tmp 1)), none⟩,
  ⟨some 4, (Op.assign (Operand.const (Value.slice none 0 0))), none⟩])
 (.seq (.seq (.reg [⟨some 5, (Op.move (Operand.tmp 0)), none⟩,
  ⟨some 6, (Op.call { callee := (Callee.builtin Builtin.len), args := #[(Operand.tmp 5)], argTypes := #[31] }), none⟩,
  ⟨some 7, (Op.binOp BinOp.geq 3 (Operand.tmp 6) (Operand.const (Value.int IntKind.i64 12)) 3), none⟩])
 (.cond (Operand.tmp 7) (.seq (.reg [⟨some 8, (Op.move (Operand.tmp 0)), none⟩,
  ⟨some 4, (Op.assign (Operand.tmp 8)), none⟩])
 .ret) .skip))
 (.seq (.reg [⟨some 9, (Op.move (Operand.tmp 0)), none⟩,
  ⟨some 10, (Op.load 92 (Operand.tmp 3)), none⟩,
  ⟨some 11, (Op.buildSlice 31 1 #[(0, (Operand.tmp 10))]), none⟩,
  ⟨some 12, (Op.call { callee := (Callee.builtin Builtin.append), args := #[(Operand.tmp 9), (Operand.tmp 11)], argTypes := #[31, 31] }), none⟩,
  ⟨some 4, (Op.assign (Operand.tmp 12)), none⟩])
 .ret)))
theorem fn64 : FnFact Try.prog 64 13 [] [(ResultVar.tmp 4)] cd64 := ⟨by kernel_rfl, ⟨Try.f64, Try.func64, by kernel_rfl, by rfl, Try.ntmps64, congrArg Array.toList Try.results64⟩⟩
/-- examiner/examinerref36.deliver -/
def cd65 : CC := (.seq (.reg [⟨some 3, (Op.box 24 (Operand.tmp 0)), none⟩,
  ⟨some 4, (Op.box 33 (Operand.tmp 1)), none⟩,
  ⟨some 6, (Op.alloc 33), none⟩])
 (.seq (.reg [⟨some 10, (Op.fieldAddr 33 (Operand.tmp 4) 3), none⟩,
  ⟨some 11, (Op.load 31 (Operand.tmp 10)), none⟩,
  ⟨some 12, (Op.move (Operand.tmp 2)), none⟩,
  ⟨some 13, (Op.indexAddr 31 (Operand.tmp 11) (Operand.tmp 12)), none⟩,
  ⟨some 14, (Op.load 92 (Operand.tmp 13)), none⟩,
  ⟨some 7, (Op.alloc 92), none⟩,
  ⟨none, (Op.store 92 (Operand.tmp 7) (Operand.tmp 14)), none⟩])
 (.seq (.reg [⟨some 15, (Op.fieldAddr 33 (Operand.tmp 4) 3), none⟩,
  ⟨some 16, (Op.load 31 (Operand.tmp 15)), none⟩,
  ⟨some 17, (Op.move (Operand.tmp 2)), none⟩,
  ⟨some 18, (Op.call { callee := (Callee.value (Operand.func 66)), args := #[(Operand.tmp 16), (Operand.tmp 17)], argTypes := #[31, 3] }), none⟩,
  ⟨some 19, (Op.fieldAddr 33 (Operand.tmp 4) 3), none⟩,
  ⟨none, (Op.store 31 (Operand.tmp 19) (Operand.tmp 18)), none⟩])
 (.seq (.reg [⟨some 20, (Op.fieldAddr 33 (Operand.tmp 4) 2), none⟩,
  ⟨some 21, (Op.load 30 (Operand.tmp 20)), none⟩,
  ⟨some 22, (Op.fieldAddr 92 (Operand.tmp 7) 1), none⟩,
  ⟨some 23, (Op.load 3 (Operand.tmp 22)), none⟩,
  ⟨some 24, (Op.indexAddr 30 (Operand.tmp 21) (Operand.tmp 23)), none⟩,
  ⟨some 8, (Op.assign (Operand.tmp 24)), none⟩])
 (.seq (.seq (.reg [⟨some 25, (Op.fieldAddr 92 (Operand.tmp 7) 0), none⟩,
  ⟨some 26, (Op.load 3 (Operand.tmp 25)), none⟩])
 (.block 0 (.seq (.reg [⟨some 28, (Op.binOp BinOp.eql 3 (Operand.tmp 26) (Operand.const (Value.int IntKind.i64 0)) 3), none⟩,
  ⟨some 27, (Op.assign (Operand.tmp 28)), none⟩])
 (.cond (Operand.tmp 27) (.seq (.seq (.reg [⟨some 29, (Op.move (Operand.tmp 8)), none⟩,
  ⟨some 30, (Op.nilCheck (Operand.tmp 29)), none⟩,
  ⟨some 31, (Op.fieldAddr 80 (Operand.tmp 30) 0), none⟩,
  ⟨some 32, (Op.load 4 (Operand.tmp 31)), none⟩])
 (.cond (Operand.tmp 32) (.seq (.reg [⟨some 33, (Op.load 33 (Operand.tmp 4)), none⟩,
  ⟨none, (Op.store 33 (Operand.tmp 6) (Operand.tmp 33)), none⟩])
 .ret) .skip))
 (.seq (.seq (.reg [⟨some 34, (Op.load 24 (Operand.tmp 3)), none⟩,
  ⟨some 35, (Op.load 33 (Operand.tmp 4)), none⟩,
  ⟨some 36, (Op.fieldAddr 92 (Operand.tmp 7) 2), none⟩,
  ⟨some 37, (Op.load 3 (Operand.tmp 36)), none⟩,
  ⟨some 38, (Op.call { callee := (Callee.value (Operand.func 67)), args := #[(Operand.tmp 34), (Operand.tmp 35), (Operand.tmp 37)], argTypes := #[24, 33, 3] }), none⟩,
  ⟨some 39, (Op.binOp BinOp.eql 3 (Operand.tmp 38) (Operand.const (Value.int IntKind.i64 (-1))) 3), none⟩])
 (.cond (Operand.tmp 39) (.dr [⟨0, .F, ⟨some 40, (Op.move (Operand.tmp 8)), none⟩, [], false⟩,
  ⟨1, .F, ⟨some 41, (Op.move (Operand.tmp 8)), none⟩, [], false⟩,
  ⟨2, .F, ⟨some 42, (Op.nilCheck (Operand.tmp 41)), none⟩, [], false⟩,
  ⟨3, .F, ⟨some 43, (Op.fieldAddr 80 (Operand.tmp 42) 1), none⟩, [], false⟩,
  ⟨4, .R, ⟨some 44, (Op.load 78 (Operand.tmp 43)), none⟩, [], false⟩,
  ⟨5, .F, ⟨some 45, (Op.fieldAddr 92 (Operand.tmp 7) 2), none⟩, [], false⟩,
  ⟨6, .R, ⟨some 46, (Op.load 3 (Operand.tmp 45)), none⟩, [], false⟩,
  ⟨7, .F, ⟨some 47, (Op.build 90 #[(0, (Operand.tmp 46))]), none⟩, [], false⟩,
  ⟨8, .F, ⟨some 48, (Op.buildSlice 78 1 #[(0, (Operand.tmp 47))]), none⟩, [], false⟩,
  ⟨9, .E, ⟨some 49, (Op.call { callee := (Callee.builtin Builtin.append), args := #[(Operand.tmp 44), (Operand.tmp 48)], argTypes := #[78, 78] }), none⟩, [], false⟩,
  ⟨10, .F, ⟨some 50, (Op.nilCheck (Operand.tmp 40)), none⟩, [], false⟩,
  ⟨11, .F, ⟨some 51, (Op.fieldAddr 80 (Operand.tmp 50) 1), none⟩, [], false⟩,
  ⟨12, .E, ⟨none, (Op.store 78 (Operand.tmp 51) (Operand.tmp 49)), none⟩, [], false⟩]) .skip))
 (.reg [⟨some 52, (Op.fieldAddr 33 (Operand.tmp 4) 3), none⟩,
  ⟨some 53, (Op.load 31 (Operand.tmp 52)), none⟩,
  ⟨some 54, (Op.fieldAddr 92 (Operand.tmp 7) 1), none⟩,
  ⟨some 55, (Op.load 3 (Operand.tmp 54)), none⟩,
  ⟨some 56, (Op.fieldAddr 92 (Operand.tmp 7) 2), none⟩,
  ⟨some 57, (Op.load 3 (Operand.tmp 56)), none⟩,
  ⟨some 58, (Op.build 92 #[(0, (Operand.const (Value.int IntKind.i64 1))), (1, (Operand.tmp 55)), (2, (Operand.tmp 57))]), none⟩,
  ⟨some 59, (Op.call { callee := (Callee.value (Operand.func 64)), args := #[(Operand.tmp 53), (Operand.tmp 58)], argTypes := #[31, 92] }), none⟩,
  ⟨some 60, (Op.fieldAddr 33 (Operand.tmp 4) 3), none⟩,
  ⟨none, (Op.store 31 (Operand.tmp 60) (Operand.tmp 59)), none⟩]))) (.seq (.reg [⟨some 62, (Op.binOp BinOp.eql 3 (Operand.tmp 26) (Operand.const (Value.int IntKind.i64 1)) 3), none⟩,
  ⟨some 61, (Op.assign (Operand.tmp 62)), none⟩])
 (.cond (Operand.tmp 61) (.reg [⟨some 63, (Op.fieldAddr 33 (Operand.tmp 4) 0), none⟩,
  ⟨some 64, (Op.load 29 (Operand.tmp 63)), none⟩,
  ⟨some 65, (Op.fieldAddr 92 (Operand.tmp 7) 2), none⟩,
  ⟨some 66, (Op.load 3 (Operand.tmp 65)), none⟩,
  ⟨some 67, (Op.indexAddr 29 (Operand.tmp 64) (Operand.tmp 66)), none⟩,
  ⟨some 68, (Op.fieldAddr 68 (Operand.tmp 67) 1), none⟩,
  ⟨none, (Op.store 4 (Operand.tmp 68) (Operand.const (Value.bool true))), none⟩]) (.seq (.reg [⟨some 70, (Op.binOp BinOp.eql 3 (Operand.tmp 26) (Operand.const (Value.int IntKind.i64 2)) 3), none⟩,
  ⟨some 69, (Op.assign (Operand.tmp 70)), none⟩])
 (.cond (Operand.tmp 69) (.seq (.seq (.reg [⟨some 71, (Op.fieldAddr 33 (Operand.tmp 4) 0), none⟩,
  ⟨some 72, (Op.load 29 (Operand.tmp 71)), none⟩,
  ⟨some 73, (Op.fieldAddr 92 (Operand.tmp 7) 2), none⟩,
  ⟨some 74, (Op.load 3 (Operand.tmp 73)), none⟩,
  ⟨some 75, (Op.indexAddr 29 (Operand.tmp 72) (Operand.tmp 74)), none⟩,
  ⟨some 76, (Op.fieldAddr 68 (Operand.tmp 75) 2), none⟩,
  ⟨some 77, (Op.load 4 (Operand.tmp 76)), none⟩,
  ⟨some 78, (Op.unOp UnOp.not 4 (Operand.tmp 77)), none⟩])
 (.cond (Operand.tmp 78) (.reg [⟨some 79, (Op.load 33 (Operand.tmp 4)), none⟩,
  ⟨some 80, (Op.fieldAddr 92 (Operand.tmp 7) 2), none⟩,
  ⟨some 81, (Op.load 3 (Operand.tmp 80)), none⟩,
  ⟨some 82, (Op.fieldAddr 92 (Operand.tmp 7) 3), none⟩,
  ⟨some 83, (Op.load 3 (Operand.tmp 82)), none⟩,
  ⟨some 84, (Op.call { callee := (Callee.value (Operand.func 68)), args := #[(Operand.tmp 79), (Operand.tmp 81), (Operand.tmp 83)], argTypes := #[33, 3, 3] }), none⟩,
  ⟨none, (Op.store 33 (Operand.tmp 4) (Operand.tmp 84)), none⟩]) .skip))
 (.reg [⟨some 85, (Op.fieldAddr 33 (Operand.tmp 4) 3), none⟩,
  ⟨some 86, (Op.load 31 (Operand.tmp 85)), none⟩,
  ⟨some 87, (Op.fieldAddr 92 (Operand.tmp 7) 1), none⟩,
  ⟨some 88, (Op.load 3 (Operand.tmp 87)), none⟩,
  ⟨some 89, (Op.fieldAddr 92 (Operand.tmp 7) 2), none⟩,
  ⟨some 90, (Op.load 3 (Operand.tmp 89)), none⟩,
  ⟨some 91, (Op.build 92 #[(0, (Operand.const (Value.int IntKind.i64 3))), (1, (Operand.tmp 88)), (2, (Operand.tmp 90))]), none⟩,
  ⟨some 92, (Op.call { callee := (Callee.value (Operand.func 64)), args := #[(Operand.tmp 86), (Operand.tmp 91)], argTypes := #[31, 92] }), none⟩,
  ⟨some 93, (Op.fieldAddr 33 (Operand.tmp 4) 3), none⟩,
  ⟨none, (Op.store 31 (Operand.tmp 93) (Operand.tmp 92)), none⟩])) (.seq (.reg [⟨some 95, (Op.binOp BinOp.eql 3 (Operand.tmp 26) (Operand.const (Value.int IntKind.i64 3)) 3), none⟩,
  ⟨some 94, (Op.assign (Operand.tmp 95)), none⟩])
 (.cond (Operand.tmp 94) (.seq (.reg [⟨some 96, (Op.load 24 (Operand.tmp 3)), none⟩,
  ⟨some 97, (Op.load 33 (Operand.tmp 4)), none⟩,
  ⟨some 98, (Op.fieldAddr 92 (Operand.tmp 7) 2), none⟩,
  ⟨some 99, (Op.load 3 (Operand.tmp 98)), none⟩,
  ⟨some 100, (Op.call { callee := (Callee.value (Operand.func 67)), args := #[(Operand.tmp 96), (Operand.tmp 97), (Operand.tmp 99)], argTypes := #[24, 33, 3] }), none⟩,
  ⟨some 9, (Op.assign (Operand.tmp 100)), none⟩])
 (.seq (.reg [⟨some 101, (Op.move (Operand.tmp 9)), none⟩,
  ⟨some 102, (Op.binOp BinOp.neq 3 (Operand.tmp 101) (Operand.const (Value.int IntKind.i64 (-1))) 3), none⟩,
  ⟨some 103, (Op.move (Operand.tmp 102)), none⟩,
  ⟨some 104, (Op.move (Operand.tmp 8)), some (103, true)⟩,
  ⟨some 105, (Op.nilCheck (Operand.tmp 104)), some (103, true)⟩,
  ⟨some 106, (Op.fieldAddr 80 (Operand.tmp 105) 0), some (103, true)⟩,
  ⟨some 107, (Op.load 4 (Operand.tmp 106)), some (103, true)⟩,
  ⟨some 108, (Op.unOp UnOp.not 4 (Operand.tmp 107)), some (103, true)⟩,
  ⟨some 109, (Op.pick (Operand.tmp 103) (Operand.tmp 108) (Operand.const (Value.bool false))), none⟩,
  ⟨some 110, (Op.move (Operand.tmp 109)), none⟩,
  ⟨some 111, (Op.move (Operand.tmp 8)), some (110, true)⟩,
  ⟨some 112, (Op.nilCheck (Operand.tmp 111)), some (110, true)⟩,
  ⟨some 113, (Op.fieldAddr 80 (Operand.tmp 112) 1), some (110, true)⟩,
  ⟨some 114, (Op.load 78 (Operand.tmp 113)), some (110, true)⟩,
  ⟨some 115, (Op.move (Operand.tmp 9)), some (110, true)⟩,
  ⟨some 116, (Op.indexAddr 78 (Operand.tmp 114) (Operand.tmp 115)), some (110, true)⟩,
  ⟨some 117, (Op.fieldAddr 90 (Operand.tmp 116) 1), some (110, true)⟩,
  ⟨some 118, (Op.load 4 (Operand.tmp 117)), some (110, true)⟩,
  ⟨some 119, (Op.pick (Operand.tmp 110) (Operand.tmp 118) (Operand.const (Value.bool false))), none⟩])
 (.cond (Operand.tmp 119) (.reg [⟨some 120, (Op.move (Operand.tmp 8)), none⟩,
  ⟨some 121, (Op.nilCheck (Operand.tmp 120)), none⟩,
  ⟨some 122, (Op.fieldAddr 80 (Operand.tmp 121) 1), none⟩,
  ⟨some 123, (Op.load 78 (Operand.tmp 122)), none⟩,
  ⟨some 124, (Op.move (Operand.tmp 9)), none⟩,
  ⟨some 125, (Op.indexAddr 78 (Operand.tmp 123) (Operand.tmp 124)), none⟩,
  ⟨some 126, (Op.fieldAddr 90 (Operand.tmp 125) 2), none⟩,
  ⟨none, (Op.store 4 (Operand.tmp 126) (Operand.const (Value.bool true))), none⟩]) .skip))) .skip))))))))))
 (.seq (.reg [⟨some 127, (Op.load 33 (Operand.tmp 4)), none⟩,
  ⟨none, (Op.store 33 (Operand.tmp 6) (Operand.tmp 127)), none⟩])
 .ret))))))
theorem fn65 : FnFact Try.prog 65 128 [(9, [(0, 0), (1, 0), (2, 0), (3, 0), (4, 3), (5, 0), (6, 3), (7, 0), (8, 0), (9, 2), (10, 0), (11, 0), (12, 2)], [[], [], [1], [1, 2], [1, 2, 3], [], [5], [5, 6], [5, 6, 7], [1, 2, 3, 4, 5, 6, 7, 8], [0, 1, 2, 3, 4, 5, 6, 7, 8, 9], [0, 1, 2, 3, 4, 5, 6, 7, 8, 9, 10], [0, 1, 2, 3, 4, 5, 6, 7, 8, 9, 10, 11]])] [(ResultVar.cell 6 33)] cd65 := ⟨by kernel_rfl, ⟨Try.f65, Try.func65, by kernel_rfl, by rfl, Try.ntmps65, congrArg Array.toList Try.results65⟩⟩
/-- examiner/examinerref36.without -/
def cd66 : CC := (.seq (.reg [⟨some 4, (Op.assign (Operand.const (Value.slice none 0 0))), none⟩])
 (.seq (.dr [⟨0, .F, ⟨some 5, (Op.buildSlice 31 0 #[]), none⟩, [], false⟩,
  ⟨1, .F, ⟨some 6, (Op.move (Operand.tmp 0)), none⟩, [], false⟩,
  ⟨2, .F, ⟨some 7, (Op.move (Operand.tmp 1)), none⟩, [], false⟩,
  ⟨3, .F, ⟨some 8, (Op.slice 31 (Operand.tmp 6) none (some (Operand.tmp 7)) none), none⟩, [], false⟩,
  ⟨5, .F, ⟨some 10, (Op.move (Operand.tmp 0)), none⟩, [], false⟩,
  ⟨6, .F, ⟨some 11, (Op.move (Operand.tmp 1)), none⟩, [], false⟩,
  ⟨7, .F, ⟨some 12, (Op.binOp BinOp.add 3 (Operand.tmp 11) (Operand.const (Value.int IntKind.i64 1)) 3), none⟩, [], false⟩,
  ⟨8, .F, ⟨some 13, (Op.slice 31 (Operand.tmp 10) (some (Operand.tmp 12)) none none), none⟩, [], false⟩,
  ⟨4, .E, ⟨some 9, (Op.call { callee := (Callee.builtin Builtin.append), args := #[(Operand.tmp 5), (Operand.tmp 8)], argTypes := #[31, 31] }), none⟩, [], false⟩,
  ⟨9, .E, ⟨some 14, (Op.call { callee := (Callee.builtin Builtin.append), args := #[(Operand.tmp 9), (Operand.tmp 13)], argTypes := #[31, 31] }), none⟩, [], false⟩,
  ⟨10, .F, ⟨some 4, (Op.assign (Operand.tmp 14)), none⟩, [], false⟩])
 .ret))
theorem fn66 : FnFact Try.prog 66 15 [(1, [(0, 0), (1, 0), (2, 0), (3, 0), (5, 0), (6, 0), (7, 0), (8, 0), (4, 2), (9, 2), (10, 0)], [[], [], [], [1, 2], [0, 1, 2, 3], [], [], [6], [5, 6, 7], [0, 1, 2, 3, 4, 5, 6, 7, 8], [0, 1, 2, 3, 4, 5, 6, 7, 8, 9]])] [(ResultVar.tmp 4)] cd66 := ⟨by kernel_rfl, ⟨Try.f66, Try.func66, by kernel_rfl, by rfl, Try.ntmps66, congrArg Array.toList Try.results66⟩⟩
/-- examiner/examinerref36.partOn -/
def cd67 : CC := (.seq (.reg [⟨some 3, (Op.box 24 (Operand.tmp 0)), none⟩,
  ⟨some 4, (Op.box 33 (Operand.tmp 1)), none⟩,
  ⟨some 6, (Op.assign (Operand.const (Value.int IntKind.i64 0))), none⟩])
 (.seq (.dr [⟨0, .F, ⟨some 9, (Op.fieldAddr 33 (Operand.tmp 4) 2), none⟩, [], false⟩,
  ⟨1, .R, ⟨some 10, (Op.load 30 (Operand.tmp 9)), none⟩, [], false⟩,
  ⟨2, .F, ⟨some 11, (Op.fieldAddr 24 (Operand.tmp 3) 1), none⟩, [], false⟩,
  ⟨3, .R, ⟨some 12, (Op.load 22 (Operand.tmp 11)), none⟩, [], false⟩,
  ⟨4, .F, ⟨some 13, (Op.move (Operand.tmp 2)), none⟩, [], false⟩,
  ⟨5, .F, ⟨some 14, (Op.indexAddr 22 (Operand.tmp 12) (Operand.tmp 13)), none⟩, [], false⟩,
  ⟨6, .R, ⟨some 15, (Op.load 3 (Operand.tmp 14)), none⟩, [], false⟩,
  ⟨7, .F, ⟨some 16, (Op.indexAddr 30 (Operand.tmp 10) (Operand.tmp 15)), none⟩, [], false⟩,
  ⟨8, .F, ⟨some 17, (Op.fieldAddr 80 (Operand.tmp 16) 1), none⟩, [], false⟩,
  ⟨9, .R, ⟨some 18, (Op.load 78 (Operand.tmp 17)), none⟩, [], false⟩,
  ⟨10, .F, ⟨some 7, (Op.assign (Operand.tmp 18)), none⟩, [], false⟩])
 (.seq (.seq (.reg [⟨some 8, (Op.assign (Operand.const (Value.int IntKind.i64 0))), none⟩])
 (.block 0 (.loop (.seq (.seq (.reg [⟨some 19, (Op.move (Operand.tmp 8)), none⟩,
  ⟨some 20, (Op.move (Operand.tmp 7)), none⟩,
  ⟨some 21, (Op.call { callee := (Callee.builtin Builtin.len), args := #[(Operand.tmp 20)], argTypes := #[78] }), none⟩,
  ⟨some 22, (Op.binOp BinOp.lss 3 (Operand.tmp 19) (Operand.tmp 21) 3), none⟩])
 (.cond (Operand.tmp 22) .skip (.exit 0)))
 (.seq (.block 1 (.seq (.reg [⟨some 25, (Op.move (Operand.tmp 7)), none⟩,
  ⟨some 26, (Op.move (Operand.tmp 8)), none⟩,
  ⟨some 27, (Op.indexAddr 78 (Operand.tmp 25) (Operand.tmp 26)), none⟩,
  ⟨some 28, (Op.fieldAddr 90 (Operand.tmp 27) 0), none⟩,
  ⟨some 29, (Op.load 3 (Operand.tmp 28)), none⟩,
  ⟨some 30, (Op.move (Operand.tmp 2)), none⟩,
  ⟨some 31, (Op.binOp BinOp.eql 3 (Operand.tmp 29) (Operand.tmp 30) 3), none⟩])
 (.cond (Operand.tmp 31) (.seq (.reg [⟨some 32, (Op.move (Operand.tmp 8)), none⟩,
  ⟨some 6, (Op.assign (Operand.tmp 32)), none⟩])
 .ret) .skip)))
 (.reg [⟨some 23, (Op.move (Operand.tmp 8)), none⟩,
  ⟨some 24, (Op.binOp BinOp.add 3 (Operand.tmp 23) (Operand.const (Value.int IntKind.i64 1)) 3), none⟩,
  ⟨some 8, (Op.assign (Operand.tmp 24)), none⟩]))))))
 (.seq (.reg [⟨some 6, (Op.assign (Operand.const (Value.int IntKind.i64 (-1)))), none⟩])
 .ret))))
theorem fn67 : FnFact Try.prog 67 33 [(1, [(0, 0), (1, 3), (2, 0), (3, 3), (4, 0), (5, 0), (6, 3), (7, 0), (8, 0), (9, 3), (10, 0)], [[], [0], [], [2], [], [2, 3, 4], [2, 3, 4, 5], [0, 1, 2, 3, 4, 5, 6], [0, 1, 2, 3, 4, 5, 6, 7], [0, 1, 2, 3, 4, 5, 6, 7, 8], [0, 1, 2, 3, 4, 5, 6, 7, 8, 9]])] [(ResultVar.tmp 6)] cd67 := ⟨by kernel_rfl, ⟨Try.f67, Try.func67, by kernel_rfl, by rfl, Try.ntmps67, congrArg Array.toList Try.results67⟩⟩
/-- examiner/examinerref36.take -/
def cd68 : CC := (.seq (.reg [⟨some 3, (Op.box 33 (Operand.tmp 0)), none⟩,
  ⟨some 6, (Op.alloc 33), none⟩])
 (.seq (.dr [⟨0, .F, ⟨some 7, (Op.fieldAddr 33 (Operand.tmp 3) 0), none⟩, [], false⟩,
  ⟨1, .R, ⟨some 8, (Op.load 29 (Operand.tmp 7)), none⟩, [], false⟩,
  ⟨2, .F, ⟨some 9, (Op.move (Operand.tmp 1)), none⟩, [], false⟩,
  ⟨3, .F, ⟨some 10, (Op.fieldAddr 33 (Operand.tmp 3) 0), none⟩, [], false⟩,
  ⟨4, .R, ⟨some 11, (Op.load 29 (Operand.tmp 10)), none⟩, [], false⟩,
  ⟨5, .F, ⟨some 12, (Op.move (Operand.tmp 1)), none⟩, [], false⟩,
  ⟨6, .F, ⟨some 13, (Op.move (Operand.tmp 2)), none⟩, [], false⟩,
  ⟨7, .F, ⟨some 14, (Op.indexAddr 29 (Operand.tmp 8) (Operand.tmp 9)), none⟩, [], false⟩,
  ⟨8, .F, ⟨some 15, (Op.fieldAddr 68 (Operand.tmp 14) 2), none⟩, [], false⟩,
  ⟨9, .E, ⟨none, (Op.store 4 (Operand.tmp 15) (Operand.const (Value.bool true))), none⟩, [], true⟩,
  ⟨10, .F, ⟨some 16, (Op.indexAddr 29 (Operand.tmp 11) (Operand.tmp 12)), none⟩, [], false⟩,
  ⟨11, .F, ⟨some 17, (Op.fieldAddr 68 (Operand.tmp 16) 3), none⟩, [], false⟩,
  ⟨12, .E, ⟨none, (Op.store 3 (Operand.tmp 17) (Operand.tmp 13)), none⟩, [], false⟩])
 (.seq (.reg [⟨some 18, (Op.fieldAddr 33 (Operand.tmp 3) 1), none⟩,
  ⟨some 19, (Op.load 3 (Operand.tmp 18)), none⟩,
  ⟨some 20, (Op.move (Operand.tmp 2)), none⟩,
  ⟨some 21, (Op.call { callee := (Callee.builtin Builtin.max), args := #[(Operand.tmp 19), (Operand.tmp 20)], argTypes := #[3, 3] }), none⟩,
  ⟨some 22, (Op.fieldAddr 33 (Operand.tmp 3) 1), none⟩,
  ⟨none, (Op.store 3 (Operand.tmp 22) (Operand.tmp 21)), none⟩])
 (.seq (.reg [⟨some 23, (Op.load 33 (Operand.tmp 3)), none⟩,
  ⟨none, (Op.store 33 (Operand.tmp 6) (Operand.tmp 23)), none⟩])
 .ret))))
theorem fn68 : FnFact Try.prog 68 24 [(1, [(0, 0), (1, 3), (2, 0), (3, 0), (4, 3), (5, 0), (6, 0), (7, 0), (8, 0), (9, 4), (10, 0), (11, 0), (12, 2)], [[], [0], [], [], [3], [], [], [0, 1, 2], [0, 1, 2, 7], [0, 1, 2, 7, 8], [0, 1, 2, 3, 4, 5, 6, 7, 8, 9], [0, 1, 2, 3, 4, 5, 6, 7, 8, 9, 10], [0, 1, 2, 3, 4, 5, 6, 7, 8, 9, 10, 11]])] [(ResultVar.cell 6 33)] cd68 := ⟨by kernel_rfl, ⟨Try.f68, Try.func68, by kernel_rfl, by rfl, Try.ntmps68, congrArg Array.toList Try.results68⟩⟩
/-- slices.Clone[[]examiner/api.Placed,examiner/api.Placed] -/
def cd69 : CC := (.seq (.reg [⟨some 2, (Op.assign (Operand.const (Value.slice none 0 0))), none⟩])
 (.seq (.seq (.reg [⟨some 3, (Op.move (Operand.tmp 0)), none⟩,
  ⟨some 4, (Op.binOp BinOp.eql 29 (Operand.tmp 3) (Operand.const (Value.slice none 0 0)) 29), none⟩])
 (.cond (Operand.tmp 4) (.seq (.reg [⟨some 2, (Op.assign (Operand.const (Value.slice none 0 0))), none⟩])
 .ret) .skip))
 (.seq (.reg [⟨some 5, (Op.buildSlice 29 0 #[]), none⟩,
  ⟨some 6, (Op.move (Operand.tmp 0)), none⟩,
  ⟨some 7, (Op.call { callee := (Callee.builtin Builtin.append), args := #[(Operand.tmp 5), (Operand.tmp 6)], argTypes := #[29, 29] }), none⟩,
  ⟨some 2, (Op.assign (Operand.tmp 7)), none⟩])
 .ret)))
theorem fn69 : FnFact Try.prog 69 8 [] [(ResultVar.tmp 2)] cd69 := ⟨by kernel_rfl, ⟨Try.f69, Try.func69, by kernel_rfl, by rfl, Try.ntmps69, congrArg Array.toList Try.results69⟩⟩
/-- slices.Clone[[]examiner/api.HostState,examiner/api.HostState] -/
def cd70 : CC := (.seq (.reg [⟨some 2, (Op.assign (Operand.const (Value.slice none 0 0))), none⟩])
 (.seq (.seq (.reg [⟨some 3, (Op.move (Operand.tmp 0)), none⟩,
  ⟨some 4, (Op.binOp BinOp.eql 30 (Operand.tmp 3) (Operand.const (Value.slice none 0 0)) 30), none⟩])
 (.cond (Operand.tmp 4) (.seq (.reg [⟨some 2, (Op.assign (Operand.const (Value.slice none 0 0))), none⟩])
 .ret) .skip))
 (.seq (.reg [⟨some 5, (Op.buildSlice 30 0 #[]), none⟩,
  ⟨some 6, (Op.move (Operand.tmp 0)), none⟩,
  ⟨some 7, (Op.call { callee := (Callee.builtin Builtin.append), args := #[(Operand.tmp 5), (Operand.tmp 6)], argTypes := #[30, 30] }), none⟩,
  ⟨some 2, (Op.assign (Operand.tmp 7)), none⟩])
 .ret)))
theorem fn70 : FnFact Try.prog 70 8 [] [(ResultVar.tmp 2)] cd70 := ⟨by kernel_rfl, ⟨Try.f70, Try.func70, by kernel_rfl, by rfl, Try.ntmps70, congrArg Array.toList Try.results70⟩⟩
/-- slices.Clone[[]examiner/api.Packet,examiner/api.Packet] -/
def cd71 : CC := (.seq (.reg [⟨some 2, (Op.assign (Operand.const (Value.slice none 0 0))), none⟩])
 (.seq (.seq (.reg [⟨some 3, (Op.move (Operand.tmp 0)), none⟩,
  ⟨some 4, (Op.binOp BinOp.eql 31 (Operand.tmp 3) (Operand.const (Value.slice none 0 0)) 31), none⟩])
 (.cond (Operand.tmp 4) (.seq (.reg [⟨some 2, (Op.assign (Operand.const (Value.slice none 0 0))), none⟩])
 .ret) .skip))
 (.seq (.reg [⟨some 5, (Op.buildSlice 31 0 #[]), none⟩,
  ⟨some 6, (Op.move (Operand.tmp 0)), none⟩,
  ⟨some 7, (Op.call { callee := (Callee.builtin Builtin.append), args := #[(Operand.tmp 5), (Operand.tmp 6)], argTypes := #[31, 31] }), none⟩,
  ⟨some 2, (Op.assign (Operand.tmp 7)), none⟩])
 .ret)))
theorem fn71 : FnFact Try.prog 71 8 [] [(ResultVar.tmp 2)] cd71 := ⟨by kernel_rfl, ⟨Try.f71, Try.func71, by kernel_rfl, by rfl, Try.ntmps71, congrArg Array.toList Try.results71⟩⟩
/-- slices.Clone[[]examiner/api.HostPart,examiner/api.HostPart] -/
def cd72 : CC := (.seq (.reg [⟨some 2, (Op.assign (Operand.const (Value.slice none 0 0))), none⟩])
 (.seq (.seq (.reg [⟨some 3, (Op.move (Operand.tmp 0)), none⟩,
  ⟨some 4, (Op.binOp BinOp.eql 78 (Operand.tmp 3) (Operand.const (Value.slice none 0 0)) 78), none⟩])
 (.cond (Operand.tmp 4) (.seq (.reg [⟨some 2, (Op.assign (Operand.const (Value.slice none 0 0))), none⟩])
 .ret) .skip))
 (.seq (.reg [⟨some 5, (Op.buildSlice 78 0 #[]), none⟩,
  ⟨some 6, (Op.move (Operand.tmp 0)), none⟩,
  ⟨some 7, (Op.call { callee := (Callee.builtin Builtin.append), args := #[(Operand.tmp 5), (Operand.tmp 6)], argTypes := #[78, 78] }), none⟩,
  ⟨some 2, (Op.assign (Operand.tmp 7)), none⟩])
 .ret)))
theorem fn72 : FnFact Try.prog 72 8 [] [(ResultVar.tmp 2)] cd72 := ⟨by kernel_rfl, ⟨Try.f72, Try.func72, by kernel_rfl, by rfl, Try.ntmps72, congrArg Array.toList Try.results72⟩⟩
/-- (*examiner/hosts.run).send -/
def cd73 : CC := (.seq (.reg [⟨some 8, (Op.move (Operand.tmp 0)), none⟩,
  ⟨some 9, (Op.nilCheck (Operand.tmp 8)), none⟩,
  ⟨some 10, (Op.fieldAddr 85 (Operand.tmp 9) 1), none⟩,
  ⟨some 11, (Op.fieldAddr 33 (Operand.tmp 10) 3), none⟩,
  ⟨some 12, (Op.load 31 (Operand.tmp 11)), none⟩,
  ⟨some 13, (Op.call { callee := (Callee.builtin Builtin.len), args := #[(Operand.tmp 12)], argTypes := #[31] }), none⟩,
  ⟨some 14, (Op.binOp BinOp.lss 3 (Operand.tmp 13) (Operand.const (Value.int IntKind.i64 12)) 3), none⟩])
 (.cond (Operand.tmp 14) (.dr [⟨0, .F, ⟨some 15, (Op.move (Operand.tmp 0)), none⟩, [], false⟩,
  ⟨1, .F, ⟨some 16, (Op.move (Operand.tmp 0)), none⟩, [], false⟩,
  ⟨2, .F, ⟨some 17, (Op.nilCheck (Operand.tmp 16)), none⟩, [], false⟩,
  ⟨3, .F, ⟨some 18, (Op.fieldAddr 85 (Operand.tmp 17) 1), none⟩, [], false⟩,
  ⟨4, .F, ⟨some 19, (Op.fieldAddr 33 (Operand.tmp 18) 3), none⟩, [], false⟩,
  ⟨5, .R, ⟨some 20, (Op.load 31 (Operand.tmp 19)), none⟩, [], false⟩,
  ⟨6, .F, ⟨some 21, (Op.move (Operand.tmp 1)), none⟩, [], false⟩,
  ⟨7, .F, ⟨some 22, (Op.move (Operand.tmp 0)), none⟩, [], false⟩,
  ⟨8, .F, ⟨some 23, (Op.nilCheck (Operand.tmp 22)), none⟩, [], false⟩,
  ⟨9, .F, ⟨some 24, (Op.fieldAddr 85 (Operand.tmp 23) 0), none⟩, [], false⟩,
  ⟨10, .F, ⟨some 25, (Op.fieldAddr 24 (Operand.tmp 24) 1), none⟩, [], false⟩,
  ⟨11, .R, ⟨some 26, (Op.load 22 (Operand.tmp 25)), none⟩, [], false⟩,
  ⟨12, .F, ⟨some 27, (Op.move (Operand.tmp 2)), none⟩, [], false⟩,
  ⟨13, .F, ⟨some 28, (Op.indexAddr 22 (Operand.tmp 26) (Operand.tmp 27)), none⟩, [], false⟩,
  ⟨14, .R, ⟨some 29, (Op.load 3 (Operand.tmp 28)), none⟩, [], false⟩,
  ⟨15, .F, ⟨some 30, (Op.move (Operand.tmp 2)), none⟩, [], false⟩,
  ⟨16, .F, ⟨some 31, (Op.move (Operand.tmp 3)), none⟩, [], false⟩,
  ⟨17, .F, ⟨some 32, (Op.build 92 #[(0, (Operand.tmp 21)), (1, (Operand.tmp 29)), (2, (Operand.tmp 30)), (3, (Operand.tmp 31))]), none⟩, [], false⟩,
  ⟨18, .F, ⟨some 33, (Op.buildSlice 31 1 #[(0, (Operand.tmp 32))]), none⟩, [], false⟩,
  ⟨19, .E, ⟨some 34, (Op.call { callee := (Callee.builtin Builtin.append), args := #[(Operand.tmp 20), (Operand.tmp 33)], argTypes := #[31, 31] }), none⟩, [], false⟩,
  ⟨20, .F, ⟨some 35, (Op.nilCheck (Operand.tmp 15)), none⟩, [], false⟩,
  ⟨21, .F, ⟨some 36, (Op.fieldAddr 85 (Operand.tmp 35) 1), none⟩, [], false⟩,
  ⟨22, .F, ⟨some 37, (Op.fieldAddr 33 (Operand.tmp 36) 3), none⟩, [], false⟩,
  ⟨23, .E, ⟨none, (Op.store 31 (Operand.tmp 37) (Operand.tmp 34)), none⟩, [], false⟩]) .skip))
theorem fn73 : FnFact Try.prog 73 38 [(1, [(0, 0), (1, 0), (2, 0), (3, 0), (4, 0), (5, 3), (6, 0), (7, 0), (8, 0), (9, 0), (10, 0), (11, 3), (12, 0), (13, 0), (14, 3), (15, 0), (16, 0), (17, 0), (18, 0), (19, 2), (20, 0), (21, 0), (22, 0), (23, 2)], [[], [], [1], [1, 2], [1, 2, 3], [1, 2, 3, 4], [], [], [7], [7, 8], [7, 8, 9], [7, 8, 9, 10], [], [7, 8, 9, 10, 11, 12], [7, 8, 9, 10, 11, 12, 13], [], [], [6, 7, 8, 9, 10, 11, 12, 13, 14, 15, 16], [6, 7, 8, 9, 10, 11, 12, 13, 14, 15, 16, 17], [1, 2, 3, 4, 5, 6, 7, 8, 9, 10, 11, 12, 13, 14, 15, 16, 17, 18], [0, 1, 2, 3, 4, 5, 6, 7, 8, 9, 10, 11, 12, 13, 14, 15, 16, 17, 18, 19], [0, 1, 2, 3, 4, 5, 6, 7, 8, 9, 10, 11, 12, 13, 14, 15, 16, 17, 18, 19, 20], [0, 1, 2, 3, 4, 5, 6, 7, 8, 9, 10, 11, 12, 13, 14, 15, 16, 17, 18, 19, 20, 21], [0, 1, 2, 3, 4, 5, 6, 7, 8, 9, 10, 11, 12, 13, 14, 15, 16, 17, 18, 19, 20, 21, 22]])] [] cd73 := ⟨by kernel_rfl, ⟨Try.f73, Try.func73, by kernel_rfl, by rfl, Try.ntmps73, congrArg Array.toList Try.results73⟩⟩
/-- slices.Delete[[]examiner/api.Packet,examiner/api.Packet] -/
def cd74 : CC := (.seq (.reg [⟨some 6, (Op.assign (Operand.const (Value.slice none 0 0))), none⟩])
 (.seq (.reg [⟨some 8, (Op.move (Operand.tmp 0)), none⟩,
  ⟨some 9, (Op.move (Operand.tmp 1)), none⟩,
  ⟨some 10, (Op.move (Operand.tmp 2)), none⟩,
  ⟨some 11, (Op.move (Operand.tmp 0)), none⟩,
  ⟨some 12, (Op.call { callee := (Callee.builtin Builtin.len), args := #[(Operand.tmp 11)], argTypes := #[31] }), none⟩,
  ⟨some 13, (Op.slice 31 (Operand.tmp 8) (some (Operand.tmp 9)) (some (Operand.tmp 10)) (some (Operand.tmp 12))), none⟩])
 (.seq (.seq (.reg [⟨some 14, (Op.move (Operand.tmp 1)), none⟩,
  ⟨some 15, (Op.move (Operand.tmp 2)), none⟩,
  ⟨some 16, (Op.binOp BinOp.eql 3 (Operand.tmp 14) (Operand.tmp 15) 3), none⟩])
 (.cond (Operand.tmp 16) (.seq (.reg [⟨some 17, (Op.move (Operand.tmp 0)), none⟩,
  ⟨some 6, (Op.assign (Operand.tmp 17)), none⟩])
 .ret) .skip))
 (.seq (.reg [⟨some 18, (Op.move (Operand.tmp 0)), none⟩,
  ⟨some 19, (Op.call { callee := (Callee.builtin Builtin.len), args := #[(Operand.tmp 18)], argTypes := #[31] }), none⟩,
  ⟨some 7, (Op.assign (Operand.tmp 19)), none⟩])
 (.seq (.dr [⟨0, .F, ⟨some 20, (Op.move (Operand.tmp 0)), none⟩, [], false⟩,
  ⟨1, .F, ⟨some 21, (Op.move (Operand.tmp 1)), none⟩, [], false⟩,
  ⟨2, .F, ⟨some 22, (Op.slice 31 (Operand.tmp 20) none (some (Operand.tmp 21)) none), none⟩, [], false⟩,
  ⟨3, .F, ⟨some 23, (Op.move (Operand.tmp 0)), none⟩, [], false⟩,
  ⟨4, .F, ⟨some 24, (Op.move (Operand.tmp 2)), none⟩, [], false⟩,
  ⟨5, .F, ⟨some 25, (Op.slice 31 (Operand.tmp 23) (some (Operand.tmp 24)) none none), none⟩, [], false⟩,
  ⟨6, .E, ⟨some 26, (Op.call { callee := (Callee.builtin Builtin.append), args := #[(Operand.tmp 22), (Operand.tmp 25)], argTypes := #[31, 31] }), none⟩, [], false⟩,
  ⟨7, .F, ⟨some 0, (Op.assign (Operand.tmp 26)), none⟩, [], false⟩])
 (.seq (.reg [⟨some 27, (Op.move (Operand.tmp 0)), none⟩,
  ⟨some 28, (Op.move (Operand.tmp 0)), none⟩,
  ⟨some 29, (Op.call { callee := (Callee.builtin Builtin.len), args := #[(Operand.tmp 28)], argTypes := #[31] }), none⟩,
  ⟨some 30, (Op.move (Operand.tmp 7)), none⟩,
  ⟨some 31, (Op.slice 31 (Operand.tmp 27) (some (Operand.tmp 29)) (some (Operand.tmp 30)) none), none⟩,
  ⟨none, (Op.call { callee := (Callee.builtin Builtin.clear), args := #[(Operand.tmp 31)], argTypes := #[31] }), none⟩])
 (.seq (.reg [⟨some 32, (Op.move (Operand.tmp 0)), none⟩,
  ⟨some 6, (Op.assign (Operand.tmp 32)), none⟩])
 .ret)))))))
theorem fn74 : FnFact Try.prog 74 33 [(5, [(0, 0), (1, 0), (2, 0), (3, 0), (4, 0), (5, 0), (6, 2), (7, 0)], [[], [], [0, 1], [], [], [3, 4], [0, 1, 2, 3, 4, 5], [0, 1, 2, 3, 4, 5, 6]])] [(ResultVar.tmp 6)] cd74 := ⟨by kernel_rfl, ⟨Try.f74, Try.func74, by kernel_rfl, by rfl, Try.ntmps74, congrArg Array.toList Try.results74⟩⟩
/-- (*examiner/hosts.run).deliver -/
def cd75 : CC := (.seq (.reg [⟨some 3, (Op.box 92 (Operand.tmp 1)), none⟩])
 (.seq (.dr [⟨0, .F, ⟨some 6, (Op.move (Operand.tmp 0)), none⟩, [], false⟩,
  ⟨1, .F, ⟨some 7, (Op.nilCheck (Operand.tmp 6)), none⟩, [], false⟩,
  ⟨2, .F, ⟨some 8, (Op.fieldAddr 85 (Operand.tmp 7) 1), none⟩, [], false⟩,
  ⟨3, .F, ⟨some 9, (Op.fieldAddr 33 (Operand.tmp 8) 2), none⟩, [], false⟩,
  ⟨4, .R, ⟨some 10, (Op.load 30 (Operand.tmp 9)), none⟩, [], false⟩,
  ⟨5, .F, ⟨some 11, (Op.fieldAddr 92 (Operand.tmp 3) 1), none⟩, [], false⟩,
  ⟨6, .R, ⟨some 12, (Op.load 3 (Operand.tmp 11)), none⟩, [], false⟩,
  ⟨7, .F, ⟨some 13, (Op.indexAddr 30 (Operand.tmp 10) (Operand.tmp 12)), none⟩, [], false⟩,
  ⟨8, .F, ⟨some 4, (Op.assign (Operand.tmp 13)), none⟩, [], false⟩])
 (.seq (.dr [⟨0, .F, ⟨some 14, (Op.move (Operand.tmp 0)), none⟩, [], false⟩,
  ⟨1, .F, ⟨some 15, (Op.nilCheck (Operand.tmp 14)), none⟩, [], false⟩,
  ⟨2, .F, ⟨some 16, (Op.fieldAddr 85 (Operand.tmp 15) 0), none⟩, [], false⟩,
  ⟨3, .R, ⟨some 17, (Op.load 24 (Operand.tmp 16)), none⟩, [], false⟩,
  ⟨4, .F, ⟨some 18, (Op.move (Operand.tmp 0)), none⟩, [], false⟩,
  ⟨5, .F, ⟨some 19, (Op.nilCheck (Operand.tmp 18)), none⟩, [], false⟩,
  ⟨6, .F, ⟨some 20, (Op.fieldAddr 85 (Operand.tmp 19) 1), none⟩, [], false⟩,
  ⟨7, .R, ⟨some 21, (Op.load 33 (Operand.tmp 20)), none⟩, [], false⟩,
  ⟨8, .F, ⟨some 22, (Op.fieldAddr 92 (Operand.tmp 3) 2), none⟩, [], false⟩,
  ⟨9, .R, ⟨some 23, (Op.load 3 (Operand.tmp 22)), none⟩, [], false⟩,
  ⟨10, .E, ⟨some 24, (Op.call { callee := (Callee.value (Operand.func 76)), args := #[(Operand.tmp 17), (Operand.tmp 21), (Operand.tmp 23)], argTypes := #[24, 33, 3] }), none⟩, [], false⟩,
  ⟨11, .F, ⟨some 5, (Op.assign (Operand.tmp 24)), none⟩, [], false⟩])
 (.seq (.reg [⟨some 25, (Op.fieldAddr 92 (Operand.tmp 3) 0), none⟩,
  ⟨some 26, (Op.load 3 (Operand.tmp 25)), none⟩])
 (.block 0 (.seq (.reg [⟨some 28, (Op.binOp BinOp.eql 3 (Operand.tmp 26) (Operand.const (Value.int IntKind.i64 0)) 3), none⟩,
  ⟨some 27, (Op.assign (Operand.tmp 28)), none⟩])
 (.cond (Operand.tmp 27) (.seq (.seq (.reg [⟨some 29, (Op.move (Operand.tmp 4)), none⟩,
  ⟨some 30, (Op.nilCheck (Operand.tmp 29)), none⟩,
  ⟨some 31, (Op.fieldAddr 80 (Operand.tmp 30) 0), none⟩,
  ⟨some 32, (Op.load 4 (Operand.tmp 31)), none⟩])
 (.cond (Operand.tmp 32) .ret .skip))
 (.seq (.seq (.reg [⟨some 33, (Op.move (Operand.tmp 5)), none⟩,
  ⟨some 34, (Op.binOp BinOp.lss 3 (Operand.tmp 33) (Operand.const (Value.int IntKind.i64 0)) 3), none⟩])
 (.cond (Operand.tmp 34) (.dr [⟨0, .F, ⟨some 35, (Op.move (Operand.tmp 4)), none⟩, [], false⟩,
  ⟨1, .F, ⟨some 36, (Op.move (Operand.tmp 4)), none⟩, [], false⟩,
  ⟨2, .F, ⟨some 37, (Op.nilCheck (Operand.tmp 36)), none⟩, [], false⟩,
  ⟨3, .F, ⟨some 38, (Op.fieldAddr 80 (Operand.tmp 37) 1), none⟩, [], false⟩,
  ⟨4, .R, ⟨some 39, (Op.load 78 (Operand.tmp 38)), none⟩, [], false⟩,
  ⟨5, .F, ⟨some 40, (Op.fieldAddr 92 (Operand.tmp 3) 2), none⟩, [], false⟩,
  ⟨6, .R, ⟨some 41, (Op.load 3 (Operand.tmp 40)), none⟩, [], false⟩,
  ⟨7, .F, ⟨some 42, (Op.build 90 #[(0, (Operand.tmp 41))]), none⟩, [], false⟩,
  ⟨8, .F, ⟨some 43, (Op.buildSlice 78 1 #[(0, (Operand.tmp 42))]), none⟩, [], false⟩,
  ⟨9, .E, ⟨some 44, (Op.call { callee := (Callee.builtin Builtin.append), args := #[(Operand.tmp 39), (Operand.tmp 43)], argTypes := #[78, 78] }), none⟩, [], false⟩,
  ⟨10, .F, ⟨some 45, (Op.nilCheck (Operand.tmp 35)), none⟩, [], false⟩,
  ⟨11, .F, ⟨some 46, (Op.fieldAddr 80 (Operand.tmp 45) 1), none⟩, [], false⟩,
  ⟨12, .E, ⟨none, (Op.store 78 (Operand.tmp 46) (Operand.tmp 44)), none⟩, [], false⟩]) .skip))
 (.reg [⟨some 47, (Op.move (Operand.tmp 0)), none⟩,
  ⟨some 48, (Op.fieldAddr 92 (Operand.tmp 3) 2), none⟩,
  ⟨some 49, (Op.load 3 (Operand.tmp 48)), none⟩,
  ⟨some 50, (Op.call { callee := (Callee.value (Operand.func 73)), args := #[(Operand.tmp 47), (Operand.const (Value.int IntKind.i64 1)), (Operand.tmp 49), (Operand.const (Value.int IntKind.i64 0))], argTypes := #[83, 3, 3, 3] }), none⟩]))) (.seq (.reg [⟨some 52, (Op.binOp BinOp.eql 3 (Operand.tmp 26) (Operand.const (Value.int IntKind.i64 1)) 3), none⟩,
  ⟨some 51, (Op.assign (Operand.tmp 52)), none⟩])
 (.cond (Operand.tmp 51) (.dr [⟨0, .F, ⟨some 53, (Op.move (Operand.tmp 0)), none⟩, [], false⟩,
  ⟨1, .F, ⟨some 54, (Op.nilCheck (Operand.tmp 53)), none⟩, [], false⟩,
  ⟨2, .F, ⟨some 55, (Op.fieldAddr 85 (Operand.tmp 54) 1), none⟩, [], false⟩,
  ⟨3, .F, ⟨some 56, (Op.fieldAddr 33 (Operand.tmp 55) 0), none⟩, [], false⟩,
  ⟨4, .R, ⟨some 57, (Op.load 29 (Operand.tmp 56)), none⟩, [], false⟩,
  ⟨5, .F, ⟨some 58, (Op.fieldAddr 92 (Operand.tmp 3) 2), none⟩, [], false⟩,
  ⟨6, .R, ⟨some 59, (Op.load 3 (Operand.tmp 58)), none⟩, [], false⟩,
  ⟨7, .F, ⟨some 60, (Op.indexAddr 29 (Operand.tmp 57) (Operand.tmp 59)), none⟩, [], false⟩,
  ⟨8, .F, ⟨some 61, (Op.fieldAddr 68 (Operand.tmp 60) 1), none⟩, [], false⟩,
  ⟨9, .E, ⟨none, (Op.store 4 (Operand.tmp 61) (Operand.const (Value.bool true))), none⟩, [], false⟩]) (.seq (.reg [⟨some 63, (Op.binOp BinOp.eql 3 (Operand.tmp 26) (Operand.const (Value.int IntKind.i64 2)) 3), none⟩,
  ⟨some 62, (Op.assign (Operand.tmp 63)), none⟩])
 (.cond (Operand.tmp 62) (.seq (.seq (.dr [⟨0, .F, ⟨some 64, (Op.move (Operand.tmp 0)), none⟩, [], false⟩,
  ⟨1, .F, ⟨some 65, (Op.nilCheck (Operand.tmp 64)), none⟩, [], false⟩,
  ⟨2, .F, ⟨some 66, (Op.fieldAddr 85 (Operand.tmp 65) 1), none⟩, [], false⟩,
  ⟨3, .F, ⟨some 67, (Op.fieldAddr 33 (Operand.tmp 66) 0), none⟩, [], false⟩,
  ⟨4, .R, ⟨some 68, (Op.load 29 (Operand.tmp 67)), none⟩, [], false⟩,
  ⟨5, .F, ⟨some 69, (Op.fieldAddr 92 (Operand.tmp 3) 2), none⟩, [], false⟩,
  ⟨6, .R, ⟨some 70, (Op.load 3 (Operand.tmp 69)), none⟩, [], false⟩,
  ⟨7, .F, ⟨some 71, (Op.indexAddr 29 (Operand.tmp 68) (Operand.tmp 70)), none⟩, [], false⟩,
  ⟨8, .F, ⟨some 72, (Op.fieldAddr 68 (Operand.tmp 71) 2), none⟩, [], false⟩,
  ⟨9, .R, ⟨some 73, (Op.load 4 (Operand.tmp 72)), none⟩, [], false⟩,
  ⟨10, .F, ⟨some 74, (Op.unOp UnOp.not 4 (Operand.tmp 73)), none⟩, [], false⟩])
 (.cond (Operand.tmp 74) (.reg [⟨some 75, (Op.move (Operand.tmp 0)), none⟩,
  ⟨some 76, (Op.fieldAddr 92 (Operand.tmp 3) 2), none⟩,
  ⟨some 77, (Op.load 3 (Operand.tmp 76)), none⟩,
  ⟨some 78, (Op.fieldAddr 92 (Operand.tmp 3) 3), none⟩,
  ⟨some 79, (Op.load 3 (Operand.tmp 78)), none⟩,
  ⟨some 80, (Op.call { callee := (Callee.value (Operand.func 77)), args := #[(Operand.tmp 75), (Operand.tmp 77), (Operand.tmp 79)], argTypes := #[83, 3, 3] }), none⟩]) .skip))
 (.reg [⟨some 81, (Op.move (Operand.tmp 0)), none⟩,
  ⟨some 82, (Op.fieldAddr 92 (Operand.tmp 3) 2), none⟩,
  ⟨some 83, (Op.load 3 (Operand.tmp 82)), none⟩,
  ⟨some 84, (Op.call { callee := (Callee.value (Operand.func 73)), args := #[(Operand.tmp 81), (Operand.const (Value.int IntKind.i64 3)), (Operand.tmp 83), (Operand.const (Value.int IntKind.i64 0))], argTypes := #[83, 3, 3, 3] }), none⟩])) (.seq (.reg [⟨some 86, (Op.binOp BinOp.eql 3 (Operand.tmp 26) (Operand.const (Value.int IntKind.i64 3)) 3), none⟩,
  ⟨some 85, (Op.assign (Operand.tmp 86)), none⟩])
 (.cond (Operand.tmp 85) (.seq (.reg [⟨some 87, (Op.move (Operand.tmp 4)), none⟩,
  ⟨some 88, (Op.nilCheck (Operand.tmp 87)), none⟩,
  ⟨some 89, (Op.fieldAddr 80 (Operand.tmp 88) 0), none⟩,
  ⟨some 90, (Op.load 4 (Operand.tmp 89)), none⟩,
  ⟨some 91, (Op.unOp UnOp.not 4 (Operand.tmp 90)), none⟩,
  ⟨some 92, (Op.move (Operand.tmp 91)), none⟩,
  ⟨some 93, (Op.move (Operand.tmp 5)), some (92, true)⟩,
  ⟨some 94, (Op.binOp BinOp.geq 3 (Operand.tmp 93) (Operand.const (Value.int IntKind.i64 0)) 3), some (92, true)⟩,
  ⟨some 95, (Op.pick (Operand.tmp 92) (Operand.tmp 94) (Operand.const (Value.bool false))), none⟩,
  ⟨some 96, (Op.move (Operand.tmp 95)), none⟩,
  ⟨some 97, (Op.move (Operand.tmp 4)), some (96, true)⟩,
  ⟨some 98, (Op.nilCheck (Operand.tmp 97)), some (96, true)⟩,
  ⟨some 99, (Op.fieldAddr 80 (Operand.tmp 98) 1), some (96, true)⟩,
  ⟨some 100, (Op.load 78 (Operand.tmp 99)), some (96, true)⟩,
  ⟨some 101, (Op.move (Operand.tmp 5)), some (96, true)⟩,
  ⟨some 102, (Op.indexAddr 78 (Operand.tmp 100) (Operand.tmp 101)), some (96, true)⟩,
  ⟨some 103, (Op.fieldAddr 90 (Operand.tmp 102) 1), some (96, true)⟩,
  ⟨some 104, (Op.load 4 (Operand.tmp 103)), some (96, true)⟩,
  ⟨some 105, (Op.pick (Operand.tmp 96) (Operand.tmp 104) (Operand.const (Value.bool false))), none⟩])
 (.cond (Operand.tmp 105) (.reg [⟨some 106, (Op.move (Operand.tmp 4)), none⟩,
  ⟨some 107, (Op.nilCheck (Operand.tmp 106)), none⟩,
  ⟨some 108, (Op.fieldAddr 80 (Operand.tmp 107) 1), none⟩,
  ⟨some 109, (Op.load 78 (Operand.tmp 108)), none⟩,
  ⟨some 110, (Op.move (Operand.tmp 5)), none⟩,
  ⟨some 111, (Op.indexAddr 78 (Operand.tmp 109) (Operand.tmp 110)), none⟩,
  ⟨some 112, (Op.fieldAddr 90 (Operand.tmp 111) 2), none⟩,
  ⟨none, (Op.store 4 (Operand.tmp 112) (Operand.const (Value.bool true))), none⟩]) .skip)) .skip)))))))))))))
theorem fn75 : FnFact Try.prog 75 113 [(1, [(0, 0), (1, 0), (2, 0), (3, 0), (4, 3), (5, 0), (6, 3), (7, 0), (8, 0)], [[], [0], [0, 1], [0, 1, 2], [0, 1, 2, 3], [], [5], [0, 1, 2, 3, 4, 5, 6], [0, 1, 2, 3, 4, 5, 6, 7]]), (2, [(0, 0), (1, 0), (2, 0), (3, 3), (4, 0), (5, 0), (6, 0), (7, 3), (8, 0), (9, 3), (10, 2), (11, 0)], [[], [0], [0, 1], [0, 1, 2], [], [4], [4, 5], [4, 5, 6], [], [8], [0, 1, 2, 3, 4, 5, 6, 7, 8, 9], [0, 1, 2, 3, 4, 5, 6, 7, 8, 9, 10]]), (7, [(0, 0), (1, 0), (2, 0), (3, 0), (4, 3), (5, 0), (6, 3), (7, 0), (8, 0), (9, 2), (10, 0), (11, 0), (12, 2)], [[], [], [1], [1, 2], [1, 2, 3], [], [5], [5, 6], [5, 6, 7], [1, 2, 3, 4, 5, 6, 7, 8], [0, 1, 2, 3, 4, 5, 6, 7, 8, 9], [0, 1, 2, 3, 4, 5, 6, 7, 8, 9, 10], [0, 1, 2, 3, 4, 5, 6, 7, 8, 9, 10, 11]]), (10, [(0, 0), (1, 0), (2, 0), (3, 0), (4, 3), (5, 0), (6, 3), (7, 0), (8, 0), (9, 2)], [[], [0], [0, 1], [0, 1, 2], [0, 1, 2, 3], [], [5], [0, 1, 2, 3, 4, 5, 6], [0, 1, 2, 3, 4, 5, 6, 7], [0, 1, 2, 3, 4, 5, 6, 7, 8]]), (12, [(0, 0), (1, 0), (2, 0), (3, 0), (4, 3), (5, 0), (6, 3), (7, 0), (8, 0), (9, 3), (10, 0)], [[], [0], [0, 1], [0, 1, 2], [0, 1, 2, 3], [], [5], [0, 1, 2, 3, 4, 5, 6], [0, 1, 2, 3, 4, 5, 6, 7], [0, 1, 2, 3, 4, 5, 6, 7, 8], [0, 1, 2, 3, 4, 5, 6, 7, 8, 9]])] [] cd75 := ⟨by kernel_rfl, ⟨Try.f75, Try.func75, by kernel_rfl, by rfl, Try.ntmps75, congrArg Array.toList Try.results75⟩⟩
/-- examiner/hosts.partAt -/
def cd76 : CC := (.seq (.reg [⟨some 3, (Op.box 24 (Operand.tmp 0)), none⟩,
  ⟨some 4, (Op.box 33 (Operand.tmp 1)), none⟩,
  ⟨some 5, (Op.box 3 (Operand.tmp 2)), none⟩,
  ⟨some 6, (Op.assign (Operand.const (Value.int IntKind.i64 0))), none⟩])
 (.seq (.dr [⟨0, .F, ⟨some 7, (Op.fieldAddr 33 (Operand.tmp 4) 2), none⟩, [], false⟩,
  ⟨1, .R, ⟨some 8, (Op.load 30 (Operand.tmp 7)), none⟩, [], false⟩,
  ⟨2, .F, ⟨some 9, (Op.fieldAddr 24 (Operand.tmp 3) 1), none⟩, [], false⟩,
  ⟨3, .R, ⟨some 10, (Op.load 22 (Operand.tmp 9)), none⟩, [], false⟩,
  ⟨4, .R, ⟨some 11, (Op.load 3 (Operand.tmp 5)), none⟩, [], false⟩,
  ⟨5, .F, ⟨some 12, (Op.indexAddr 22 (Operand.tmp 10) (Operand.tmp 11)), none⟩, [], false⟩,
  ⟨6, .R, ⟨some 13, (Op.load 3 (Operand.tmp 12)), none⟩, [], false⟩,
  ⟨7, .F, ⟨some 14, (Op.indexAddr 30 (Operand.tmp 8) (Operand.tmp 13)), none⟩, [], false⟩,
  ⟨8, .F, ⟨some 15, (Op.fieldAddr 80 (Operand.tmp 14) 1), none⟩, [], false⟩,
  ⟨9, .R, ⟨some 16, (Op.load 78 (Operand.tmp 15)), none⟩, [], false⟩,
  ⟨10, .F, ⟨some 17, (Op.makeFunc (Fn.func 84) #[] #[(Operand.tmp 5)]), none⟩, [], false⟩,
  ⟨11, .E, ⟨some 18, (Op.call { callee := (Callee.value (Operand.func 83)), args := #[(Operand.tmp 16), (Operand.tmp 17)], argTypes := #[78, 118] }), none⟩, [], false⟩,
  ⟨12, .F, ⟨some 6, (Op.assign (Operand.tmp 18)), none⟩, [], false⟩])
 .ret))
theorem fn76 : FnFact Try.prog 76 19 [(1, [(0, 0), (1, 3), (2, 0), (3, 3), (4, 3), (5, 0), (6, 3), (7, 0), (8, 0), (9, 3), (10, 0), (11, 2), (12, 0)], [[], [0], [], [2], [], [2, 3, 4], [2, 3, 4, 5], [0, 1, 2, 3, 4, 5, 6], [0, 1, 2, 3, 4, 5, 6, 7], [0, 1, 2, 3, 4, 5, 6, 7, 8], [], [0, 1, 2, 3, 4, 5, 6, 7, 8, 9, 10], [0, 1, 2, 3, 4, 5, 6, 7, 8, 9, 10, 11]])] [(ResultVar.tmp 6)] cd76 := ⟨by kernel_rfl, ⟨Try.f76, Try.func76, by kernel_rfl, by rfl, Try.ntmps76, congrArg Array.toList Try.results76⟩⟩
/-- (*examiner/hosts.run).take -/
def cd77 : CC := (.seq (.reg [⟨some 7, (Op.move (Operand.tmp 0)), none⟩,
  ⟨some 8, (Op.nilCheck (Operand.tmp 7)), none⟩,
  ⟨some 9, (Op.fieldAddr 85 (Operand.tmp 8) 1), none⟩,
  ⟨some 10, (Op.fieldAddr 33 (Operand.tmp 9) 0), none⟩,
  ⟨some 11, (Op.load 29 (Operand.tmp 10)), none⟩,
  ⟨some 12, (Op.move (Operand.tmp 1)), none⟩,
  ⟨some 13, (Op.indexAddr 29 (Operand.tmp 11) (Operand.tmp 12)), none⟩,
  ⟨some 6, (Op.assign (Operand.tmp 13)), none⟩])
 (.seq (.reg [⟨some 14, (Op.move (Operand.tmp 6)), none⟩,
  ⟨some 15, (Op.move (Operand.tmp 6)), none⟩,
  ⟨some 16, (Op.move (Operand.tmp 2)), none⟩,
  ⟨some 17, (Op.nilCheck (Operand.tmp 14)), none⟩,
  ⟨some 18, (Op.fieldAddr 68 (Operand.tmp 17) 2), none⟩,
  ⟨none, (Op.store 4 (Operand.tmp 18) (Operand.const (Value.bool true))), none⟩,
  ⟨some 19, (Op.nilCheck (Operand.tmp 15)), none⟩,
  ⟨some 20, (Op.fieldAddr 68 (Operand.tmp 19) 3), none⟩,
  ⟨none, (Op.store 3 (Operand.tmp 20) (Operand.tmp 16)), none⟩])
 (.reg [⟨some 21, (Op.move (Operand.tmp 0)), none⟩,
  ⟨some 22, (Op.move (Operand.tmp 0)), none⟩,
  ⟨some 23, (Op.nilCheck (Operand.tmp 22)), none⟩,
  ⟨some 24, (Op.fieldAddr 85 (Operand.tmp 23) 1), none⟩,
  ⟨some 25, (Op.fieldAddr 33 (Operand.tmp 24) 1), none⟩,
  ⟨some 26, (Op.load 3 (Operand.tmp 25)), none⟩,
  ⟨some 27, (Op.move (Operand.tmp 2)), none⟩,
  ⟨some 28, (Op.call { callee := (Callee.builtin Builtin.max), args := #[(Operand.tmp 26), (Operand.tmp 27)], argTypes := #[3, 3] }), none⟩,
  ⟨some 29, (Op.nilCheck (Operand.tmp 21)), none⟩,
  ⟨some 30, (Op.fieldAddr 85 (Operand.tmp 29) 1), none⟩,
  ⟨some 31, (Op.fieldAddr 33 (Operand.tmp 30) 1), none⟩,
  ⟨none, (Op.store 3 (Operand.tmp 31) (Operand.tmp 28)), none⟩])))
theorem fn77 : FnFact Try.prog 77 32 [] [] cd77 := ⟨by kernel_rfl, ⟨Try.f77, Try.func77, by kernel_rfl, by rfl, Try.ntmps77, congrArg Array.toList Try.results77⟩⟩
/-- slices.IndexFunc[[]examiner/api.Placed,examiner/api.Placed] -/
def cd78 : CC := (.seq (.reg [⟨some 4, (Op.assign (Operand.const (Value.int IntKind.i64 0))), none⟩])
 (.seq (.seq (.reg [⟨some 6, (Op.move (Operand.tmp 0)), none⟩,
  ⟨some 7, (Op.call { callee := (Callee.builtin Builtin.len), args := #[(Operand.tmp 6)], argTypes := #[29] }), none⟩,
  ⟨some 8, (Op.move (Operand.const (Value.int IntKind.i64 0))), none⟩])
 (.block 0 (.loop (.seq (.reg [⟨some 9, (Op.binOp BinOp.lss 3 (Operand.tmp 8) (Operand.tmp 7) 3), none⟩])
 (.seq (.cond (Operand.tmp 9) .skip (.exit 0))
 (.seq (.block 1 (.seq (.reg [⟨some 10, (Op.move (Operand.tmp 8)), none⟩,
  ⟨some 5, (Op.assign (Operand.tmp 10)), none⟩])
 (.seq (.reg [⟨some 11, (Op.move (Operand.tmp 1)), none⟩,
  ⟨some 12, (Op.move (Operand.tmp 0)), none⟩,
  ⟨some 13, (Op.move (Operand.tmp 5)), none⟩,
  ⟨some 14, (Op.indexAddr 29 (Operand.tmp 12) (Operand.tmp 13)), none⟩,
  ⟨some 15, (Op.load 68 (Operand.tmp 14)), none⟩,
  ⟨some 16, (Op.call { callee := (Callee.value (Operand.tmp 11)), args := #[(Operand.tmp 15)], argTypes := #[68] }), none⟩])
 (.cond (Operand.tmp 16) (.seq (.reg [⟨some 17, (Op.move (Operand.tmp 5)), none⟩,
  ⟨some 4, (Op.assign (Operand.tmp 17)), none⟩])
 .ret) .skip))))
 (.reg [⟨some 18, (Op.binOp BinOp.add 3 (Operand.tmp 8) (Operand.const (Value.int IntKind.i64 1)) 3), none⟩,
  ⟨some 8, (Op.move (Operand.tmp 18)), none⟩])))))))
 (.seq (.reg [⟨some 4, (Op.assign (Operand.const (Value.int IntKind.i64 (-1)))), none⟩])
 .ret)))
theorem fn78 : FnFact Try.prog 78 19 [] [(ResultVar.tmp 4)] cd78 := ⟨by kernel_rfl, ⟨Try.f78, Try.func78, by kernel_rfl, by rfl, Try.ntmps78, congrArg Array.toList Try.results78⟩⟩
/-- slices.IndexFunc[[]examiner/api.HostState,examiner/api.HostState] -/
def cd79 : CC := (.seq (.reg [⟨some 4, (Op.assign (Operand.const (Value.int IntKind.i64 0))), none⟩])
 (.seq (.seq (.reg [⟨some 6, (Op.move (Operand.tmp 0)), none⟩,
  ⟨some 7, (Op.call { callee := (Callee.builtin Builtin.len), args := #[(Operand.tmp 6)], argTypes := #[30] }), none⟩,
  ⟨some 8, (Op.move (Operand.const (Value.int IntKind.i64 0))), none⟩])
 (.block 0 (.loop (.seq (.reg [⟨some 9, (Op.binOp BinOp.lss 3 (Operand.tmp 8) (Operand.tmp 7) 3), none⟩])
 (.seq (.cond (Operand.tmp 9) .skip (.exit 0))
 (.seq (.block 1 (.seq (.reg [⟨some 10, (Op.move (Operand.tmp 8)), none⟩,
  ⟨some 5, (Op.assign (Operand.tmp 10)), none⟩])
 (.seq (.reg [⟨some 11, (Op.move (Operand.tmp 1)), none⟩,
  ⟨some 12, (Op.move (Operand.tmp 0)), none⟩,
  ⟨some 13, (Op.move (Operand.tmp 5)), none⟩,
  ⟨some 14, (Op.indexAddr 30 (Operand.tmp 12) (Operand.tmp 13)), none⟩,
  ⟨some 15, (Op.load 80 (Operand.tmp 14)), none⟩,
  ⟨some 16, (Op.call { callee := (Callee.value (Operand.tmp 11)), args := #[(Operand.tmp 15)], argTypes := #[80] }), none⟩])
 (.cond (Operand.tmp 16) (.seq (.reg [⟨some 17, (Op.move (Operand.tmp 5)), none⟩,
  ⟨some 4, (Op.assign (Operand.tmp 17)), none⟩])
 .ret) .skip))))
 (.reg [⟨some 18, (Op.binOp BinOp.add 3 (Operand.tmp 8) (Operand.const (Value.int IntKind.i64 1)) 3), none⟩,
  ⟨some 8, (Op.move (Operand.tmp 18)), none⟩])))))))
 (.seq (.reg [⟨some 4, (Op.assign (Operand.const (Value.int IntKind.i64 (-1)))), none⟩])
 .ret)))
theorem fn79 : FnFact Try.prog 79 19 [] [(ResultVar.tmp 4)] cd79 := ⟨by kernel_rfl, ⟨Try.f79, Try.func79, by kernel_rfl, by rfl, Try.ntmps79, congrArg Array.toList Try.results79⟩⟩
/-- examiner/hosts.isPlaced -/
def cd80 : CC := (.seq (.reg [⟨some 3, (Op.box 24 (Operand.tmp 0)), none⟩,
  ⟨some 6, (Op.assign (Operand.const (Value.bool false))), none⟩])
 (.seq (.reg [⟨some 7, (Op.move (Operand.tmp 1)), none⟩,
  ⟨some 8, (Op.fieldAddr 24 (Operand.tmp 3) 1), none⟩,
  ⟨some 9, (Op.load 22 (Operand.tmp 8)), none⟩,
  ⟨some 10, (Op.call { callee := (Callee.builtin Builtin.len), args := #[(Operand.tmp 9)], argTypes := #[22] }), none⟩,
  ⟨some 11, (Op.binOp BinOp.sub 3 (Operand.tmp 10) (Operand.const (Value.int IntKind.i64 1)) 3), none⟩,
  ⟨some 12, (Op.call { callee := (Callee.value (Operand.func 54)), args := #[(Operand.tmp 7), (Operand.const (Value.int IntKind.i64 0)), (Operand.tmp 11)], argTypes := #[3, 3, 3] }), none⟩,
  ⟨some 13, (Op.move (Operand.tmp 12)), none⟩,
  ⟨some 14, (Op.fieldAddr 24 (Operand.tmp 3) 1), some (13, true)⟩,
  ⟨some 15, (Op.load 22 (Operand.tmp 14)), some (13, true)⟩,
  ⟨some 16, (Op.move (Operand.tmp 1)), some (13, true)⟩,
  ⟨some 17, (Op.indexAddr 22 (Operand.tmp 15) (Operand.tmp 16)), some (13, true)⟩,
  ⟨some 18, (Op.load 3 (Operand.tmp 17)), some (13, true)⟩,
  ⟨some 19, (Op.move (Operand.tmp 2)), some (13, true)⟩,
  ⟨some 20, (Op.binOp BinOp.eql 3 (Operand.tmp 18) (Operand.tmp 19) 3), some (13, true)⟩,
  ⟨some 21, (Op.pick (Operand.tmp 13) (Operand.tmp 20) (Operand.const (Value.bool false))), none⟩,
  ⟨some 6, (Op.assign (Operand.tmp 21)), none⟩])
 .ret))
theorem fn80 : FnFact Try.prog 80 22 [] [(ResultVar.tmp 6)] cd80 := ⟨by kernel_rfl, ⟨Try.f80, Try.func80, by kernel_rfl, by rfl, Try.ntmps80, congrArg Array.toList Try.results80⟩⟩
/-- slices.ContainsFunc[[]examiner/api.HostPart,examiner/api.HostPart] -/
def cd81 : CC := (.seq (.reg [⟨some 4, (Op.assign (Operand.const (Value.bool false))), none⟩])
 (.seq (.reg [⟨some 5, (Op.move (Operand.tmp 0)), none⟩,
  ⟨some 6, (Op.move (Operand.tmp 1)), none⟩,
  ⟨some 7, (Op.call { callee := (Callee.value (Operand.func 83)), args := #[(Operand.tmp 5), (Operand.tmp 6)], argTypes := #[78, 118] }), none⟩,
  ⟨some 8, (Op.binOp BinOp.geq 3 (Operand.tmp 7) (Operand.const (Value.int IntKind.i64 0)) 3), none⟩,
  ⟨some 4, (Op.assign (Operand.tmp 8)), none⟩])
 .ret))
theorem fn81 : FnFact Try.prog 81 9 [] [(ResultVar.tmp 4)] cd81 := ⟨by kernel_rfl, ⟨Try.f81, Try.func81, by kernel_rfl, by rfl, Try.ntmps81, congrArg Array.toList Try.results81⟩⟩
/-- examiner/hosts.partErr$1 -/
def cd82 : CC := (.seq (.reg [⟨some 2, (Op.box 90 (Operand.tmp 0)), none⟩,
  ⟨some 3, (Op.assign (Operand.const (Value.bool false))), none⟩])
 (.seq (.reg [⟨some 4, (Op.fieldAddr 90 (Operand.tmp 2) 0), none⟩,
  ⟨some 5, (Op.load 3 (Operand.tmp 4)), none⟩,
  ⟨some 6, (Op.fieldAddr 90 (Operand.tmp 1) 0), none⟩,
  ⟨some 7, (Op.load 3 (Operand.tmp 6)), none⟩,
  ⟨some 8, (Op.binOp BinOp.eql 3 (Operand.tmp 5) (Operand.tmp 7) 3), none⟩,
  ⟨some 3, (Op.assign (Operand.tmp 8)), none⟩])
 .ret))
theorem fn82 : FnFact Try.prog 82 9 [] [(ResultVar.tmp 3)] cd82 := ⟨by kernel_rfl, ⟨Try.f82, Try.func82, by kernel_rfl, by rfl, Try.ntmps82, congrArg Array.toList Try.results82⟩⟩
/-- slices.IndexFunc[[]examiner/api.HostPart,examiner/api.HostPart] -/
def cd83 : CC := (.seq (.reg [⟨some 4, (Op.assign (Operand.const (Value.int IntKind.i64 0))), none⟩])
 (.seq (.seq (.reg [⟨some 6, (Op.move (Operand.tmp 0)), none⟩,
  ⟨some 7, (Op.call { callee := (Callee.builtin Builtin.len), args := #[(Operand.tmp 6)], argTypes := #[78] }), none⟩,
  ⟨some 8, (Op.move (Operand.const (Value.int IntKind.i64 0))), none⟩])
 (.block 0 (.loop (.seq (.reg [⟨some 9, (Op.binOp BinOp.lss 3 (Operand.tmp 8) (Operand.tmp 7) 3), none⟩])
 (.seq (.cond (Operand.tmp 9) .skip (.exit 0))
 (.seq (.block 1 (.seq (.reg [⟨some 10, (Op.move (Operand.tmp 8)), none⟩,
  ⟨some 5, (Op.assign (Operand.tmp 10)), none⟩])
 (.seq (.reg [⟨some 11, (Op.move (Operand.tmp 1)), none⟩,
  ⟨some 12, (Op.move (Operand.tmp 0)), none⟩,
  ⟨some 13, (Op.move (Operand.tmp 5)), none⟩,
  ⟨some 14, (Op.indexAddr 78 (Operand.tmp 12) (Operand.tmp 13)), none⟩,
  ⟨some 15, (Op.load 90 (Operand.tmp 14)), none⟩,
  ⟨some 16, (Op.call { callee := (Callee.value (Operand.tmp 11)), args := #[(Operand.tmp 15)], argTypes := #[90] }), none⟩])
 (.cond (Operand.tmp 16) (.seq (.reg [⟨some 17, (Op.move (Operand.tmp 5)), none⟩,
  ⟨some 4, (Op.assign (Operand.tmp 17)), none⟩])
 .ret) .skip))))
 (.reg [⟨some 18, (Op.binOp BinOp.add 3 (Operand.tmp 8) (Operand.const (Value.int IntKind.i64 1)) 3), none⟩,
  ⟨some 8, (Op.move (Operand.tmp 18)), none⟩])))))))
 (.seq (.reg [⟨some 4, (Op.assign (Operand.const (Value.int IntKind.i64 (-1)))), none⟩])
 .ret)))
theorem fn83 : FnFact Try.prog 83 19 [] [(ResultVar.tmp 4)] cd83 := ⟨by kernel_rfl, ⟨Try.f83, Try.func83, by kernel_rfl, by rfl, Try.ntmps83, congrArg Array.toList Try.results83⟩⟩
/-- examiner/hosts.partAt$1 -/
def cd84 : CC := (.seq (.reg [⟨some 2, (Op.box 90 (Operand.tmp 0)), none⟩,
  ⟨some 3, (Op.assign (Operand.const (Value.bool false))), none⟩])
 (.seq (.reg [⟨some 4, (Op.fieldAddr 90 (Operand.tmp 2) 0), none⟩,
  ⟨some 5, (Op.load 3 (Operand.tmp 4)), none⟩,
  ⟨some 6, (Op.load 3 (Operand.tmp 1)), none⟩,
  ⟨some 7, (Op.binOp BinOp.eql 3 (Operand.tmp 5) (Operand.tmp 6) 3), none⟩,
  ⟨some 3, (Op.assign (Operand.tmp 7)), none⟩])
 .ret))
theorem fn84 : FnFact Try.prog 84 8 [] [(ResultVar.tmp 3)] cd84 := ⟨by kernel_rfl, ⟨Try.f84, Try.func84, by kernel_rfl, by rfl, Try.ntmps84, congrArg Array.toList Try.results84⟩⟩
end Cd
end Go.Proofs.Ytgmncggiblaciaa
