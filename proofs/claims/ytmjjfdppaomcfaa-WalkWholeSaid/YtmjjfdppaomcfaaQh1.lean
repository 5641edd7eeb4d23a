/- Part 1 of a proof: walkWhole holds for every input; no condition. -/
import Derived.Test.YtmjjfdppaomcfaaProg
import Derived.KernelRfl
import Derived.ProofKit
import Derived.Test.YtmjjfdppaomcfaaAb0
import Derived.Test.YtmjjfdppaomcfaaAb1
import Derived.Test.YtmjjfdppaomcfaaAb2
import Derived.Test.YtmjjfdppaomcfaaAb3
import Derived.Test.YtmjjfdppaomcfaaAb4
import Derived.Test.YtmjjfdppaomcfaaAb5
import Derived.Test.YtmjjfdppaomcfaaAb6
import Derived.Test.YtmjjfdppaomcfaaAb7
import Derived.Test.YtmjjfdppaomcfaaAb8
import Derived.Test.YtmjjfdppaomcfaaAb8a
import Derived.Test.YtmjjfdppaomcfaaAb8b
import Derived.Test.YtmjjfdppaomcfaaAb8c
import Derived.Test.YtmjjfdppaomcfaaAb8d
import Derived.Test.YtmjjfdppaomcfaaAb9
import Derived.Test.YtmjjfdppaomcfaaAb10
import Derived.Test.YtmjjfdppaomcfaaAb11
import Derived.Test.YtmjjfdppaomcfaaAb12
import Derived.Test.YtmjjfdppaomcfaaAb13
import Derived.Test.YtmjjfdppaomcfaaAb14
import Derived.Test.YtmjjfdppaomcfaaAb15
import Derived.Test.YtmjjfdppaomcfaaAb16
import Derived.Test.YtmjjfdppaomcfaaAb17
import Derived.Test.YtmjjfdppaomcfaaAb18
import Derived.Test.YtmjjfdppaomcfaaAb19
import Derived.Test.YtmjjfdppaomcfaaAb20
import Derived.Test.YtmjjfdppaomcfaaAb21
import Derived.Test.YtmjjfdppaomcfaaAb22
import Derived.Test.YtmjjfdppaomcfaaAb23
import Derived.Test.YtmjjfdppaomcfaaAb24
import Derived.Test.YtmjjfdppaomcfaaAb25
import Derived.Test.YtmjjfdppaomcfaaAb26
import Derived.Test.YtmjjfdppaomcfaaBw
set_option linter.unusedSimpArgs false
set_option linter.unusedVariables false
set_option linter.defProp false
/- Closed facts on the types of the translation, by program. -/
namespace Go.Proofs.Ytmjjfdppaomcfaa
open Go Go.Proofs.Ytmjjfdppaomcfaa.Ab
namespace Ty
theorem sz1 : szOf Try.prog 1 = some 1 := by kernel_rfl
theorem ag1 : isAggT Try.prog 1 = some false := by kernel_rfl
theorem un1 : (Try.prog.underlying 1).isSome = true := by kernel_rfl
theorem unn1 : (Try.prog.underlying 1).isNone = false := by kernel_rfl
theorem zr1 : zeroA Try.prog 1 = some [.v (.nilFunc)] := by kernel_rfl
theorem by1 : byOf Try.prog 1 = some 8 := by kernel_rfl
theorem if1 : isIfc Try.prog 1 = false := by kernel_rfl
theorem sz2 : szOf Try.prog 2 = some 1 := by kernel_rfl
theorem ag2 : isAggT Try.prog 2 = some false := by kernel_rfl
theorem un2 : (Try.prog.underlying 2).isSome = true := by kernel_rfl
theorem unn2 : (Try.prog.underlying 2).isNone = false := by kernel_rfl
theorem zr2 : zeroA Try.prog 2 = some [.v (.int .i64 0)] := by kernel_rfl
theorem by2 : byOf Try.prog 2 = some 8 := by kernel_rfl
theorem in2 : intT Try.prog 2 = some .i64 := by kernel_rfl
theorem if2 : isIfc Try.prog 2 = false := by kernel_rfl
theorem sz3 : szOf Try.prog 3 = some 1 := by kernel_rfl
theorem ag3 : isAggT Try.prog 3 = some false := by kernel_rfl
theorem un3 : (Try.prog.underlying 3).isSome = true := by kernel_rfl
theorem unn3 : (Try.prog.underlying 3).isNone = false := by kernel_rfl
theorem zr3 : zeroA Try.prog 3 = some [.v (.int .i64 0)] := by kernel_rfl
theorem by3 : byOf Try.prog 3 = some 8 := by kernel_rfl
theorem in3 : intT Try.prog 3 = some .i64 := by kernel_rfl
theorem if3 : isIfc Try.prog 3 = false := by kernel_rfl
theorem sz4 : szOf Try.prog 4 = some 1 := by kernel_rfl
theorem ag4 : isAggT Try.prog 4 = some false := by kernel_rfl
theorem un4 : (Try.prog.underlying 4).isSome = true := by kernel_rfl
theorem unn4 : (Try.prog.underlying 4).isNone = false := by kernel_rfl
theorem zr4 : zeroA Try.prog 4 = some [.v (.bool false)] := by kernel_rfl
theorem by4 : byOf Try.prog 4 = some 1 := by kernel_rfl
theorem bo4 : isBoolT Try.prog 4 = true := by kernel_rfl
theorem if4 : isIfc Try.prog 4 = false := by kernel_rfl
theorem sz5 : szOf Try.prog 5 = some 1 := by kernel_rfl
theorem ag5 : isAggT Try.prog 5 = some false := by kernel_rfl
theorem un5 : (Try.prog.underlying 5).isSome = true := by kernel_rfl
theorem unn5 : (Try.prog.underlying 5).isNone = false := by kernel_rfl
theorem zr5 : zeroA Try.prog 5 = some [.v (.int .u8 0)] := by kernel_rfl
theorem by5 : byOf Try.prog 5 = some 1 := by kernel_rfl
theorem in5 : intT Try.prog 5 = some .u8 := by kernel_rfl
theorem if5 : isIfc Try.prog 5 = false := by kernel_rfl
theorem sz6 : szOf Try.prog 6 = some 1 := by kernel_rfl
theorem ag6 : isAggT Try.prog 6 = some false := by kernel_rfl
theorem un6 : (Try.prog.underlying 6).isSome = true := by kernel_rfl
theorem unn6 : (Try.prog.underlying 6).isNone = false := by kernel_rfl
theorem zr6 : zeroA Try.prog 6 = some [.v (.int .u8 0)] := by kernel_rfl
theorem by6 : byOf Try.prog 6 = some 1 := by kernel_rfl
theorem in6 : intT Try.prog 6 = some .u8 := by kernel_rfl
theorem if6 : isIfc Try.prog 6 = false := by kernel_rfl
theorem sz7 : szOf Try.prog 7 = some 4 := by kernel_rfl
theorem ag7 : isAggT Try.prog 7 = some true := by kernel_rfl
theorem un7 : (Try.prog.underlying 7).isSome = true := by kernel_rfl
theorem unn7 : (Try.prog.underlying 7).isNone = false := by kernel_rfl
theorem zr7 : zeroA Try.prog 7 = some [.v (.int .i64 0), .v (.int .i64 0), .v (.bool false), .v (.int .u8 0)] := by kernel_rfl
theorem by7 : byOf Try.prog 7 = some 24 := by kernel_rfl
theorem if7 : isIfc Try.prog 7 = false := by kernel_rfl
theorem pl7 : placesOf Try.prog 7 = some [(0, 1), (1, 1), (2, 1), (3, 1)] := by kernel_rfl
theorem fo7_0 : fldOff Try.prog 7 0 = some 0 := by kernel_rfl
theorem ft7_0 : fldTy Try.prog 7 0 = some 2 := by kernel_rfl
theorem fo7_1 : fldOff Try.prog 7 1 = some 1 := by kernel_rfl
theorem ft7_1 : fldTy Try.prog 7 1 = some 3 := by kernel_rfl
theorem fo7_2 : fldOff Try.prog 7 2 = some 2 := by kernel_rfl
theorem ft7_2 : fldTy Try.prog 7 2 = some 4 := by kernel_rfl
theorem fo7_3 : fldOff Try.prog 7 3 = some 3 := by kernel_rfl
theorem ft7_3 : fldTy Try.prog 7 3 = some 6 := by kernel_rfl
theorem sz8 : szOf Try.prog 8 = some 4 := by kernel_rfl
theorem ag8 : isAggT Try.prog 8 = some true := by kernel_rfl
theorem un8 : (Try.prog.underlying 8).isSome = true := by kernel_rfl
theorem unn8 : (Try.prog.underlying 8).isNone = false := by kernel_rfl
theorem zr8 : zeroA Try.prog 8 = some [.v (.int .i64 0), .v (.int .i64 0), .v (.bool false), .v (.int .u8 0)] := by kernel_rfl
theorem by8 : byOf Try.prog 8 = some 24 := by kernel_rfl
theorem if8 : isIfc Try.prog 8 = false := by kernel_rfl
theorem pl8 : placesOf Try.prog 8 = some [(0, 1), (1, 1), (2, 1), (3, 1)] := by kernel_rfl
theorem fo8_0 : fldOff Try.prog 8 0 = some 0 := by kernel_rfl
theorem ft8_0 : fldTy Try.prog 8 0 = some 2 := by kernel_rfl
theorem fo8_1 : fldOff Try.prog 8 1 = some 1 := by kernel_rfl
theorem ft8_1 : fldTy Try.prog 8 1 = some 3 := by kernel_rfl
theorem fo8_2 : fldOff Try.prog 8 2 = some 2 := by kernel_rfl
theorem ft8_2 : fldTy Try.prog 8 2 = some 4 := by kernel_rfl
theorem fo8_3 : fldOff Try.prog 8 3 = some 3 := by kernel_rfl
theorem ft8_3 : fldTy Try.prog 8 3 = some 6 := by kernel_rfl
theorem sz9 : szOf Try.prog 9 = some 1 := by kernel_rfl
theorem ag9 : isAggT Try.prog 9 = some false := by kernel_rfl
theorem un9 : (Try.prog.underlying 9).isSome = true := by kernel_rfl
theorem unn9 : (Try.prog.underlying 9).isNone = false := by kernel_rfl
theorem zr9 : zeroA Try.prog 9 = some [.v (.string ByteArray.empty)] := by kernel_rfl
theorem by9 : byOf Try.prog 9 = some 16 := by kernel_rfl
theorem ni9 : notInt Try.prog 9 = true := by kernel_rfl
theorem st9 : isStrT Try.prog 9 = true := by kernel_rfl
theorem if9 : isIfc Try.prog 9 = false := by kernel_rfl
theorem ins9 : intT Try.prog 9 = none := by kernel_rfl
theorem sz20 : szOf Try.prog 20 = some 1 := by kernel_rfl
theorem ag20 : isAggT Try.prog 20 = some false := by kernel_rfl
theorem un20 : (Try.prog.underlying 20).isSome = true := by kernel_rfl
theorem unn20 : (Try.prog.underlying 20).isNone = false := by kernel_rfl
theorem zr20 : zeroA Try.prog 20 = some [.v (.nilIface)] := by kernel_rfl
theorem by20 : byOf Try.prog 20 = some 16 := by kernel_rfl
theorem if20 : isIfc Try.prog 20 = true := by kernel_rfl
theorem sz24 : szOf Try.prog 24 = some 1 := by kernel_rfl
theorem ag24 : isAggT Try.prog 24 = some false := by kernel_rfl
theorem un24 : (Try.prog.underlying 24).isSome = true := by kernel_rfl
theorem unn24 : (Try.prog.underlying 24).isNone = false := by kernel_rfl
theorem zr24 : zeroA Try.prog 24 = some [.v (.slice none 0 0)] := by kernel_rfl
theorem el24 : elOf Try.prog 24 = some 55 := by kernel_rfl
theorem by24 : byOf Try.prog 24 = some 24 := by kernel_rfl
theorem ni24 : notInt Try.prog 24 = true := by kernel_rfl
theorem if24 : isIfc Try.prog 24 = false := by kernel_rfl
theorem sz25 : szOf Try.prog 25 = some 1 := by kernel_rfl
theorem ag25 : isAggT Try.prog 25 = some false := by kernel_rfl
theorem un25 : (Try.prog.underlying 25).isSome = true := by kernel_rfl
theorem unn25 : (Try.prog.underlying 25).isNone = false := by kernel_rfl
theorem zr25 : zeroA Try.prog 25 = some [.v (.int .i64 0)] := by kernel_rfl
theorem by25 : byOf Try.prog 25 = some 8 := by kernel_rfl
theorem in25 : intT Try.prog 25 = some .i64 := by kernel_rfl
theorem if25 : isIfc Try.prog 25 = false := by kernel_rfl
theorem sz33 : szOf Try.prog 33 = some 1 := by kernel_rfl
theorem ag33 : isAggT Try.prog 33 = some false := by kernel_rfl
theorem un33 : (Try.prog.underlying 33).isSome = true := by kernel_rfl
theorem unn33 : (Try.prog.underlying 33).isNone = false := by kernel_rfl
theorem zr33 : zeroA Try.prog 33 = some [.v (.slice none 0 0)] := by kernel_rfl
theorem el33 : elOf Try.prog 33 = some 3 := by kernel_rfl
theorem by33 : byOf Try.prog 33 = some 24 := by kernel_rfl
theorem ni33 : notInt Try.prog 33 = true := by kernel_rfl
theorem if33 : isIfc Try.prog 33 = false := by kernel_rfl
theorem sz41 : szOf Try.prog 41 = some 2 := by kernel_rfl
theorem ag41 : isAggT Try.prog 41 = some true := by kernel_rfl
theorem un41 : (Try.prog.underlying 41).isSome = true := by kernel_rfl
theorem unn41 : (Try.prog.underlying 41).isNone = false := by kernel_rfl
theorem zr41 : zeroA Try.prog 41 = some [.v (.int .i64 0), .v (.int .i64 0)] := by kernel_rfl
theorem by41 : byOf Try.prog 41 = some 16 := by kernel_rfl
theorem if41 : isIfc Try.prog 41 = false := by kernel_rfl
theorem ef41 : eqFs Try.prog 41 = some [(3, 0), (3, 1)] := by kernel_rfl
theorem pl41 : placesOf Try.prog 41 = some [(0, 1), (1, 1)] := by kernel_rfl
theorem fo41_0 : fldOff Try.prog 41 0 = some 0 := by kernel_rfl
theorem ft41_0 : fldTy Try.prog 41 0 = some 3 := by kernel_rfl
theorem fo41_1 : fldOff Try.prog 41 1 = some 1 := by kernel_rfl
theorem ft41_1 : fldTy Try.prog 41 1 = some 3 := by kernel_rfl
theorem sz55 : szOf Try.prog 55 = some 9 := by kernel_rfl
theorem ag55 : isAggT Try.prog 55 = some true := by kernel_rfl
theorem un55 : (Try.prog.underlying 55).isSome = true := by kernel_rfl
theorem unn55 : (Try.prog.underlying 55).isNone = false := by kernel_rfl
theorem zr55 : zeroA Try.prog 55 = some [.v (.int .i64 0), .v (.int .i64 0), .v (.bool false), .v (.bool false), .v (.int .i64 0), .v (.int .i64 0), .v (.int .i64 0), .v (.int .i64 0), .v (.int .i64 0)] := by kernel_rfl
theorem by55 : byOf Try.prog 55 = some 64 := by kernel_rfl
theorem if55 : isIfc Try.prog 55 = false := by kernel_rfl
theorem ef55 : eqFs Try.prog 55 = some [(41, 0), (4, 2), (4, 3), (3, 4), (3, 5), (3, 6), (3, 7), (3, 8)] := by kernel_rfl
theorem pl55 : placesOf Try.prog 55 = some [(0, 2), (2, 1), (3, 1), (4, 1), (5, 1), (6, 1), (7, 1), (8, 1)] := by kernel_rfl
theorem fo55_0 : fldOff Try.prog 55 0 = some 0 := by kernel_rfl
theorem ft55_0 : fldTy Try.prog 55 0 = some 41 := by kernel_rfl
theorem fo55_1 : fldOff Try.prog 55 1 = some 2 := by kernel_rfl
theorem ft55_1 : fldTy Try.prog 55 1 = some 4 := by kernel_rfl
theorem fo55_2 : fldOff Try.prog 55 2 = some 3 := by kernel_rfl
theorem ft55_2 : fldTy Try.prog 55 2 = some 4 := by kernel_rfl
theorem fo55_3 : fldOff Try.prog 55 3 = some 4 := by kernel_rfl
theorem ft55_3 : fldTy Try.prog 55 3 = some 3 := by kernel_rfl
theorem fo55_4 : fldOff Try.prog 55 4 = some 5 := by kernel_rfl
theorem ft55_4 : fldTy Try.prog 55 4 = some 3 := by kernel_rfl
theorem fo55_5 : fldOff Try.prog 55 5 = some 6 := by kernel_rfl
theorem ft55_5 : fldTy Try.prog 55 5 = some 3 := by kernel_rfl
theorem fo55_6 : fldOff Try.prog 55 6 = some 7 := by kernel_rfl
theorem ft55_6 : fldTy Try.prog 55 6 = some 3 := by kernel_rfl
theorem fo55_7 : fldOff Try.prog 55 7 = some 8 := by kernel_rfl
theorem ft55_7 : fldTy Try.prog 55 7 = some 3 := by kernel_rfl
theorem sz70 : szOf Try.prog 70 = some 1 := by kernel_rfl
theorem ag70 : isAggT Try.prog 70 = some false := by kernel_rfl
theorem un70 : (Try.prog.underlying 70).isSome = true := by kernel_rfl
theorem unn70 : (Try.prog.underlying 70).isNone = false := by kernel_rfl
theorem zr70 : zeroA Try.prog 70 = some [.v (.slice none 0 0)] := by kernel_rfl
theorem el70 : elOf Try.prog 70 = some 74 := by kernel_rfl
theorem by70 : byOf Try.prog 70 = some 24 := by kernel_rfl
theorem ni70 : notInt Try.prog 70 = true := by kernel_rfl
theorem if70 : isIfc Try.prog 70 = false := by kernel_rfl
theorem sz74 : szOf Try.prog 74 = some 1 := by kernel_rfl
theorem ag74 : isAggT Try.prog 74 = some false := by kernel_rfl
theorem un74 : (Try.prog.underlying 74).isSome = true := by kernel_rfl
theorem unn74 : (Try.prog.underlying 74).isNone = false := by kernel_rfl
theorem zr74 : zeroA Try.prog 74 = some [.v (.pointer none)] := by kernel_rfl
theorem by74 : byOf Try.prog 74 = some 8 := by kernel_rfl
theorem po74 : isPtrT Try.prog 74 = true := by kernel_rfl
theorem if74 : isIfc Try.prog 74 = false := by kernel_rfl
theorem sz76 : szOf Try.prog 76 = some 1 := by kernel_rfl
theorem ag76 : isAggT Try.prog 76 = some false := by kernel_rfl
theorem un76 : (Try.prog.underlying 76).isSome = true := by kernel_rfl
theorem unn76 : (Try.prog.underlying 76).isNone = false := by kernel_rfl
theorem zr76 : zeroA Try.prog 76 = some [.v (.nilFunc)] := by kernel_rfl
theorem by76 : byOf Try.prog 76 = some 8 := by kernel_rfl
theorem if76 : isIfc Try.prog 76 = false := by kernel_rfl
theorem sz83 : szOf Try.prog 83 = some 1 := by kernel_rfl
theorem ag83 : isAggT Try.prog 83 = some false := by kernel_rfl
theorem un83 : (Try.prog.underlying 83).isSome = true := by kernel_rfl
theorem unn83 : (Try.prog.underlying 83).isNone = false := by kernel_rfl
theorem zr83 : zeroA Try.prog 83 = some [.v (.int .u64 0)] := by kernel_rfl
theorem by83 : byOf Try.prog 83 = some 8 := by kernel_rfl
theorem in83 : intT Try.prog 83 = some .u64 := by kernel_rfl
theorem if83 : isIfc Try.prog 83 = false := by kernel_rfl
theorem sz84 : szOf Try.prog 84 = some 1 := by kernel_rfl
theorem ag84 : isAggT Try.prog 84 = some false := by kernel_rfl
theorem un84 : (Try.prog.underlying 84).isSome = true := by kernel_rfl
theorem unn84 : (Try.prog.underlying 84).isNone = false := by kernel_rfl
theorem zr84 : zeroA Try.prog 84 = some [.v (.slice none 0 0)] := by kernel_rfl
theorem el84 : elOf Try.prog 84 = some 5 := by kernel_rfl
theorem by84 : byOf Try.prog 84 = some 24 := by kernel_rfl
theorem ni84 : notInt Try.prog 84 = true := by kernel_rfl
theorem if84 : isIfc Try.prog 84 = false := by kernel_rfl
theorem sz92 : szOf Try.prog 92 = some 11 := by kernel_rfl
theorem ag92 : isAggT Try.prog 92 = some true := by kernel_rfl
theorem un92 : (Try.prog.underlying 92).isSome = true := by kernel_rfl
theorem unn92 : (Try.prog.underlying 92).isNone = false := by kernel_rfl
theorem zr92 : zeroA Try.prog 92 = some [.v (.int .i64 0), .v (.int .i64 0), .v (.bool false), .v (.bool false), .v (.int .i64 0), .v (.int .i64 0), .v (.int .i64 0), .v (.int .i64 0), .v (.int .i64 0), .v (.int .i64 0), .v (.slice none 0 0)] := by kernel_rfl
theorem by92 : byOf Try.prog 92 = some 96 := by kernel_rfl
theorem if92 : isIfc Try.prog 92 = false := by kernel_rfl
theorem pl92 : placesOf Try.prog 92 = some [(0, 2), (2, 1), (3, 1), (4, 1), (5, 1), (6, 1), (7, 1), (8, 1), (9, 1), (10, 1)] := by kernel_rfl
theorem fo92_0 : fldOff Try.prog 92 0 = some 0 := by kernel_rfl
theorem ft92_0 : fldTy Try.prog 92 0 = some 41 := by kernel_rfl
theorem fo92_1 : fldOff Try.prog 92 1 = some 2 := by kernel_rfl
theorem ft92_1 : fldTy Try.prog 92 1 = some 4 := by kernel_rfl
theorem fo92_2 : fldOff Try.prog 92 2 = some 3 := by kernel_rfl
theorem ft92_2 : fldTy Try.prog 92 2 = some 4 := by kernel_rfl
theorem fo92_3 : fldOff Try.prog 92 3 = some 4 := by kernel_rfl
theorem ft92_3 : fldTy Try.prog 92 3 = some 3 := by kernel_rfl
theorem fo92_4 : fldOff Try.prog 92 4 = some 5 := by kernel_rfl
theorem ft92_4 : fldTy Try.prog 92 4 = some 3 := by kernel_rfl
theorem fo92_5 : fldOff Try.prog 92 5 = some 6 := by kernel_rfl
theorem ft92_5 : fldTy Try.prog 92 5 = some 3 := by kernel_rfl
theorem fo92_6 : fldOff Try.prog 92 6 = some 7 := by kernel_rfl
theorem ft92_6 : fldTy Try.prog 92 6 = some 3 := by kernel_rfl
theorem fo92_7 : fldOff Try.prog 92 7 = some 8 := by kernel_rfl
theorem ft92_7 : fldTy Try.prog 92 7 = some 3 := by kernel_rfl
theorem fo92_8 : fldOff Try.prog 92 8 = some 9 := by kernel_rfl
theorem ft92_8 : fldTy Try.prog 92 8 = some 3 := by kernel_rfl
theorem fo92_9 : fldOff Try.prog 92 9 = some 10 := by kernel_rfl
theorem ft92_9 : fldTy Try.prog 92 9 = some 70 := by kernel_rfl
theorem sz93 : szOf Try.prog 93 = some 1 := by kernel_rfl
theorem ag93 : isAggT Try.prog 93 = some false := by kernel_rfl
theorem un93 : (Try.prog.underlying 93).isSome = true := by kernel_rfl
theorem unn93 : (Try.prog.underlying 93).isNone = false := by kernel_rfl
theorem zr93 : zeroA Try.prog 93 = some [.v (.nilFunc)] := by kernel_rfl
theorem by93 : byOf Try.prog 93 = some 8 := by kernel_rfl
theorem if93 : isIfc Try.prog 93 = false := by kernel_rfl
theorem sz96 : szOf Try.prog 96 = some 2 := by kernel_rfl
theorem ag96 : isAggT Try.prog 96 = some true := by kernel_rfl
theorem un96 : (Try.prog.underlying 96).isSome = true := by kernel_rfl
theorem unn96 : (Try.prog.underlying 96).isNone = false := by kernel_rfl
theorem zr96 : zeroA Try.prog 96 = some [.v (.int .i64 0), .v (.int .i64 0)] := by kernel_rfl
theorem by96 : byOf Try.prog 96 = some 16 := by kernel_rfl
theorem if96 : isIfc Try.prog 96 = false := by kernel_rfl
theorem ef96 : eqFs Try.prog 96 = some [(3, 0), (25, 1)] := by kernel_rfl
theorem pl96 : placesOf Try.prog 96 = some [(0, 1), (1, 1)] := by kernel_rfl
theorem fo96_0 : fldOff Try.prog 96 0 = some 0 := by kernel_rfl
theorem ft96_0 : fldTy Try.prog 96 0 = some 3 := by kernel_rfl
theorem fo96_1 : fldOff Try.prog 96 1 = some 1 := by kernel_rfl
theorem ft96_1 : fldTy Try.prog 96 1 = some 25 := by kernel_rfl
theorem sz98 : szOf Try.prog 98 = some 1 := by kernel_rfl
theorem ag98 : isAggT Try.prog 98 = some false := by kernel_rfl
theorem un98 : (Try.prog.underlying 98).isSome = true := by kernel_rfl
theorem unn98 : (Try.prog.underlying 98).isNone = false := by kernel_rfl
theorem zr98 : zeroA Try.prog 98 = some [.v (.pointer none)] := by kernel_rfl
theorem by98 : byOf Try.prog 98 = some 8 := by kernel_rfl
theorem po98 : isPtrT Try.prog 98 = true := by kernel_rfl
theorem if98 : isIfc Try.prog 98 = false := by kernel_rfl
theorem sz100 : szOf Try.prog 100 = some 2 := by kernel_rfl
theorem ag100 : isAggT Try.prog 100 = some true := by kernel_rfl
theorem un100 : (Try.prog.underlying 100).isSome = true := by kernel_rfl
theorem unn100 : (Try.prog.underlying 100).isNone = false := by kernel_rfl
theorem zr100 : zeroA Try.prog 100 = some [.v (.string ByteArray.empty), .v (.int .i64 0)] := by kernel_rfl
theorem by100 : byOf Try.prog 100 = some 24 := by kernel_rfl
theorem if100 : isIfc Try.prog 100 = false := by kernel_rfl
theorem ef100 : eqFs Try.prog 100 = some [(9, 0), (3, 1)] := by kernel_rfl
theorem pl100 : placesOf Try.prog 100 = some [(0, 1), (1, 1)] := by kernel_rfl
theorem fo100_0 : fldOff Try.prog 100 0 = some 0 := by kernel_rfl
theorem ft100_0 : fldTy Try.prog 100 0 = some 9 := by kernel_rfl
theorem fo100_1 : fldOff Try.prog 100 1 = some 1 := by kernel_rfl
theorem ft100_1 : fldTy Try.prog 100 1 = some 3 := by kernel_rfl
end Ty
end Go.Proofs.Ytmjjfdppaomcfaa

/- The code of functions without what an evaluation has no need of, by program. -/
namespace Go.Proofs.Ytmjjfdppaomcfaa
open Go Go.Proofs.Ytmjjfdppaomcfaa.Ab
namespace Cd
/-- (*examiner/examinerref10.Walk).node -/
def cd42 : CC := (.seq (.reg [⟨some 8, (Op.assign (Operand.const (Value.int IntKind.i64 0))), none⟩])
 (.seq (.reg [⟨some 18, (Op.move (Operand.tmp 0)), none⟩,
  ⟨some 19, (Op.move (Operand.tmp 1)), none⟩,
  ⟨some 20, (Op.move (Operand.tmp 2)), none⟩,
  ⟨some 21, (Op.call { callee := (Callee.value (Operand.func 57)), args := #[(Operand.tmp 18), (Operand.tmp 19), (Operand.tmp 20)], argTypes := #[28, 3, 3] }), none⟩,
  ⟨some 17, (Op.move (Operand.tmp 21)), none⟩,
  ⟨some 22, (Op.extract (Operand.tmp 17) 0), none⟩,
  ⟨some 23, (Op.extract (Operand.tmp 17) 1), none⟩,
  ⟨some 24, (Op.extract (Operand.tmp 17) 2), none⟩,
  ⟨some 9, (Op.alloc 41), none⟩,
  ⟨none, (Op.store 41 (Operand.tmp 9) (Operand.tmp 22)), none⟩,
  ⟨some 10, (Op.assign (Operand.tmp 23)), none⟩,
  ⟨some 11, (Op.assign (Operand.tmp 24)), none⟩])
 (.seq (.seq (.reg [⟨some 25, (Op.move (Operand.tmp 0)), none⟩,
  ⟨some 26, (Op.nilCheck (Operand.tmp 25)), none⟩,
  ⟨some 27, (Op.fieldAddr 31 (Operand.tmp 26) 3), none⟩,
  ⟨some 28, (Op.load 3 (Operand.tmp 27)), none⟩,
  ⟨some 29, (Op.binOp BinOp.neq 3 (Operand.tmp 28) (Operand.const (Value.int IntKind.i64 0)) 3), none⟩])
 (.cond (Operand.tmp 29) (.seq (.reg [⟨some 30, (Op.move (Operand.tmp 1)), none⟩,
  ⟨some 8, (Op.assign (Operand.tmp 30)), none⟩])
 .ret) .skip))
 (.seq (.reg [⟨some 31, (Op.move (Operand.tmp 11)), none⟩,
  ⟨some 12, (Op.assign (Operand.tmp 31)), none⟩])
 (.seq (.reg [⟨some 33, (Op.move (Operand.tmp 0)), none⟩,
  ⟨some 34, (Op.move (Operand.tmp 11)), none⟩,
  ⟨some 35, (Op.move (Operand.tmp 2)), none⟩,
  ⟨some 36, (Op.move (Operand.tmp 10)), none⟩,
  ⟨some 37, (Op.call { callee := (Callee.value (Operand.func 58)), args := #[(Operand.tmp 33), (Operand.tmp 34), (Operand.tmp 35), (Operand.tmp 36)], argTypes := #[28, 3, 3, 4] }), none⟩,
  ⟨some 32, (Op.move (Operand.tmp 37)), none⟩,
  ⟨some 38, (Op.extract (Operand.tmp 32) 0), none⟩,
  ⟨some 39, (Op.extract (Operand.tmp 32) 1), none⟩,
  ⟨some 13, (Op.assign (Operand.tmp 38)), none⟩,
  ⟨some 11, (Op.assign (Operand.tmp 39)), none⟩])
 (.seq (.seq (.reg [⟨some 40, (Op.move (Operand.tmp 0)), none⟩,
  ⟨some 41, (Op.nilCheck (Operand.tmp 40)), none⟩,
  ⟨some 42, (Op.fieldAddr 31 (Operand.tmp 41) 3), none⟩,
  ⟨some 43, (Op.load 3 (Operand.tmp 42)), none⟩,
  ⟨some 44, (Op.binOp BinOp.eql 3 (Operand.tmp 43) (Operand.const (Value.int IntKind.i64 0)) 3), none⟩,
  ⟨some 45, (Op.move (Operand.tmp 44)), none⟩,
  ⟨some 46, (Op.move (Operand.tmp 13)), some (45, true)⟩,
  ⟨some 47, (Op.move (Operand.tmp 2)), some (45, true)⟩,
  ⟨some 48, (Op.move (Operand.tmp 11)), some (45, true)⟩,
  ⟨some 49, (Op.binOp BinOp.sub 3 (Operand.tmp 47) (Operand.tmp 48) 3), some (45, true)⟩,
  ⟨some 50, (Op.binOp BinOp.gtr 3 (Operand.tmp 46) (Operand.tmp 49) 3), some (45, true)⟩,
  ⟨some 51, (Op.pick (Operand.tmp 45) (Operand.tmp 50) (Operand.const (Value.bool false))), none⟩])
 (.cond (Operand.tmp 51) (.reg [⟨some 52, (Op.move (Operand.tmp 0)), none⟩,
  ⟨some 53, (Op.move (Operand.tmp 12)), none⟩,
  ⟨some 54, (Op.call { callee := (Callee.value (Operand.func 41)), args := #[(Operand.tmp 52), (Operand.tmp 53), (Operand.const (Value.int IntKind.i64 19))], argTypes := #[28, 3, 3] }), none⟩]) .skip))
 (.seq (.seq (.reg [⟨some 55, (Op.move (Operand.tmp 0)), none⟩,
  ⟨some 56, (Op.nilCheck (Operand.tmp 55)), none⟩,
  ⟨some 57, (Op.fieldAddr 31 (Operand.tmp 56) 3), none⟩,
  ⟨some 58, (Op.load 3 (Operand.tmp 57)), none⟩,
  ⟨some 59, (Op.binOp BinOp.eql 3 (Operand.tmp 58) (Operand.const (Value.int IntKind.i64 0)) 3), none⟩,
  ⟨some 60, (Op.move (Operand.tmp 59)), none⟩,
  ⟨some 61, (Op.move (Operand.tmp 0)), some (60, true)⟩,
  ⟨some 62, (Op.nilCheck (Operand.tmp 61)), some (60, true)⟩,
  ⟨some 63, (Op.fieldAddr 31 (Operand.tmp 62) 1), some (60, true)⟩,
  ⟨some 64, (Op.load 24 (Operand.tmp 63)), some (60, true)⟩,
  ⟨some 65, (Op.call { callee := (Callee.builtin Builtin.len), args := #[(Operand.tmp 64)], argTypes := #[24] }), some (60, true)⟩,
  ⟨some 66, (Op.binOp BinOp.eql 3 (Operand.tmp 65) (Operand.const (Value.int IntKind.i64 300)) 3), some (60, true)⟩,
  ⟨some 67, (Op.pick (Operand.tmp 60) (Operand.tmp 66) (Operand.const (Value.bool false))), none⟩])
 (.cond (Operand.tmp 67) (.reg [⟨some 68, (Op.move (Operand.tmp 0)), none⟩,
  ⟨some 69, (Op.move (Operand.tmp 1)), none⟩,
  ⟨some 70, (Op.call { callee := (Callee.value (Operand.func 41)), args := #[(Operand.tmp 68), (Operand.tmp 69), (Operand.const (Value.int IntKind.i64 34))], argTypes := #[28, 3, 3] }), none⟩]) .skip))
 (.seq (.seq (.reg [⟨some 71, (Op.move (Operand.tmp 0)), none⟩,
  ⟨some 72, (Op.nilCheck (Operand.tmp 71)), none⟩,
  ⟨some 73, (Op.fieldAddr 31 (Operand.tmp 72) 3), none⟩,
  ⟨some 74, (Op.load 3 (Operand.tmp 73)), none⟩,
  ⟨some 75, (Op.binOp BinOp.eql 3 (Operand.tmp 74) (Operand.const (Value.int IntKind.i64 0)) 3), none⟩,
  ⟨some 76, (Op.move (Operand.tmp 75)), none⟩,
  ⟨some 77, (Op.move (Operand.tmp 3)), some (76, true)⟩,
  ⟨some 78, (Op.binOp BinOp.geq 3 (Operand.tmp 77) (Operand.const (Value.int IntKind.i64 16)) 3), some (76, true)⟩,
  ⟨some 79, (Op.pick (Operand.tmp 76) (Operand.tmp 78) (Operand.const (Value.bool false))), none⟩])
 (.cond (Operand.tmp 79) (.reg [⟨some 80, (Op.move (Operand.tmp 0)), none⟩,
  ⟨some 81, (Op.move (Operand.tmp 1)), none⟩,
  ⟨some 82, (Op.call { callee := (Callee.value (Operand.func 41)), args := #[(Operand.tmp 80), (Operand.tmp 81), (Operand.const (Value.int IntKind.i64 2))], argTypes := #[28, 3, 3] }), none⟩]) .skip))
 (.seq (.seq (.reg [⟨some 83, (Op.move (Operand.tmp 0)), none⟩,
  ⟨some 84, (Op.nilCheck (Operand.tmp 83)), none⟩,
  ⟨some 85, (Op.fieldAddr 31 (Operand.tmp 84) 3), none⟩,
  ⟨some 86, (Op.load 3 (Operand.tmp 85)), none⟩,
  ⟨some 87, (Op.binOp BinOp.neq 3 (Operand.tmp 86) (Operand.const (Value.int IntKind.i64 0)) 3), none⟩])
 (.cond (Operand.tmp 87) (.seq (.reg [⟨some 88, (Op.move (Operand.tmp 1)), none⟩,
  ⟨some 8, (Op.assign (Operand.tmp 88)), none⟩])
 .ret) .skip))
 (.seq (.reg [⟨some 89, (Op.move (Operand.tmp 0)), none⟩,
  ⟨some 90, (Op.nilCheck (Operand.tmp 89)), none⟩,
  ⟨some 91, (Op.fieldAddr 31 (Operand.tmp 90) 1), none⟩,
  ⟨some 92, (Op.load 24 (Operand.tmp 91)), none⟩,
  ⟨some 93, (Op.call { callee := (Callee.builtin Builtin.len), args := #[(Operand.tmp 92)], argTypes := #[24] }), none⟩,
  ⟨some 14, (Op.assign (Operand.tmp 93)), none⟩])
 (.seq (.dr [⟨0, .F, ⟨some 94, (Op.move (Operand.tmp 0)), none⟩, [], false⟩,
  ⟨1, .F, ⟨some 95, (Op.move (Operand.tmp 0)), none⟩, [], false⟩,
  ⟨2, .F, ⟨some 96, (Op.nilCheck (Operand.tmp 95)), none⟩, [], false⟩,
  ⟨3, .F, ⟨some 97, (Op.fieldAddr 31 (Operand.tmp 96) 1), none⟩, [], false⟩,
  ⟨4, .R, ⟨some 98, (Op.load 24 (Operand.tmp 97)), none⟩, [], false⟩,
  ⟨5, .R, ⟨some 99, (Op.load 41 (Operand.tmp 9)), none⟩, [], false⟩,
  ⟨6, .F, ⟨some 100, (Op.move (Operand.tmp 10)), none⟩, [], false⟩,
  ⟨7, .F, ⟨some 101, (Op.move (Operand.tmp 13)), none⟩, [], false⟩,
  ⟨8, .F, ⟨some 102, (Op.binOp BinOp.eql 3 (Operand.tmp 101) (Operand.const (Value.int IntKind.i64 (-1))) 3), none⟩, [], false⟩,
  ⟨9, .F, ⟨some 103, (Op.move (Operand.tmp 3)), none⟩, [], false⟩,
  ⟨10, .F, ⟨some 104, (Op.move (Operand.tmp 1)), none⟩, [], false⟩,
  ⟨11, .F, ⟨some 105, (Op.move (Operand.tmp 11)), none⟩, [], false⟩,
  ⟨12, .F, ⟨some 106, (Op.build 55 #[(0, (Operand.tmp 99)), (1, (Operand.tmp 100)), (2, (Operand.tmp 102)), (3, (Operand.tmp 103)), (4, (Operand.tmp 104)), (5, (Operand.tmp 105))]), none⟩, [], false⟩,
  ⟨13, .F, ⟨some 107, (Op.buildSlice 24 1 #[(0, (Operand.tmp 106))]), none⟩, [], false⟩,
  ⟨14, .E, ⟨some 108, (Op.call { callee := (Callee.builtin Builtin.append), args := #[(Operand.tmp 98), (Operand.tmp 107)], argTypes := #[24, 24] }), none⟩, [], false⟩,
  ⟨15, .F, ⟨some 109, (Op.nilCheck (Operand.tmp 94)), none⟩, [], false⟩,
  ⟨16, .F, ⟨some 110, (Op.fieldAddr 31 (Operand.tmp 109) 1), none⟩, [], false⟩,
  ⟨17, .E, ⟨none, (Op.store 24 (Operand.tmp 110) (Operand.tmp 108)), none⟩, [], false⟩])
 (.seq (.reg [⟨some 111, (Op.move (Operand.tmp 11)), none⟩,
  ⟨some 112, (Op.move (Operand.tmp 13)), none⟩,
  ⟨some 113, (Op.binOp BinOp.add 3 (Operand.tmp 111) (Operand.tmp 112) 3), none⟩,
  ⟨some 15, (Op.assign (Operand.tmp 113)), none⟩])
 (.seq (.seq (.reg [⟨some 114, (Op.move (Operand.tmp 13)), none⟩,
  ⟨some 115, (Op.binOp BinOp.eql 3 (Operand.tmp 114) (Operand.const (Value.int IntKind.i64 (-1))) 3), none⟩])
 (.cond (Operand.tmp 115) (.seq (.reg [⟨some 116, (Op.move (Operand.tmp 0)), none⟩,
  ⟨some 117, (Op.move (Operand.tmp 11)), none⟩,
  ⟨some 118, (Op.move (Operand.tmp 2)), none⟩,
  ⟨some 119, (Op.move (Operand.tmp 3)), none⟩,
  ⟨some 120, (Op.binOp BinOp.add 3 (Operand.tmp 119) (Operand.const (Value.int IntKind.i64 1)) 3), none⟩,
  ⟨some 121, (Op.call { callee := (Callee.value (Operand.func 59)), args := #[(Operand.tmp 116), (Operand.tmp 117), (Operand.tmp 118), (Operand.tmp 120)], argTypes := #[28, 3, 3, 3] }), none⟩,
  ⟨some 15, (Op.assign (Operand.tmp 121)), none⟩])
 (.seq (.dr [⟨0, .F, ⟨some 122, (Op.move (Operand.tmp 0)), none⟩, [], false⟩,
  ⟨1, .F, ⟨some 123, (Op.nilCheck (Operand.tmp 122)), none⟩, [], false⟩,
  ⟨2, .F, ⟨some 124, (Op.fieldAddr 31 (Operand.tmp 123) 1), none⟩, [], false⟩,
  ⟨3, .R, ⟨some 125, (Op.load 24 (Operand.tmp 124)), none⟩, [], false⟩,
  ⟨4, .F, ⟨some 126, (Op.move (Operand.tmp 14)), none⟩, [], false⟩,
  ⟨5, .F, ⟨some 127, (Op.move (Operand.tmp 0)), none⟩, [], false⟩,
  ⟨6, .F, ⟨some 128, (Op.nilCheck (Operand.tmp 127)), none⟩, [], false⟩,
  ⟨7, .F, ⟨some 129, (Op.fieldAddr 31 (Operand.tmp 128) 1), none⟩, [], false⟩,
  ⟨8, .R, ⟨some 130, (Op.load 24 (Operand.tmp 129)), none⟩, [], false⟩,
  ⟨9, .F, ⟨some 131, (Op.move (Operand.tmp 14)), none⟩, [], false⟩,
  ⟨10, .F, ⟨some 132, (Op.move (Operand.tmp 15)), none⟩, [], false⟩,
  ⟨11, .F, ⟨some 133, (Op.binOp BinOp.sub 3 (Operand.tmp 132) (Operand.const (Value.int IntKind.i64 2)) 3), none⟩, [], false⟩,
  ⟨12, .F, ⟨some 134, (Op.move (Operand.tmp 15)), none⟩, [], false⟩,
  ⟨13, .F, ⟨some 135, (Op.indexAddr 24 (Operand.tmp 125) (Operand.tmp 126)), none⟩, [], false⟩,
  ⟨14, .F, ⟨some 136, (Op.fieldAddr 55 (Operand.tmp 135) 6), none⟩, [], false⟩,
  ⟨15, .E, ⟨none, (Op.store 3 (Operand.tmp 136) (Operand.tmp 133)), none⟩, [], false⟩,
  ⟨16, .F, ⟨some 137, (Op.indexAddr 24 (Operand.tmp 130) (Operand.tmp 131)), none⟩, [], false⟩,
  ⟨17, .F, ⟨some 138, (Op.fieldAddr 55 (Operand.tmp 137) 7), none⟩, [], false⟩,
  ⟨18, .E, ⟨none, (Op.store 3 (Operand.tmp 138) (Operand.tmp 134)), none⟩, [], false⟩])
 (.seq (.reg [⟨some 139, (Op.move (Operand.tmp 15)), none⟩,
  ⟨some 8, (Op.assign (Operand.tmp 139)), none⟩])
 .ret))) .skip))
 (.seq (.seq (.reg [⟨some 140, (Op.move (Operand.tmp 11)), none⟩,
  ⟨some 16, (Op.assign (Operand.tmp 140)), none⟩])
 (.block 0 (.loop (.seq (.seq (.reg [⟨some 141, (Op.move (Operand.tmp 10)), none⟩,
  ⟨some 142, (Op.move (Operand.tmp 141)), none⟩,
  ⟨some 143, (Op.move (Operand.tmp 16)), some (142, true)⟩,
  ⟨some 144, (Op.move (Operand.tmp 15)), some (142, true)⟩,
  ⟨some 145, (Op.binOp BinOp.lss 3 (Operand.tmp 143) (Operand.tmp 144) 3), some (142, true)⟩,
  ⟨some 146, (Op.pick (Operand.tmp 142) (Operand.tmp 145) (Operand.const (Value.bool false))), none⟩,
  ⟨some 147, (Op.move (Operand.tmp 146)), none⟩,
  ⟨some 148, (Op.move (Operand.tmp 0)), some (147, true)⟩,
  ⟨some 149, (Op.nilCheck (Operand.tmp 148)), some (147, true)⟩,
  ⟨some 150, (Op.fieldAddr 31 (Operand.tmp 149) 3), some (147, true)⟩,
  ⟨some 151, (Op.load 3 (Operand.tmp 150)), some (147, true)⟩,
  ⟨some 152, (Op.binOp BinOp.eql 3 (Operand.tmp 151) (Operand.const (Value.int IntKind.i64 0)) 3), some (147, true)⟩,
  ⟨some 153, (Op.pick (Operand.tmp 147) (Operand.tmp 152) (Operand.const (Value.bool false))), none⟩])
 (.cond (Operand.tmp 153) .skip (.exit 0)))
 (.block 1 (.reg [⟨some 154, (Op.move (Operand.tmp 0)), none⟩,
  ⟨some 155, (Op.move (Operand.tmp 16)), none⟩,
  ⟨some 156, (Op.move (Operand.tmp 15)), none⟩,
  ⟨some 157, (Op.move (Operand.tmp 3)), none⟩,
  ⟨some 158, (Op.binOp BinOp.add 3 (Operand.tmp 157) (Operand.const (Value.int IntKind.i64 1)) 3), none⟩,
  ⟨some 159, (Op.call { callee := (Callee.value (Operand.func 42)), args := #[(Operand.tmp 154), (Operand.tmp 155), (Operand.tmp 156), (Operand.tmp 158)], argTypes := #[28, 3, 3, 3] }), none⟩,
  ⟨some 16, (Op.assign (Operand.tmp 159)), none⟩]))))))
 (.seq (.dr [⟨0, .F, ⟨some 160, (Op.move (Operand.tmp 0)), none⟩, [], false⟩,
  ⟨1, .F, ⟨some 161, (Op.nilCheck (Operand.tmp 160)), none⟩, [], false⟩,
  ⟨2, .F, ⟨some 162, (Op.fieldAddr 31 (Operand.tmp 161) 1), none⟩, [], false⟩,
  ⟨3, .R, ⟨some 163, (Op.load 24 (Operand.tmp 162)), none⟩, [], false⟩,
  ⟨4, .F, ⟨some 164, (Op.move (Operand.tmp 14)), none⟩, [], false⟩,
  ⟨5, .F, ⟨some 165, (Op.move (Operand.tmp 0)), none⟩, [], false⟩,
  ⟨6, .F, ⟨some 166, (Op.nilCheck (Operand.tmp 165)), none⟩, [], false⟩,
  ⟨7, .F, ⟨some 167, (Op.fieldAddr 31 (Operand.tmp 166) 1), none⟩, [], false⟩,
  ⟨8, .R, ⟨some 168, (Op.load 24 (Operand.tmp 167)), none⟩, [], false⟩,
  ⟨9, .F, ⟨some 169, (Op.move (Operand.tmp 14)), none⟩, [], false⟩,
  ⟨10, .F, ⟨some 170, (Op.move (Operand.tmp 15)), none⟩, [], false⟩,
  ⟨11, .F, ⟨some 171, (Op.move (Operand.tmp 15)), none⟩, [], false⟩,
  ⟨12, .F, ⟨some 172, (Op.indexAddr 24 (Operand.tmp 163) (Operand.tmp 164)), none⟩, [], false⟩,
  ⟨13, .F, ⟨some 173, (Op.fieldAddr 55 (Operand.tmp 172) 6), none⟩, [], false⟩,
  ⟨14, .E, ⟨none, (Op.store 3 (Operand.tmp 173) (Operand.tmp 170)), none⟩, [], false⟩,
  ⟨15, .F, ⟨some 174, (Op.indexAddr 24 (Operand.tmp 168) (Operand.tmp 169)), none⟩, [], false⟩,
  ⟨16, .F, ⟨some 175, (Op.fieldAddr 55 (Operand.tmp 174) 7), none⟩, [], false⟩,
  ⟨17, .E, ⟨none, (Op.store 3 (Operand.tmp 175) (Operand.tmp 171)), none⟩, [], false⟩])
 (.seq (.reg [⟨some 176, (Op.move (Operand.tmp 15)), none⟩,
  ⟨some 8, (Op.assign (Operand.tmp 176)), none⟩])
 .ret))))))))))))))))
/-- examiner/walk.find -/
def cd43 : CC := (.seq (.reg [⟨some 4, (Op.assign (Operand.const (Value.pointer none))), none⟩,
  ⟨some 5, (Op.assign (Operand.const (Value.slice none 0 0))), none⟩])
 (.seq (.reg [⟨some 6, (Op.assign (Operand.const (Value.slice none 0 0))), none⟩])
 (.seq (.seq (.reg [⟨some 9, (Op.move (Operand.tmp 1)), none⟩,
  ⟨some 10, (Op.call { callee := (Callee.builtin Builtin.len), args := #[(Operand.tmp 9)], argTypes := #[33] }), none⟩,
  ⟨some 11, (Op.move (Operand.const (Value.int IntKind.i64 0))), none⟩])
 (.block 0 (.loop (.seq (.reg [⟨some 12, (Op.binOp BinOp.lss 3 (Operand.tmp 11) (Operand.tmp 10) 3), none⟩])
 (.seq (.cond (Operand.tmp 12) .skip (.exit 0))
 (.seq (.block 1 (.seq (.reg [⟨some 13, (Op.move (Operand.tmp 11)), none⟩,
  ⟨some 14, (Op.indexAddr 33 (Operand.tmp 9) (Operand.tmp 11)), none⟩,
  ⟨some 15, (Op.load 3 (Operand.tmp 14)), none⟩,
  ⟨some 7, (Op.assign (Operand.tmp 13)), none⟩,
  ⟨some 8, (Op.assign (Operand.tmp 15)), none⟩])
 (.seq (.seq (.reg [⟨some 16, (Op.move (Operand.tmp 8)), none⟩,
  ⟨some 17, (Op.binOp BinOp.lss 3 (Operand.tmp 16) (Operand.const (Value.int IntKind.i64 0)) 3), none⟩,
  ⟨some 18, (Op.move (Operand.tmp 17)), none⟩,
  ⟨some 19, (Op.move (Operand.tmp 8)), some (18, false)⟩,
  ⟨some 20, (Op.move (Operand.tmp 0)), some (18, false)⟩,
  ⟨some 21, (Op.call { callee := (Callee.builtin Builtin.len), args := #[(Operand.tmp 20)], argTypes := #[70] }), some (18, false)⟩,
  ⟨some 22, (Op.binOp BinOp.geq 3 (Operand.tmp 19) (Operand.tmp 21) 3), some (18, false)⟩,
  ⟨some 23, (Op.pick (Operand.tmp 18) (Operand.const (Value.bool true)) (Operand.tmp 22)), none⟩])
 (.cond (Operand.tmp 23) (.seq (.reg [⟨some 4, (Op.assign (Operand.const (Value.pointer none))), none⟩,
  ⟨some 5, (Op.assign (Operand.const (Value.slice none 0 0))), none⟩])
 .ret) .skip))
 (.seq (.seq (.reg [⟨some 24, (Op.move (Operand.tmp 7)), none⟩,
  ⟨some 25, (Op.move (Operand.tmp 1)), none⟩,
  ⟨some 26, (Op.call { callee := (Callee.builtin Builtin.len), args := #[(Operand.tmp 25)], argTypes := #[33] }), none⟩,
  ⟨some 27, (Op.binOp BinOp.sub 3 (Operand.tmp 26) (Operand.const (Value.int IntKind.i64 1)) 3), none⟩,
  ⟨some 28, (Op.binOp BinOp.eql 3 (Operand.tmp 24) (Operand.tmp 27) 3), none⟩])
 (.cond (Operand.tmp 28) (.seq (.reg [⟨some 29, (Op.move (Operand.tmp 0)), none⟩,
  ⟨some 30, (Op.move (Operand.tmp 8)), none⟩,
  ⟨some 31, (Op.indexAddr 70 (Operand.tmp 29) (Operand.tmp 30)), none⟩,
  ⟨some 32, (Op.load 74 (Operand.tmp 31)), none⟩,
  ⟨some 33, (Op.move (Operand.tmp 6)), none⟩,
  ⟨some 4, (Op.assign (Operand.tmp 32)), none⟩,
  ⟨some 5, (Op.assign (Operand.tmp 33)), none⟩])
 .ret) .skip))
 (.seq (.reg [⟨some 34, (Op.move (Operand.tmp 6)), none⟩,
  ⟨some 35, (Op.move (Operand.tmp 0)), none⟩,
  ⟨some 36, (Op.move (Operand.tmp 8)), none⟩,
  ⟨some 37, (Op.indexAddr 70 (Operand.tmp 35) (Operand.tmp 36)), none⟩,
  ⟨some 38, (Op.load 74 (Operand.tmp 37)), none⟩,
  ⟨some 39, (Op.buildSlice 70 1 #[(0, (Operand.tmp 38))]), none⟩,
  ⟨some 40, (Op.call { callee := (Callee.builtin Builtin.append), args := #[(Operand.tmp 34), (Operand.tmp 39)], argTypes := #[70, 70] }), none⟩,
  ⟨some 6, (Op.assign (Operand.tmp 40)), none⟩])
 (.reg [⟨some 41, (Op.move (Operand.tmp 0)), none⟩,
  ⟨some 42, (Op.move (Operand.tmp 8)), none⟩,
  ⟨some 43, (Op.indexAddr 70 (Operand.tmp 41) (Operand.tmp 42)), none⟩,
  ⟨some 44, (Op.load 74 (Operand.tmp 43)), none⟩,
  ⟨some 45, (Op.nilCheck (Operand.tmp 44)), none⟩,
  ⟨some 46, (Op.fieldAddr 92 (Operand.tmp 45) 9), none⟩,
  ⟨some 47, (Op.load 70 (Operand.tmp 46)), none⟩,
  ⟨some 0, (Op.assign (Operand.tmp 47)), none⟩]))))))
 (.reg [⟨some 48, (Op.binOp BinOp.add 3 (Operand.tmp 11) (Operand.const (Value.int IntKind.i64 1)) 3), none⟩,
  ⟨some 11, (Op.move (Operand.tmp 48)), none⟩])))))))
 (.seq (.reg [⟨some 4, (Op.assign (Operand.const (Value.pointer none))), none⟩,
  ⟨some 5, (Op.assign (Operand.const (Value.slice none 0 0))), none⟩])
 .ret))))
theorem fn43 : FnFact Try.prog 43 49 [] [(ResultVar.tmp 4), (ResultVar.tmp 5)] cd43 := ⟨by kernel_rfl, ⟨Try.f43, Try.func43, by kernel_rfl, by rfl, Try.ntmps43, congrArg Array.toList Try.results43⟩⟩
/-- (*examiner/examinerref10.Walk).kids -/
def cd45 : CC := (.seq (.reg [⟨some 4, (Op.assign (Operand.const (Value.slice none 0 0))), none⟩])
 (.seq (.dr [⟨0, .F, ⟨some 13, (Op.move (Operand.tmp 0)), none⟩, [], false⟩,
  ⟨1, .F, ⟨some 14, (Op.nilCheck (Operand.tmp 13)), none⟩, [], false⟩,
  ⟨2, .F, ⟨some 15, (Op.fieldAddr 31 (Operand.tmp 14) 0), none⟩, [], false⟩,
  ⟨3, .R, ⟨some 16, (Op.load 9 (Operand.tmp 15)), none⟩, [], false⟩,
  ⟨4, .F, ⟨some 17, (Op.call { callee := (Callee.builtin Builtin.len), args := #[(Operand.tmp 16)], argTypes := #[9] }), none⟩, [], false⟩,
  ⟨5, .F, ⟨some 5, (Op.assign (Operand.const (Value.int IntKind.i64 0))), none⟩, [], false⟩,
  ⟨6, .F, ⟨some 6, (Op.assign (Operand.tmp 17)), none⟩, [], false⟩,
  ⟨7, .F, ⟨some 7, (Op.assign (Operand.const (Value.int IntKind.i64 0))), none⟩, [], false⟩])
 (.seq (.reg [⟨some 8, (Op.assign (Operand.const (Value.int IntKind.i64 0))), none⟩])
 (.seq (.seq (.reg [⟨some 18, (Op.move (Operand.tmp 1)), none⟩,
  ⟨some 19, (Op.binOp BinOp.neq 3 (Operand.tmp 18) (Operand.const (Value.int IntKind.i64 (-1))) 3), none⟩])
 (.cond (Operand.tmp 19) (.seq (.reg [⟨some 20, (Op.move (Operand.tmp 0)), none⟩,
  ⟨some 21, (Op.nilCheck (Operand.tmp 20)), none⟩,
  ⟨some 22, (Op.fieldAddr 31 (Operand.tmp 21) 1), none⟩,
  ⟨some 23, (Op.load 24 (Operand.tmp 22)), none⟩,
  ⟨some 24, (Op.move (Operand.tmp 1)), none⟩,
  ⟨some 25, (Op.indexAddr 24 (Operand.tmp 23) (Operand.tmp 24)), none⟩,
  ⟨some 26, (Op.load 55 (Operand.tmp 25)), none⟩,
  ⟨some 9, (Op.alloc 55), none⟩,
  ⟨none, (Op.store 55 (Operand.tmp 9) (Operand.tmp 26)), none⟩])
 (.dr [⟨0, .F, ⟨some 27, (Op.fieldAddr 55 (Operand.tmp 9) 5), none⟩, [], false⟩,
  ⟨1, .R, ⟨some 28, (Op.load 3 (Operand.tmp 27)), none⟩, [], false⟩,
  ⟨2, .F, ⟨some 29, (Op.fieldAddr 55 (Operand.tmp 9) 6), none⟩, [], false⟩,
  ⟨3, .R, ⟨some 30, (Op.load 3 (Operand.tmp 29)), none⟩, [], false⟩,
  ⟨4, .F, ⟨some 31, (Op.fieldAddr 55 (Operand.tmp 9) 3), none⟩, [], false⟩,
  ⟨5, .R, ⟨some 32, (Op.load 3 (Operand.tmp 31)), none⟩, [], false⟩,
  ⟨6, .F, ⟨some 33, (Op.binOp BinOp.add 3 (Operand.tmp 32) (Operand.const (Value.int IntKind.i64 1)) 3), none⟩, [], false⟩,
  ⟨7, .F, ⟨some 34, (Op.move (Operand.tmp 1)), none⟩, [], false⟩,
  ⟨8, .F, ⟨some 35, (Op.binOp BinOp.add 3 (Operand.tmp 34) (Operand.const (Value.int IntKind.i64 1)) 3), none⟩, [], false⟩,
  ⟨9, .F, ⟨some 5, (Op.assign (Operand.tmp 28)), none⟩, [], false⟩,
  ⟨10, .F, ⟨some 6, (Op.assign (Operand.tmp 30)), none⟩, [], false⟩,
  ⟨11, .F, ⟨some 7, (Op.assign (Operand.tmp 33)), none⟩, [], false⟩,
  ⟨12, .F, ⟨some 8, (Op.assign (Operand.tmp 35)), none⟩, [], false⟩])) .skip))
 (.seq (.reg [⟨some 10, (Op.assign (Operand.const (Value.slice none 0 0))), none⟩])
 (.seq (.seq (.reg [⟨some 36, (Op.move (Operand.tmp 8)), none⟩,
  ⟨some 11, (Op.assign (Operand.tmp 36)), none⟩])
 (.block 0 (.loop (.seq (.seq (.reg [⟨some 37, (Op.move (Operand.tmp 11)), none⟩,
  ⟨some 38, (Op.move (Operand.tmp 0)), none⟩,
  ⟨some 39, (Op.nilCheck (Operand.tmp 38)), none⟩,
  ⟨some 40, (Op.fieldAddr 31 (Operand.tmp 39) 1), none⟩,
  ⟨some 41, (Op.load 24 (Operand.tmp 40)), none⟩,
  ⟨some 42, (Op.call { callee := (Callee.builtin Builtin.len), args := #[(Operand.tmp 41)], argTypes := #[24] }), none⟩,
  ⟨some 43, (Op.binOp BinOp.lss 3 (Operand.tmp 37) (Operand.tmp 42) 3), none⟩])
 (.cond (Operand.tmp 43) .skip (.exit 0)))
 (.seq (.block 1 (.seq (.reg [⟨some 46, (Op.move (Operand.tmp 0)), none⟩,
  ⟨some 47, (Op.nilCheck (Operand.tmp 46)), none⟩,
  ⟨some 48, (Op.fieldAddr 31 (Operand.tmp 47) 1), none⟩,
  ⟨some 49, (Op.load 24 (Operand.tmp 48)), none⟩,
  ⟨some 50, (Op.move (Operand.tmp 11)), none⟩,
  ⟨some 51, (Op.indexAddr 24 (Operand.tmp 49) (Operand.tmp 50)), none⟩,
  ⟨some 52, (Op.load 55 (Operand.tmp 51)), none⟩,
  ⟨some 12, (Op.alloc 55), none⟩,
  ⟨none, (Op.store 55 (Operand.tmp 12) (Operand.tmp 52)), none⟩])
 (.seq (.seq (.reg [⟨some 53, (Op.fieldAddr 55 (Operand.tmp 12) 4), none⟩,
  ⟨some 54, (Op.load 3 (Operand.tmp 53)), none⟩,
  ⟨some 55, (Op.move (Operand.tmp 6)), none⟩,
  ⟨some 56, (Op.binOp BinOp.geq 3 (Operand.tmp 54) (Operand.tmp 55) 3), none⟩])
 (.cond (Operand.tmp 56) (.exit 0) .skip))
 (.seq (.reg [⟨some 57, (Op.fieldAddr 55 (Operand.tmp 12) 3), none⟩,
  ⟨some 58, (Op.load 3 (Operand.tmp 57)), none⟩,
  ⟨some 59, (Op.move (Operand.tmp 7)), none⟩,
  ⟨some 60, (Op.binOp BinOp.eql 3 (Operand.tmp 58) (Operand.tmp 59) 3), none⟩,
  ⟨some 61, (Op.move (Operand.tmp 60)), none⟩,
  ⟨some 62, (Op.fieldAddr 55 (Operand.tmp 12) 4), some (61, true)⟩,
  ⟨some 63, (Op.load 3 (Operand.tmp 62)), some (61, true)⟩,
  ⟨some 64, (Op.move (Operand.tmp 5)), some (61, true)⟩,
  ⟨some 65, (Op.binOp BinOp.geq 3 (Operand.tmp 63) (Operand.tmp 64) 3), some (61, true)⟩,
  ⟨some 66, (Op.pick (Operand.tmp 61) (Operand.tmp 65) (Operand.const (Value.bool false))), none⟩])
 (.cond (Operand.tmp 66) (.reg [⟨some 67, (Op.move (Operand.tmp 10)), none⟩,
  ⟨some 68, (Op.move (Operand.tmp 11)), none⟩,
  ⟨some 69, (Op.buildSlice 33 1 #[(0, (Operand.tmp 68))]), none⟩,
  ⟨some 70, (Op.call { callee := (Callee.builtin Builtin.append), args := #[(Operand.tmp 67), (Operand.tmp 69)], argTypes := #[33, 33] }), none⟩,
  ⟨some 10, (Op.assign (Operand.tmp 70)), none⟩]) .skip)))))
 (.reg [⟨some 44, (Op.move (Operand.tmp 11)), none⟩,
  ⟨some 45, (Op.binOp BinOp.add 3 (Operand.tmp 44) (Operand.const (Value.int IntKind.i64 1)) 3), none⟩,
  ⟨some 11, (Op.assign (Operand.tmp 45)), none⟩]))))))
 (.seq (.reg [⟨some 71, (Op.move (Operand.tmp 10)), none⟩,
  ⟨some 4, (Op.assign (Operand.tmp 71)), none⟩])
 .ret)))))))
/-- examiner/walk.identifier -/
def cd47 : CC := (.seq (.reg [⟨some 2, (Op.box 41 (Operand.tmp 0)), none⟩,
  ⟨some 4, (Op.assign (Operand.const (Value.string { data := #[] }))), none⟩])
 (.seq (.reg [⟨some 8, (Op.fieldAddr 41 (Operand.tmp 2) 0), none⟩,
  ⟨some 9, (Op.load 3 (Operand.tmp 8)), none⟩,
  ⟨some 10, (Op.binOp BinOp.shl 3 (Operand.tmp 9) (Operand.const (Value.int IntKind.u64 6)) 83), none⟩,
  ⟨some 11, (Op.convert 3 5 (Operand.tmp 10)), none⟩,
  ⟨some 5, (Op.assign (Operand.tmp 11)), none⟩])
 (.seq (.seq (.reg [⟨some 12, (Op.move (Operand.tmp 1)), none⟩])
 (.cond (Operand.tmp 12) (.reg [⟨some 13, (Op.move (Operand.tmp 5)), none⟩,
  ⟨some 14, (Op.binOp BinOp.or 5 (Operand.tmp 13) (Operand.const (Value.int IntKind.u8 32)) 5), none⟩,
  ⟨some 5, (Op.assign (Operand.tmp 14)), none⟩]) .skip))
 (.seq (.seq (.reg [⟨some 15, (Op.fieldAddr 41 (Operand.tmp 2) 1), none⟩,
  ⟨some 16, (Op.load 3 (Operand.tmp 15)), none⟩,
  ⟨some 17, (Op.binOp BinOp.lss 3 (Operand.tmp 16) (Operand.const (Value.int IntKind.i64 31)) 3), none⟩])
 (.cond (Operand.tmp 17) (.seq (.reg [⟨some 18, (Op.move (Operand.tmp 5)), none⟩,
  ⟨some 19, (Op.fieldAddr 41 (Operand.tmp 2) 1), none⟩,
  ⟨some 20, (Op.load 3 (Operand.tmp 19)), none⟩,
  ⟨some 21, (Op.convert 3 5 (Operand.tmp 20)), none⟩,
  ⟨some 22, (Op.binOp BinOp.or 5 (Operand.tmp 18) (Operand.tmp 21) 5), none⟩,
  ⟨some 23, (Op.buildSlice 84 1 #[(0, (Operand.tmp 22))]), none⟩,
  ⟨some 24, (Op.convert 84 9 (Operand.tmp 23)), none⟩,
  ⟨some 4, (Op.assign (Operand.tmp 24)), none⟩])
 .ret) .skip))
 (.seq (.reg [⟨some 25, (Op.fieldAddr 41 (Operand.tmp 2) 1), none⟩,
  ⟨some 26, (Op.load 3 (Operand.tmp 25)), none⟩,
  ⟨some 27, (Op.binOp BinOp.and 3 (Operand.tmp 26) (Operand.const (Value.int IntKind.i64 127)) 3), none⟩,
  ⟨some 28, (Op.convert 3 5 (Operand.tmp 27)), none⟩,
  ⟨some 29, (Op.buildSlice 84 1 #[(0, (Operand.tmp 28))]), none⟩,
  ⟨some 6, (Op.assign (Operand.tmp 29)), none⟩])
 (.seq (.seq (.reg [⟨some 30, (Op.fieldAddr 41 (Operand.tmp 2) 1), none⟩,
  ⟨some 31, (Op.load 3 (Operand.tmp 30)), none⟩,
  ⟨some 32, (Op.binOp BinOp.shr 3 (Operand.tmp 31) (Operand.const (Value.int IntKind.u64 7)) 83), none⟩,
  ⟨some 7, (Op.assign (Operand.tmp 32)), none⟩])
 (.block 0 (.loop (.seq (.seq (.reg [⟨some 33, (Op.move (Operand.tmp 7)), none⟩,
  ⟨some 34, (Op.binOp BinOp.gtr 3 (Operand.tmp 33) (Operand.const (Value.int IntKind.i64 0)) 3), none⟩])
 (.cond (Operand.tmp 34) .skip (.exit 0)))
 (.seq (.block 1 (.reg [⟨some 37, (Op.move (Operand.tmp 6)), none⟩,
  ⟨some 38, (Op.move (Operand.tmp 7)), none⟩,
  ⟨some 39, (Op.binOp BinOp.and 3 (Operand.tmp 38) (Operand.const (Value.int IntKind.i64 127)) 3), none⟩,
  ⟨some 40, (Op.convert 3 5 (Operand.tmp 39)), none⟩,
  ⟨some 41, (Op.binOp BinOp.or 5 (Operand.tmp 40) (Operand.const (Value.int IntKind.u8 128)) 5), none⟩,
  ⟨some 42, (Op.buildSlice 84 1 #[(0, (Operand.tmp 41))]), none⟩,
  ⟨some 43, (Op.call { callee := (Callee.builtin Builtin.append), args := #[(Operand.tmp 37), (Operand.tmp 42)], argTypes := #[84, 84] }), none⟩,
  ⟨some 6, (Op.assign (Operand.tmp 43)), none⟩]))
 (.reg [⟨some 35, (Op.move (Operand.tmp 7)), none⟩,
  ⟨some 36, (Op.binOp BinOp.shr 3 (Operand.tmp 35) (Operand.const (Value.int IntKind.u64 7)) 83), none⟩,
  ⟨some 7, (Op.assign (Operand.tmp 36)), none⟩]))))))
 (.seq (.reg [⟨some 44, (Op.move (Operand.tmp 6)), none⟩,
  ⟨some 45, (Op.call { callee := (Callee.value (Operand.func 62)), args := #[(Operand.tmp 44)], argTypes := #[84] }), none⟩])
 (.seq (.reg [⟨some 46, (Op.move (Operand.tmp 5)), none⟩,
  ⟨some 47, (Op.binOp BinOp.or 5 (Operand.tmp 46) (Operand.const (Value.int IntKind.u8 31)) 5), none⟩,
  ⟨some 48, (Op.buildSlice 84 1 #[(0, (Operand.tmp 47))]), none⟩,
  ⟨some 49, (Op.convert 84 9 (Operand.tmp 48)), none⟩,
  ⟨some 50, (Op.move (Operand.tmp 6)), none⟩,
  ⟨some 51, (Op.convert 84 9 (Operand.tmp 50)), none⟩,
  ⟨some 52, (Op.binOp BinOp.add 9 (Operand.tmp 49) (Operand.tmp 51) 9), none⟩,
  ⟨some 4, (Op.assign (Operand.tmp 52)), none⟩])
 .ret))))))))
/-- examiner/walk.length -/
def cd48 : CC := (.seq (.reg [⟨some 4, (Op.assign (Operand.const (Value.string { data := #[] }))), none⟩])
 (.seq (.seq (.reg [⟨some 7, (Op.move (Operand.tmp 0)), none⟩,
  ⟨some 8, (Op.binOp BinOp.lss 3 (Operand.tmp 7) (Operand.const (Value.int IntKind.i64 128)) 3), none⟩,
  ⟨some 9, (Op.move (Operand.tmp 8)), none⟩,
  ⟨some 10, (Op.move (Operand.tmp 1)), some (9, true)⟩,
  ⟨some 11, (Op.binOp BinOp.eql 3 (Operand.tmp 10) (Operand.const (Value.int IntKind.i64 1)) 3), some (9, true)⟩,
  ⟨some 12, (Op.pick (Operand.tmp 9) (Operand.tmp 11) (Operand.const (Value.bool false))), none⟩])
 (.cond (Operand.tmp 12) (.seq (.reg [⟨some 13, (Op.move (Operand.tmp 0)), none⟩,
  ⟨some 14, (Op.convert 3 5 (Operand.tmp 13)), none⟩,
  ⟨some 15, (Op.buildSlice 84 1 #[(0, (Operand.tmp 14))]), none⟩,
  ⟨some 16, (Op.convert 84 9 (Operand.tmp 15)), none⟩,
  ⟨some 4, (Op.assign (Operand.tmp 16)), none⟩])
 .ret) .skip))
 (.seq (.reg [⟨some 5, (Op.assign (Operand.const (Value.slice none 0 0))), none⟩])
 (.seq (.seq (.reg [⟨some 17, (Op.move (Operand.tmp 0)), none⟩,
  ⟨some 6, (Op.assign (Operand.tmp 17)), none⟩])
 (.block 0 (.loop (.seq (.seq (.reg [⟨some 18, (Op.move (Operand.tmp 6)), none⟩,
  ⟨some 19, (Op.binOp BinOp.gtr 3 (Operand.tmp 18) (Operand.const (Value.int IntKind.i64 0)) 3), none⟩])
 (.cond (Operand.tmp 19) .skip (.exit 0)))
 (.seq (.block 1 (.reg [⟨some 22, (Op.move (Operand.tmp 5)), none⟩,
  ⟨some 23, (Op.move (Operand.tmp 6)), none⟩,
  ⟨some 24, (Op.convert 3 5 (Operand.tmp 23)), none⟩,
  ⟨some 25, (Op.buildSlice 84 1 #[(0, (Operand.tmp 24))]), none⟩,
  ⟨some 26, (Op.call { callee := (Callee.builtin Builtin.append), args := #[(Operand.tmp 22), (Operand.tmp 25)], argTypes := #[84, 84] }), none⟩,
  ⟨some 5, (Op.assign (Operand.tmp 26)), none⟩]))
 (.reg [⟨some 20, (Op.move (Operand.tmp 6)), none⟩,
  ⟨some 21, (Op.binOp BinOp.shr 3 (Operand.tmp 20) (Operand.const (Value.int IntKind.u64 8)) 83), none⟩,
  ⟨some 6, (Op.assign (Operand.tmp 21)), none⟩]))))))
 (.seq (.block 2 (.loop (.seq (.seq (.reg [⟨some 27, (Op.move (Operand.tmp 5)), none⟩,
  ⟨some 28, (Op.call { callee := (Callee.builtin Builtin.len), args := #[(Operand.tmp 27)], argTypes := #[84] }), none⟩,
  ⟨some 29, (Op.move (Operand.tmp 1)), none⟩,
  ⟨some 30, (Op.binOp BinOp.sub 3 (Operand.tmp 29) (Operand.const (Value.int IntKind.i64 1)) 3), none⟩,
  ⟨some 31, (Op.call { callee := (Callee.builtin Builtin.max), args := #[(Operand.const (Value.int IntKind.i64 1)), (Operand.tmp 30)], argTypes := #[3, 3] }), none⟩,
  ⟨some 32, (Op.binOp BinOp.lss 3 (Operand.tmp 28) (Operand.tmp 31) 3), none⟩])
 (.cond (Operand.tmp 32) .skip (.exit 2)))
 (.block 3 (.reg [⟨some 33, (Op.move (Operand.tmp 5)), none⟩,
  ⟨some 34, (Op.buildSlice 84 1 #[(0, (Operand.const (Value.int IntKind.u8 0)))]), none⟩,
  ⟨some 35, (Op.call { callee := (Callee.builtin Builtin.append), args := #[(Operand.tmp 33), (Operand.tmp 34)], argTypes := #[84, 84] }), none⟩,
  ⟨some 5, (Op.assign (Operand.tmp 35)), none⟩])))))
 (.seq (.reg [⟨some 36, (Op.move (Operand.tmp 5)), none⟩,
  ⟨some 37, (Op.call { callee := (Callee.value (Operand.func 62)), args := #[(Operand.tmp 36)], argTypes := #[84] }), none⟩])
 (.seq (.reg [⟨some 38, (Op.move (Operand.tmp 5)), none⟩,
  ⟨some 39, (Op.call { callee := (Callee.builtin Builtin.len), args := #[(Operand.tmp 38)], argTypes := #[84] }), none⟩,
  ⟨some 40, (Op.binOp BinOp.add 3 (Operand.const (Value.int IntKind.i64 128)) (Operand.tmp 39) 3), none⟩,
  ⟨some 41, (Op.convert 3 5 (Operand.tmp 40)), none⟩,
  ⟨some 42, (Op.buildSlice 84 1 #[(0, (Operand.tmp 41))]), none⟩,
  ⟨some 43, (Op.convert 84 9 (Operand.tmp 42)), none⟩,
  ⟨some 44, (Op.move (Operand.tmp 5)), none⟩,
  ⟨some 45, (Op.convert 84 9 (Operand.tmp 44)), none⟩,
  ⟨some 46, (Op.binOp BinOp.add 9 (Operand.tmp 43) (Operand.tmp 45) 9), none⟩,
  ⟨some 4, (Op.assign (Operand.tmp 46)), none⟩])
 .ret)))))))
theorem fn48 : FnFact Try.prog 48 47 [] [(ResultVar.tmp 4)] cd48 := ⟨by kernel_rfl, ⟨Try.f48, Try.func48, by kernel_rfl, by rfl, Try.ntmps48, congrArg Array.toList Try.results48⟩⟩
/-- slices.IndexFunc[[]*examiner/walk.node,*examiner/walk.node] -/
def cd51 : CC := (.seq (.reg [⟨some 4, (Op.assign (Operand.const (Value.int IntKind.i64 0))), none⟩])
 (.seq (.seq (.reg [⟨some 6, (Op.move (Operand.tmp 0)), none⟩,
  ⟨some 7, (Op.call { callee := (Callee.builtin Builtin.len), args := #[(Operand.tmp 6)], argTypes := #[70] }), none⟩,
  ⟨some 8, (Op.move (Operand.const (Value.int IntKind.i64 0))), none⟩])
 (.block 0 (.loop (.seq (.reg [⟨some 9, (Op.binOp BinOp.lss 3 (Operand.tmp 8) (Operand.tmp 7) 3), none⟩])
 (.seq (.cond (Operand.tmp 9) .skip (.exit 0))
 (.seq (.block 1 (.seq (.reg [⟨some 10, (Op.move (Operand.tmp 8)), none⟩,
  ⟨some 5, (Op.assign (Operand.tmp 10)), none⟩])
 (.seq (.reg [⟨some 11, (Op.move (Operand.tmp 1)), none⟩,
  ⟨some 12, (Op.move (Operand.tmp 0)), none⟩,
  ⟨some 13, (Op.move (Operand.tmp 5)), none⟩,
  ⟨some 14, (Op.indexAddr 70 (Operand.tmp 12) (Operand.tmp 13)), none⟩,
  ⟨some 15, (Op.load 74 (Operand.tmp 14)), none⟩,
  ⟨some 16, (Op.call { callee := (Callee.value (Operand.tmp 11)), args := #[(Operand.tmp 15)], argTypes := #[74] }), none⟩])
 (.cond (Operand.tmp 16) (.seq (.reg [⟨some 17, (Op.move (Operand.tmp 5)), none⟩,
  ⟨some 4, (Op.assign (Operand.tmp 17)), none⟩])
 .ret) .skip))))
 (.reg [⟨some 18, (Op.binOp BinOp.add 3 (Operand.tmp 8) (Operand.const (Value.int IntKind.i64 1)) 3), none⟩,
  ⟨some 8, (Op.move (Operand.tmp 18)), none⟩])))))))
 (.seq (.reg [⟨some 4, (Op.assign (Operand.const (Value.int IntKind.i64 (-1)))), none⟩])
 .ret)))
theorem fn51 : FnFact Try.prog 51 19 [] [(ResultVar.tmp 4)] cd51 := ⟨by kernel_rfl, ⟨Try.f51, Try.func51, by kernel_rfl, by rfl, Try.ntmps51, congrArg Array.toList Try.results51⟩⟩
/-- examiner/walk.PathTo$1 -/
def cd52 : CC := (.seq (.reg [⟨some 3, (Op.assign (Operand.const (Value.bool false))), none⟩])
 (.seq (.dr [⟨0, .F, ⟨some 4, (Op.move (Operand.tmp 0)), none⟩, [], false⟩,
  ⟨1, .F, ⟨some 5, (Op.nilCheck (Operand.tmp 4)), none⟩, [], false⟩,
  ⟨2, .F, ⟨some 6, (Op.fieldAddr 92 (Operand.tmp 5) 3), none⟩, [], false⟩,
  ⟨3, .R, ⟨some 7, (Op.load 3 (Operand.tmp 6)), none⟩, [], false⟩,
  ⟨4, .R, ⟨some 8, (Op.load 3 (Operand.tmp 1)), none⟩, [], false⟩,
  ⟨5, .F, ⟨some 9, (Op.binOp BinOp.leq 3 (Operand.tmp 7) (Operand.tmp 8) 3), none⟩, [], false⟩,
  ⟨6, .F, ⟨some 10, (Op.move (Operand.tmp 9)), none⟩, [], false⟩,
  ⟨7, .R, ⟨some 11, (Op.load 3 (Operand.tmp 1)), some (10, true)⟩, [], false⟩,
  ⟨8, .F, ⟨some 12, (Op.move (Operand.tmp 0)), some (10, true)⟩, [], false⟩,
  ⟨9, .F, ⟨some 13, (Op.nilCheck (Operand.tmp 12)), some (10, true)⟩, [], false⟩,
  ⟨10, .F, ⟨some 14, (Op.fieldAddr 92 (Operand.tmp 13) 7), some (10, true)⟩, [], false⟩,
  ⟨11, .R, ⟨some 15, (Op.load 3 (Operand.tmp 14)), some (10, true)⟩, [], false⟩,
  ⟨12, .F, ⟨some 16, (Op.binOp BinOp.lss 3 (Operand.tmp 11) (Operand.tmp 15) 3), some (10, true)⟩, [], false⟩,
  ⟨13, .F, ⟨some 17, (Op.pick (Operand.tmp 10) (Operand.tmp 16) (Operand.const (Value.bool false))), none⟩, [], false⟩,
  ⟨14, .F, ⟨some 3, (Op.assign (Operand.tmp 17)), none⟩, [], false⟩])
 .ret))
theorem fn52 : FnFact Try.prog 52 18 [(1, [(0, 0), (1, 0), (2, 0), (3, 3), (4, 3), (5, 0), (6, 0), (7, 3), (8, 0), (9, 0), (10, 0), (11, 3), (12, 0), (13, 0), (14, 0)], [[], [0], [0, 1], [0, 1, 2], [], [0, 1, 2, 3, 4], [0, 1, 2, 3, 4, 5], [0, 1, 2, 3, 4, 5, 6], [0, 1, 2, 3, 4, 5, 6], [0, 1, 2, 3, 4, 5, 6, 8], [0, 1, 2, 3, 4, 5, 6, 8, 9], [0, 1, 2, 3, 4, 5, 6, 8, 9, 10], [0, 1, 2, 3, 4, 5, 6, 7, 8, 9, 10, 11], [0, 1, 2, 3, 4, 5, 6, 7, 8, 9, 10, 11, 12], [0, 1, 2, 3, 4, 5, 6, 7, 8, 9, 10, 11, 12, 13]])] [(ResultVar.tmp 3)] cd52 := ⟨by kernel_rfl, ⟨Try.f52, Try.func52, by kernel_rfl, by rfl, Try.ntmps52, congrArg Array.toList Try.results52⟩⟩
/-- examiner/walk.read$1 -/
def cd55 : CC := (.seq (.reg [⟨some 6, (Op.call { callee := (Callee.builtin Builtin.recover), args := #[], argTypes := #[] }), none⟩,
  ⟨some 3, (Op.assign (Operand.tmp 6)), none⟩])
 (.seq (.reg [⟨some 7, (Op.move (Operand.tmp 3)), none⟩,
  ⟨some 8, (Op.binOp BinOp.neq 20 (Operand.tmp 7) (Operand.const Value.nilIface) 20), none⟩])
 (.cond (Operand.tmp 8) (.seq (.reg [⟨some 10, (Op.move (Operand.tmp 3)), none⟩,
  ⟨some 11, (Op.typeAssert (Operand.tmp 10) 20 96 true), none⟩,
  ⟨some 9, (Op.move (Operand.tmp 11)), none⟩,
  ⟨some 12, (Op.extract (Operand.tmp 9) 0), none⟩,
  ⟨some 13, (Op.extract (Operand.tmp 9) 1), none⟩,
  ⟨some 4, (Op.alloc 96), none⟩,
  ⟨none, (Op.store 96 (Operand.tmp 4) (Operand.tmp 12)), none⟩,
  ⟨some 5, (Op.assign (Operand.tmp 13)), none⟩])
 (.seq (.seq (.reg [⟨some 14, (Op.move (Operand.tmp 5)), none⟩,
  ⟨some 15, (Op.unOp UnOp.not 4 (Operand.tmp 14)), none⟩])
 (.cond (Operand.tmp 15) (.reg [⟨some 16, (Op.move (Operand.tmp 3)), none⟩,
  ⟨none, (Op.panic (Operand.tmp 16)), none⟩]) .skip))
 (.dr [⟨0, .F, ⟨some 17, (Op.fieldAddr 96 (Operand.tmp 4) 0), none⟩, [], false⟩,
  ⟨1, .R, ⟨some 18, (Op.load 3 (Operand.tmp 17)), none⟩, [], false⟩,
  ⟨2, .F, ⟨some 19, (Op.fieldAddr 96 (Operand.tmp 4) 1), none⟩, [], false⟩,
  ⟨3, .R, ⟨some 20, (Op.load 25 (Operand.tmp 19)), none⟩, [], false⟩,
  ⟨4, .E, ⟨none, (Op.store 70 (Operand.tmp 0) (Operand.const (Value.slice none 0 0))), none⟩, [], true⟩,
  ⟨5, .E, ⟨none, (Op.store 3 (Operand.tmp 1) (Operand.tmp 18)), none⟩, [], true⟩,
  ⟨6, .E, ⟨none, (Op.store 25 (Operand.tmp 2) (Operand.tmp 20)), none⟩, [], false⟩]))) .skip)))
theorem fn55 : FnFact Try.prog 55 21 [(5, [(0, 0), (1, 3), (2, 0), (3, 3), (4, 4), (5, 4), (6, 2)], [[], [0], [], [2], [], [0, 1, 4], [0, 1, 2, 3, 4, 5]])] [] cd55 := ⟨by kernel_rfl, ⟨Try.f55, Try.func55, by kernel_rfl, by rfl, Try.ntmps55, congrArg Array.toList Try.results55⟩⟩
/-- (*examiner/walk.reader).node -/
def cd56 : CC := (.seq (.reg [⟨some 8, (Op.assign (Operand.const (Value.pointer none))), none⟩])
 (.seq (.reg [⟨some 13, (Op.move (Operand.tmp 1)), none⟩,
  ⟨some 14, (Op.move (Operand.tmp 3)), none⟩,
  ⟨some 15, (Op.build 92 #[(3, (Operand.tmp 13)), (8, (Operand.tmp 14))]), none⟩,
  ⟨some 16, (Op.box 92 (Operand.tmp 15)), none⟩,
  ⟨some 9, (Op.assign (Operand.tmp 16)), none⟩])
 (.seq (.reg [⟨some 18, (Op.move (Operand.tmp 9)), none⟩,
  ⟨some 19, (Op.move (Operand.tmp 9)), none⟩,
  ⟨some 20, (Op.move (Operand.tmp 9)), none⟩,
  ⟨some 21, (Op.move (Operand.tmp 0)), none⟩,
  ⟨some 22, (Op.move (Operand.tmp 1)), none⟩,
  ⟨some 23, (Op.move (Operand.tmp 2)), none⟩,
  ⟨some 24, (Op.call { callee := (Callee.value (Operand.func 64)), args := #[(Operand.tmp 21), (Operand.tmp 22), (Operand.tmp 23)], argTypes := #[98, 3, 3] }), none⟩,
  ⟨some 17, (Op.move (Operand.tmp 24)), none⟩,
  ⟨some 25, (Op.extract (Operand.tmp 17) 0), none⟩,
  ⟨some 26, (Op.extract (Operand.tmp 17) 1), none⟩,
  ⟨some 27, (Op.extract (Operand.tmp 17) 2), none⟩,
  ⟨some 28, (Op.nilCheck (Operand.tmp 18)), none⟩,
  ⟨some 29, (Op.fieldAddr 92 (Operand.tmp 28) 0), none⟩,
  ⟨none, (Op.store 41 (Operand.tmp 29) (Operand.tmp 25)), none⟩,
  ⟨some 30, (Op.nilCheck (Operand.tmp 19)), none⟩,
  ⟨some 31, (Op.fieldAddr 92 (Operand.tmp 30) 1), none⟩,
  ⟨none, (Op.store 4 (Operand.tmp 31) (Operand.tmp 26)), none⟩,
  ⟨some 32, (Op.nilCheck (Operand.tmp 20)), none⟩,
  ⟨some 33, (Op.fieldAddr 92 (Operand.tmp 32) 4), none⟩,
  ⟨none, (Op.store 3 (Operand.tmp 33) (Operand.tmp 27)), none⟩])
 (.seq (.reg [⟨some 10, (Op.assign (Operand.const (Value.int IntKind.i64 0))), none⟩])
 (.seq (.dr [⟨0, .F, ⟨some 35, (Op.move (Operand.tmp 9)), none⟩, [], false⟩,
  ⟨1, .F, ⟨some 36, (Op.move (Operand.tmp 9)), none⟩, [], false⟩,
  ⟨2, .F, ⟨some 37, (Op.move (Operand.tmp 0)), none⟩, [], false⟩,
  ⟨3, .F, ⟨some 38, (Op.move (Operand.tmp 9)), none⟩, [], false⟩,
  ⟨4, .F, ⟨some 39, (Op.nilCheck (Operand.tmp 38)), none⟩, [], false⟩,
  ⟨5, .F, ⟨some 40, (Op.fieldAddr 92 (Operand.tmp 39) 4), none⟩, [], false⟩,
  ⟨6, .R, ⟨some 41, (Op.load 3 (Operand.tmp 40)), none⟩, [], false⟩,
  ⟨7, .F, ⟨some 42, (Op.move (Operand.tmp 2)), none⟩, [], false⟩,
  ⟨8, .F, ⟨some 43, (Op.move (Operand.tmp 9)), none⟩, [], false⟩,
  ⟨9, .F, ⟨some 44, (Op.nilCheck (Operand.tmp 43)), none⟩, [], false⟩,
  ⟨10, .F, ⟨some 45, (Op.fieldAddr 92 (Operand.tmp 44) 1), none⟩, [], false⟩,
  ⟨11, .R, ⟨some 46, (Op.load 4 (Operand.tmp 45)), none⟩, [], false⟩,
  ⟨12, .E, ⟨some 47, (Op.call { callee := (Callee.value (Operand.func 65)), args := #[(Operand.tmp 37), (Operand.tmp 41), (Operand.tmp 42), (Operand.tmp 46)], argTypes := #[98, 3, 3, 4] }), none⟩, [], false⟩,
  ⟨13, .F, ⟨some 34, (Op.move (Operand.tmp 47)), none⟩, [], false⟩,
  ⟨14, .F, ⟨some 48, (Op.extract (Operand.tmp 34) 0), none⟩, [], false⟩,
  ⟨15, .F, ⟨some 49, (Op.extract (Operand.tmp 34) 1), none⟩, [], false⟩,
  ⟨16, .F, ⟨some 50, (Op.extract (Operand.tmp 34) 2), none⟩, [], false⟩,
  ⟨17, .F, ⟨some 10, (Op.assign (Operand.tmp 48)), none⟩, [], false⟩,
  ⟨18, .F, ⟨some 51, (Op.nilCheck (Operand.tmp 35)), none⟩, [], false⟩,
  ⟨19, .F, ⟨some 52, (Op.fieldAddr 92 (Operand.tmp 51) 2), none⟩, [], false⟩,
  ⟨20, .E, ⟨none, (Op.store 4 (Operand.tmp 52) (Operand.tmp 49)), none⟩, [], false⟩,
  ⟨21, .F, ⟨some 53, (Op.nilCheck (Operand.tmp 36)), none⟩, [], false⟩,
  ⟨22, .F, ⟨some 54, (Op.fieldAddr 92 (Operand.tmp 53) 5), none⟩, [], false⟩,
  ⟨23, .E, ⟨none, (Op.store 3 (Operand.tmp 54) (Operand.tmp 50)), none⟩, [], false⟩])
 (.seq (.seq (.reg [⟨some 55, (Op.move (Operand.tmp 9)), none⟩,
  ⟨some 56, (Op.nilCheck (Operand.tmp 55)), none⟩,
  ⟨some 57, (Op.fieldAddr 92 (Operand.tmp 56) 2), none⟩,
  ⟨some 58, (Op.load 4 (Operand.tmp 57)), none⟩,
  ⟨some 59, (Op.unOp UnOp.not 4 (Operand.tmp 58)), none⟩,
  ⟨some 60, (Op.move (Operand.tmp 59)), none⟩,
  ⟨some 61, (Op.move (Operand.tmp 10)), some (60, true)⟩,
  ⟨some 62, (Op.move (Operand.tmp 2)), some (60, true)⟩,
  ⟨some 63, (Op.move (Operand.tmp 9)), some (60, true)⟩,
  ⟨some 64, (Op.nilCheck (Operand.tmp 63)), some (60, true)⟩,
  ⟨some 65, (Op.fieldAddr 92 (Operand.tmp 64) 5), some (60, true)⟩,
  ⟨some 66, (Op.load 3 (Operand.tmp 65)), some (60, true)⟩,
  ⟨some 67, (Op.binOp BinOp.sub 3 (Operand.tmp 62) (Operand.tmp 66) 3), some (60, true)⟩,
  ⟨some 68, (Op.binOp BinOp.gtr 3 (Operand.tmp 61) (Operand.tmp 67) 3), some (60, true)⟩,
  ⟨some 69, (Op.pick (Operand.tmp 60) (Operand.tmp 68) (Operand.const (Value.bool false))), none⟩])
 (.cond (Operand.tmp 69) (.reg [⟨some 70, (Op.move (Operand.tmp 9)), none⟩,
  ⟨some 71, (Op.nilCheck (Operand.tmp 70)), none⟩,
  ⟨some 72, (Op.fieldAddr 92 (Operand.tmp 71) 4), none⟩,
  ⟨some 73, (Op.load 3 (Operand.tmp 72)), none⟩,
  ⟨some 74, (Op.call { callee := (Callee.value (Operand.func 66)), args := #[(Operand.tmp 73), (Operand.const (Value.int IntKind.i64 19))], argTypes := #[3, 25] }), none⟩]) .skip))
 (.seq (.reg [⟨some 75, (Op.move (Operand.tmp 0)), none⟩,
  ⟨some 76, (Op.nilCheck (Operand.tmp 75)), none⟩,
  ⟨some 77, (Op.fieldAddr 100 (Operand.tmp 76) 1), none⟩,
  ⟨some 78, (Op.load 3 (Operand.tmp 77)), none⟩,
  ⟨some 79, (Op.binOp BinOp.add 3 (Operand.tmp 78) (Operand.const (Value.int IntKind.i64 1)) 3), none⟩,
  ⟨some 80, (Op.nilCheck (Operand.tmp 75)), none⟩,
  ⟨some 81, (Op.fieldAddr 100 (Operand.tmp 80) 1), none⟩,
  ⟨none, (Op.store 3 (Operand.tmp 81) (Operand.tmp 79)), none⟩])
 (.seq (.block 0 (.seq (.reg [⟨some 83, (Op.move (Operand.tmp 0)), none⟩,
  ⟨some 84, (Op.nilCheck (Operand.tmp 83)), none⟩,
  ⟨some 85, (Op.fieldAddr 100 (Operand.tmp 84) 1), none⟩,
  ⟨some 86, (Op.load 3 (Operand.tmp 85)), none⟩,
  ⟨some 87, (Op.binOp BinOp.gtr 3 (Operand.tmp 86) (Operand.const (Value.int IntKind.i64 300)) 3), none⟩,
  ⟨some 82, (Op.assign (Operand.tmp 87)), none⟩])
 (.cond (Operand.tmp 82) (.reg [⟨some 88, (Op.move (Operand.tmp 1)), none⟩,
  ⟨some 89, (Op.call { callee := (Callee.value (Operand.func 66)), args := #[(Operand.tmp 88), (Operand.const (Value.int IntKind.i64 34))], argTypes := #[3, 25] }), none⟩]) (.seq (.reg [⟨some 91, (Op.move (Operand.tmp 3)), none⟩,
  ⟨some 92, (Op.binOp BinOp.geq 3 (Operand.tmp 91) (Operand.const (Value.int IntKind.i64 16)) 3), none⟩,
  ⟨some 90, (Op.assign (Operand.tmp 92)), none⟩])
 (.cond (Operand.tmp 90) (.reg [⟨some 93, (Op.move (Operand.tmp 1)), none⟩,
  ⟨some 94, (Op.call { callee := (Callee.value (Operand.func 66)), args := #[(Operand.tmp 93), (Operand.const (Value.int IntKind.i64 2))], argTypes := #[3, 25] }), none⟩]) (.seq (.reg [⟨some 96, (Op.move (Operand.tmp 9)), none⟩,
  ⟨some 97, (Op.nilCheck (Operand.tmp 96)), none⟩,
  ⟨some 98, (Op.fieldAddr 92 (Operand.tmp 97) 2), none⟩,
  ⟨some 99, (Op.load 4 (Operand.tmp 98)), none⟩,
  ⟨some 95, (Op.assign (Operand.tmp 99)), none⟩])
 (.cond (Operand.tmp 95) (.seq (.reg [⟨some 100, (Op.move (Operand.tmp 9)), none⟩,
  ⟨some 101, (Op.move (Operand.tmp 0)), none⟩,
  ⟨some 102, (Op.move (Operand.tmp 9)), none⟩,
  ⟨some 103, (Op.move (Operand.tmp 2)), none⟩,
  ⟨some 104, (Op.call { callee := (Callee.value (Operand.func 67)), args := #[(Operand.tmp 101), (Operand.tmp 102), (Operand.tmp 103)], argTypes := #[98, 74, 3] }), none⟩,
  ⟨some 105, (Op.nilCheck (Operand.tmp 100)), none⟩,
  ⟨some 106, (Op.fieldAddr 92 (Operand.tmp 105) 6), none⟩,
  ⟨none, (Op.store 3 (Operand.tmp 106) (Operand.tmp 104)), none⟩])
 (.seq (.reg [⟨some 107, (Op.move (Operand.tmp 9)), none⟩,
  ⟨some 108, (Op.move (Operand.tmp 9)), none⟩,
  ⟨some 109, (Op.nilCheck (Operand.tmp 108)), none⟩,
  ⟨some 110, (Op.fieldAddr 92 (Operand.tmp 109) 6), none⟩,
  ⟨some 111, (Op.load 3 (Operand.tmp 110)), none⟩,
  ⟨some 112, (Op.binOp BinOp.add 3 (Operand.tmp 111) (Operand.const (Value.int IntKind.i64 2)) 3), none⟩,
  ⟨some 113, (Op.nilCheck (Operand.tmp 107)), none⟩,
  ⟨some 114, (Op.fieldAddr 92 (Operand.tmp 113) 7), none⟩,
  ⟨none, (Op.store 3 (Operand.tmp 114) (Operand.tmp 112)), none⟩])
 (.seq (.reg [⟨some 115, (Op.move (Operand.tmp 9)), none⟩,
  ⟨some 8, (Op.assign (Operand.tmp 115)), none⟩])
 .ret))) .skip)))))))
 (.seq (.reg [⟨some 116, (Op.move (Operand.tmp 9)), none⟩,
  ⟨some 117, (Op.move (Operand.tmp 9)), none⟩,
  ⟨some 118, (Op.nilCheck (Operand.tmp 117)), none⟩,
  ⟨some 119, (Op.fieldAddr 92 (Operand.tmp 118) 5), none⟩,
  ⟨some 120, (Op.load 3 (Operand.tmp 119)), none⟩,
  ⟨some 121, (Op.move (Operand.tmp 10)), none⟩,
  ⟨some 122, (Op.binOp BinOp.add 3 (Operand.tmp 120) (Operand.tmp 121) 3), none⟩,
  ⟨some 123, (Op.nilCheck (Operand.tmp 116)), none⟩,
  ⟨some 124, (Op.fieldAddr 92 (Operand.tmp 123) 6), none⟩,
  ⟨none, (Op.store 3 (Operand.tmp 124) (Operand.tmp 122)), none⟩])
 (.seq (.reg [⟨some 125, (Op.move (Operand.tmp 9)), none⟩,
  ⟨some 126, (Op.move (Operand.tmp 9)), none⟩,
  ⟨some 127, (Op.nilCheck (Operand.tmp 126)), none⟩,
  ⟨some 128, (Op.fieldAddr 92 (Operand.tmp 127) 6), none⟩,
  ⟨some 129, (Op.load 3 (Operand.tmp 128)), none⟩,
  ⟨some 130, (Op.nilCheck (Operand.tmp 125)), none⟩,
  ⟨some 131, (Op.fieldAddr 92 (Operand.tmp 130) 7), none⟩,
  ⟨none, (Op.store 3 (Operand.tmp 131) (Operand.tmp 129)), none⟩])
 (.seq (.seq (.reg [⟨some 132, (Op.move (Operand.tmp 9)), none⟩,
  ⟨some 133, (Op.nilCheck (Operand.tmp 132)), none⟩,
  ⟨some 134, (Op.fieldAddr 92 (Operand.tmp 133) 1), none⟩,
  ⟨some 135, (Op.load 4 (Operand.tmp 134)), none⟩])
 (.cond (Operand.tmp 135) (.seq (.reg [⟨some 136, (Op.move (Operand.tmp 9)), none⟩,
  ⟨some 137, (Op.nilCheck (Operand.tmp 136)), none⟩,
  ⟨some 138, (Op.fieldAddr 92 (Operand.tmp 137) 5), none⟩,
  ⟨some 139, (Op.load 3 (Operand.tmp 138)), none⟩,
  ⟨some 11, (Op.assign (Operand.tmp 139)), none⟩])
 (.block 1 (.loop (.seq (.seq (.reg [⟨some 140, (Op.move (Operand.tmp 11)), none⟩,
  ⟨some 141, (Op.move (Operand.tmp 9)), none⟩,
  ⟨some 142, (Op.nilCheck (Operand.tmp 141)), none⟩,
  ⟨some 143, (Op.fieldAddr 92 (Operand.tmp 142) 6), none⟩,
  ⟨some 144, (Op.load 3 (Operand.tmp 143)), none⟩,
  ⟨some 145, (Op.binOp BinOp.lss 3 (Operand.tmp 140) (Operand.tmp 144) 3), none⟩])
 (.cond (Operand.tmp 145) .skip (.exit 1)))
 (.block 2 (.seq (.reg [⟨some 146, (Op.move (Operand.tmp 0)), none⟩,
  ⟨some 147, (Op.move (Operand.tmp 11)), none⟩,
  ⟨some 148, (Op.move (Operand.tmp 9)), none⟩,
  ⟨some 149, (Op.nilCheck (Operand.tmp 148)), none⟩,
  ⟨some 150, (Op.fieldAddr 92 (Operand.tmp 149) 6), none⟩,
  ⟨some 151, (Op.load 3 (Operand.tmp 150)), none⟩,
  ⟨some 152, (Op.move (Operand.tmp 3)), none⟩,
  ⟨some 153, (Op.binOp BinOp.add 3 (Operand.tmp 152) (Operand.const (Value.int IntKind.i64 1)) 3), none⟩,
  ⟨some 154, (Op.call { callee := (Callee.value (Operand.func 56)), args := #[(Operand.tmp 146), (Operand.tmp 147), (Operand.tmp 151), (Operand.tmp 153)], argTypes := #[98, 3, 3, 3] }), none⟩,
  ⟨some 12, (Op.assign (Operand.tmp 154)), none⟩])
 (.dr [⟨0, .F, ⟨some 155, (Op.move (Operand.tmp 9)), none⟩, [], false⟩,
  ⟨1, .F, ⟨some 156, (Op.move (Operand.tmp 9)), none⟩, [], false⟩,
  ⟨2, .F, ⟨some 157, (Op.nilCheck (Operand.tmp 156)), none⟩, [], false⟩,
  ⟨3, .F, ⟨some 158, (Op.fieldAddr 92 (Operand.tmp 157) 9), none⟩, [], false⟩,
  ⟨4, .R, ⟨some 159, (Op.load 70 (Operand.tmp 158)), none⟩, [], false⟩,
  ⟨5, .F, ⟨some 160, (Op.move (Operand.tmp 12)), none⟩, [], false⟩,
  ⟨6, .F, ⟨some 161, (Op.buildSlice 70 1 #[(0, (Operand.tmp 160))]), none⟩, [], false⟩,
  ⟨8, .F, ⟨some 163, (Op.move (Operand.tmp 12)), none⟩, [], false⟩,
  ⟨9, .F, ⟨some 164, (Op.nilCheck (Operand.tmp 163)), none⟩, [], false⟩,
  ⟨10, .F, ⟨some 165, (Op.fieldAddr 92 (Operand.tmp 164) 7), none⟩, [], false⟩,
  ⟨11, .R, ⟨some 166, (Op.load 3 (Operand.tmp 165)), none⟩, [], false⟩,
  ⟨7, .E, ⟨some 162, (Op.call { callee := (Callee.builtin Builtin.append), args := #[(Operand.tmp 159), (Operand.tmp 161)], argTypes := #[70, 70] }), none⟩, [], true⟩,
  ⟨12, .F, ⟨some 167, (Op.nilCheck (Operand.tmp 155)), none⟩, [], false⟩,
  ⟨13, .F, ⟨some 168, (Op.fieldAddr 92 (Operand.tmp 167) 9), none⟩, [], false⟩,
  ⟨14, .E, ⟨none, (Op.store 70 (Operand.tmp 168) (Operand.tmp 162)), none⟩, [], false⟩,
  ⟨15, .F, ⟨some 11, (Op.assign (Operand.tmp 166)), none⟩, [], false⟩]))))))) .skip))
 (.seq (.reg [⟨some 169, (Op.move (Operand.tmp 9)), none⟩,
  ⟨some 8, (Op.assign (Operand.tmp 169)), none⟩])
 .ret))))))))))))
theorem fn56 : FnFact Try.prog 56 170 [(4, [(0, 0), (1, 0), (2, 0), (3, 0), (4, 0), (5, 0), (6, 3), (7, 0), (8, 0), (9, 0), (10, 0), (11, 3), (12, 2), (13, 0), (14, 0), (15, 0), (16, 0), (17, 0), (18, 0), (19, 0), (20, 2), (21, 0), (22, 0), (23, 2)], [[], [], [], [], [3], [3, 4], [3, 4, 5], [], [], [8], [8, 9], [8, 9, 10], [2, 3, 4, 5, 6, 7, 8, 9, 10, 11], [2, 3, 4, 5, 6, 7, 8, 9, 10, 11, 12], [2, 3, 4, 5, 6, 7, 8, 9, 10, 11, 12, 13], [2, 3, 4, 5, 6, 7, 8, 9, 10, 11, 12, 13], [2, 3, 4, 5, 6, 7, 8, 9, 10, 11, 12, 13], [2, 3, 4, 5, 6, 7, 8, 9, 10, 11, 12, 13, 14], [0, 2, 3, 4, 5, 6, 7, 8, 9, 10, 11, 12, 13, 14, 15, 17], [0, 2, 3, 4, 5, 6, 7, 8, 9, 10, 11, 12, 13, 14, 15, 17, 18], [0, 2, 3, 4, 5, 6, 7, 8, 9, 10, 11, 12, 13, 14, 15, 17, 18, 19], [0, 1, 2, 3, 4, 5, 6, 7, 8, 9, 10, 11, 12, 13, 14, 15, 16, 17, 18, 19, 20], [0, 1, 2, 3, 4, 5, 6, 7, 8, 9, 10, 11, 12, 13, 14, 15, 16, 17, 18, 19, 20, 21], [0, 1, 2, 3, 4, 5, 6, 7, 8, 9, 10, 11, 12, 13, 14, 15, 16, 17, 18, 19, 20, 21, 22]]), (22, [(0, 0), (1, 0), (2, 0), (3, 0), (4, 3), (5, 0), (6, 0), (8, 0), (9, 0), (10, 0), (11, 3), (7, 4), (12, 0), (13, 0), (14, 2), (15, 0)], [[], [], [1], [1, 2], [1, 2, 3], [], [5], [1, 2, 3, 4, 5, 6], [], [8], [8, 9], [8, 9, 10], [0, 1, 2, 3, 4, 5, 6, 7, 8, 9, 10, 11], [0, 1, 2, 3, 4, 5, 6, 7, 8, 9, 10, 11, 12], [0, 1, 2, 3, 4, 5, 6, 7, 8, 9, 10, 11, 12, 13], [0, 1, 2, 3, 4, 5, 6, 7, 8, 9, 10, 11, 12, 13, 14]])] [(ResultVar.tmp 8)] cd56 := ⟨by kernel_rfl, ⟨Try.f56, Try.func56, by kernel_rfl, by rfl, Try.ntmps56, congrArg Array.toList Try.results56⟩⟩
/-- slices.Backward[[]*examiner/walk.node,*examiner/walk.node] -/
def cd60 : CC := (.seq (.reg [⟨some 1, (Op.box 70 (Operand.tmp 0)), none⟩,
  ⟨some 2, (Op.assign (Operand.const Value.nilFunc)), none⟩])
 (.seq (.reg [⟨some 3, (Op.makeFunc (Fn.func 68) #[] #[(Operand.tmp 1)]), none⟩,
  ⟨some 2, (Op.assign (Operand.tmp 3)), none⟩])
 .ret))
theorem fn60 : FnFact Try.prog 60 4 [] [(ResultVar.tmp 2)] cd60 := ⟨by kernel_rfl, ⟨Try.f60, Try.func60, by kernel_rfl, by rfl, Try.ntmps60, congrArg Array.toList Try.results60⟩⟩
/-- slices.Reverse[[]byte,byte] -/
def cd62 : CC := (.seq (.reg [⟨some 4, (Op.move (Operand.tmp 0)), none⟩,
  ⟨some 5, (Op.call { callee := (Callee.builtin Builtin.len), args := #[(Operand.tmp 4)], argTypes := #[84] }), none⟩,
  ⟨some 6, (Op.binOp BinOp.sub 3 (Operand.tmp 5) (Operand.const (Value.int IntKind.i64 1)) 3), none⟩,
  ⟨some 2, (Op.assign (Operand.const (Value.int IntKind.i64 0))), none⟩,
  ⟨some 3, (Op.assign (Operand.tmp 6)), none⟩])
 (.block 0 (.loop (.seq (.seq (.reg [⟨some 7, (Op.move (Operand.tmp 2)), none⟩,
  ⟨some 8, (Op.move (Operand.tmp 3)), none⟩,
  ⟨some 9, (Op.binOp BinOp.lss 3 (Operand.tmp 7) (Operand.tmp 8) 3), none⟩])
 (.cond (Operand.tmp 9) .skip (.exit 0)))
 (.seq (.block 1 (.dr [⟨0, .F, ⟨some 14, (Op.move (Operand.tmp 0)), none⟩, [], false⟩,
  ⟨1, .F, ⟨some 15, (Op.move (Operand.tmp 2)), none⟩, [], false⟩,
  ⟨2, .F, ⟨some 16, (Op.move (Operand.tmp 0)), none⟩, [], false⟩,
  ⟨3, .F, ⟨some 17, (Op.move (Operand.tmp 3)), none⟩, [], false⟩,
  ⟨4, .F, ⟨some 18, (Op.move (Operand.tmp 0)), none⟩, [], false⟩,
  ⟨5, .F, ⟨some 19, (Op.move (Operand.tmp 3)), none⟩, [], false⟩,
  ⟨6, .F, ⟨some 20, (Op.indexAddr 84 (Operand.tmp 18) (Operand.tmp 19)), none⟩, [], false⟩,
  ⟨7, .R, ⟨some 21, (Op.load 5 (Operand.tmp 20)), none⟩, [], false⟩,
  ⟨8, .F, ⟨some 22, (Op.move (Operand.tmp 0)), none⟩, [], false⟩,
  ⟨9, .F, ⟨some 23, (Op.move (Operand.tmp 2)), none⟩, [], false⟩,
  ⟨10, .F, ⟨some 24, (Op.indexAddr 84 (Operand.tmp 22) (Operand.tmp 23)), none⟩, [], false⟩,
  ⟨11, .R, ⟨some 25, (Op.load 5 (Operand.tmp 24)), none⟩, [], false⟩,
  ⟨12, .F, ⟨some 26, (Op.indexAddr 84 (Operand.tmp 14) (Operand.tmp 15)), none⟩, [], false⟩,
  ⟨13, .E, ⟨none, (Op.store 5 (Operand.tmp 26) (Operand.tmp 21)), none⟩, [], false⟩,
  ⟨14, .F, ⟨some 27, (Op.indexAddr 84 (Operand.tmp 16) (Operand.tmp 17)), none⟩, [], false⟩,
  ⟨15, .E, ⟨none, (Op.store 5 (Operand.tmp 27) (Operand.tmp 25)), none⟩, [], false⟩]))
 (.reg [⟨some 10, (Op.move (Operand.tmp 2)), none⟩,
  ⟨some 11, (Op.binOp BinOp.add 3 (Operand.tmp 10) (Operand.const (Value.int IntKind.i64 1)) 3), none⟩,
  ⟨some 12, (Op.move (Operand.tmp 3)), none⟩,
  ⟨some 13, (Op.binOp BinOp.sub 3 (Operand.tmp 12) (Operand.const (Value.int IntKind.i64 1)) 3), none⟩,
  ⟨some 2, (Op.assign (Operand.tmp 11)), none⟩,
  ⟨some 3, (Op.assign (Operand.tmp 13)), none⟩]))))))
theorem fn62 : FnFact Try.prog 62 28 [(3, [(0, 0), (1, 0), (2, 0), (3, 0), (4, 0), (5, 0), (6, 0), (7, 3), (8, 0), (9, 0), (10, 0), (11, 3), (12, 0), (13, 2), (14, 0), (15, 2)], [[], [], [], [], [], [], [4, 5], [4, 5, 6], [], [], [8, 9], [8, 9, 10], [0, 1, 4, 5, 6, 7, 8, 9, 10, 11], [0, 1, 4, 5, 6, 7, 8, 9, 10, 11, 12], [0, 1, 2, 3, 4, 5, 6, 7, 8, 9, 10, 11, 12, 13], [0, 1, 2, 3, 4, 5, 6, 7, 8, 9, 10, 11, 12, 13, 14]])] [] cd62 := ⟨by kernel_rfl, ⟨Try.f62, Try.func62, by kernel_rfl, by rfl, Try.ntmps62, congrArg Array.toList Try.results62⟩⟩
/-- (*examiner/walk.reader).identifier -/
def cd64 : CC := (.seq (.reg [⟨some 6, (Op.alloc 41), none⟩,
  ⟨some 7, (Op.assign (Operand.const (Value.bool false))), none⟩,
  ⟨some 8, (Op.assign (Operand.const (Value.int IntKind.i64 0))), none⟩])
 (.seq (.reg [⟨some 11, (Op.move (Operand.tmp 1)), none⟩,
  ⟨some 12, (Op.move (Operand.tmp 2)), none⟩,
  ⟨some 13, (Op.call { callee := (Callee.value (Operand.func 70)), args := #[(Operand.tmp 11), (Operand.tmp 12)], argTypes := #[3, 3] }), none⟩])
 (.seq (.reg [⟨some 14, (Op.move (Operand.tmp 0)), none⟩,
  ⟨some 15, (Op.nilCheck (Operand.tmp 14)), none⟩,
  ⟨some 16, (Op.fieldAddr 100 (Operand.tmp 15) 0), none⟩,
  ⟨some 17, (Op.load 9 (Operand.tmp 16)), none⟩,
  ⟨some 18, (Op.move (Operand.tmp 1)), none⟩,
  ⟨some 19, (Op.index 9 (Operand.tmp 17) (Operand.tmp 18)), none⟩,
  ⟨some 9, (Op.assign (Operand.tmp 19)), none⟩])
 (.seq (.reg [⟨some 20, (Op.move (Operand.tmp 9)), none⟩,
  ⟨some 21, (Op.binOp BinOp.shr 5 (Operand.tmp 20) (Operand.const (Value.int IntKind.u64 6)) 83), none⟩,
  ⟨some 22, (Op.convert 5 3 (Operand.tmp 21)), none⟩,
  ⟨some 23, (Op.move (Operand.tmp 9)), none⟩,
  ⟨some 24, (Op.binOp BinOp.and 5 (Operand.tmp 23) (Operand.const (Value.int IntKind.u8 31)) 5), none⟩,
  ⟨some 25, (Op.convert 5 3 (Operand.tmp 24)), none⟩,
  ⟨some 26, (Op.build 41 #[(0, (Operand.tmp 22)), (1, (Operand.tmp 25))]), none⟩,
  ⟨some 10, (Op.alloc 41), none⟩,
  ⟨none, (Op.store 41 (Operand.tmp 10) (Operand.tmp 26)), none⟩])
 (.seq (.reg [⟨some 27, (Op.move (Operand.tmp 1)), none⟩,
  ⟨some 28, (Op.binOp BinOp.add 3 (Operand.tmp 27) (Operand.const (Value.int IntKind.i64 1)) 3), none⟩,
  ⟨some 1, (Op.assign (Operand.tmp 28)), none⟩])
 (.seq (.seq (.reg [⟨some 29, (Op.fieldAddr 41 (Operand.tmp 10) 1), none⟩,
  ⟨some 30, (Op.load 3 (Operand.tmp 29)), none⟩,
  ⟨some 31, (Op.binOp BinOp.lss 3 (Operand.tmp 30) (Operand.const (Value.int IntKind.i64 31)) 3), none⟩])
 (.cond (Operand.tmp 31) (.seq (.reg [⟨some 32, (Op.load 41 (Operand.tmp 10)), none⟩,
  ⟨some 33, (Op.move (Operand.tmp 9)), none⟩,
  ⟨some 34, (Op.binOp BinOp.and 5 (Operand.tmp 33) (Operand.const (Value.int IntKind.u8 32)) 5), none⟩,
  ⟨some 35, (Op.binOp BinOp.neq 5 (Operand.tmp 34) (Operand.const (Value.int IntKind.u8 0)) 5), none⟩,
  ⟨some 36, (Op.move (Operand.tmp 1)), none⟩,
  ⟨none, (Op.store 41 (Operand.tmp 6) (Operand.tmp 32)), none⟩,
  ⟨some 7, (Op.assign (Operand.tmp 35)), none⟩,
  ⟨some 8, (Op.assign (Operand.tmp 36)), none⟩])
 .ret) .skip))
 (.seq (.reg [⟨some 37, (Op.fieldAddr 41 (Operand.tmp 10) 1), none⟩,
  ⟨none, (Op.store 3 (Operand.tmp 37) (Operand.const (Value.int IntKind.i64 0))), none⟩])
 (.block 0 (.loop (.seq (.block 1 (.seq (.reg [⟨some 40, (Op.move (Operand.tmp 1)), none⟩,
  ⟨some 41, (Op.move (Operand.tmp 2)), none⟩,
  ⟨some 42, (Op.call { callee := (Callee.value (Operand.func 70)), args := #[(Operand.tmp 40), (Operand.tmp 41)], argTypes := #[3, 3] }), none⟩])
 (.seq (.dr [⟨0, .F, ⟨some 43, (Op.fieldAddr 41 (Operand.tmp 10) 1), none⟩, [], false⟩,
  ⟨1, .R, ⟨some 44, (Op.load 3 (Operand.tmp 43)), none⟩, [], false⟩,
  ⟨2, .F, ⟨some 45, (Op.binOp BinOp.mul 3 (Operand.tmp 44) (Operand.const (Value.int IntKind.i64 128)) 3), none⟩, [], false⟩,
  ⟨3, .F, ⟨some 46, (Op.move (Operand.tmp 0)), none⟩, [], false⟩,
  ⟨4, .F, ⟨some 47, (Op.nilCheck (Operand.tmp 46)), none⟩, [], false⟩,
  ⟨5, .F, ⟨some 48, (Op.fieldAddr 100 (Operand.tmp 47) 0), none⟩, [], false⟩,
  ⟨6, .R, ⟨some 49, (Op.load 9 (Operand.tmp 48)), none⟩, [], false⟩,
  ⟨7, .F, ⟨some 50, (Op.move (Operand.tmp 1)), none⟩, [], false⟩,
  ⟨8, .F, ⟨some 51, (Op.index 9 (Operand.tmp 49) (Operand.tmp 50)), none⟩, [], false⟩,
  ⟨9, .F, ⟨some 52, (Op.binOp BinOp.and 5 (Operand.tmp 51) (Operand.const (Value.int IntKind.u8 127)) 5), none⟩, [], false⟩,
  ⟨10, .F, ⟨some 53, (Op.convert 5 3 (Operand.tmp 52)), none⟩, [], false⟩,
  ⟨11, .F, ⟨some 54, (Op.binOp BinOp.add 3 (Operand.tmp 45) (Operand.tmp 53) 3), none⟩, [], false⟩,
  ⟨12, .F, ⟨some 55, (Op.fieldAddr 41 (Operand.tmp 10) 1), none⟩, [], false⟩,
  ⟨13, .E, ⟨none, (Op.store 3 (Operand.tmp 55) (Operand.tmp 54)), none⟩, [], false⟩])
 (.seq (.seq (.reg [⟨some 56, (Op.fieldAddr 41 (Operand.tmp 10) 1), none⟩,
  ⟨some 57, (Op.load 3 (Operand.tmp 56)), none⟩,
  ⟨some 58, (Op.binOp BinOp.gtr 3 (Operand.tmp 57) (Operand.const (Value.int IntKind.i64 268435456)) 3), none⟩])
 (.cond (Operand.tmp 58) (.reg [⟨some 59, (Op.move (Operand.tmp 1)), none⟩,
  ⟨some 60, (Op.call { callee := (Callee.value (Operand.func 66)), args := #[(Operand.tmp 59), (Operand.const (Value.int IntKind.i64 25))], argTypes := #[3, 25] }), none⟩]) .skip))
 (.seq (.reg [⟨some 61, (Op.move (Operand.tmp 0)), none⟩,
  ⟨some 62, (Op.nilCheck (Operand.tmp 61)), none⟩,
  ⟨some 63, (Op.fieldAddr 100 (Operand.tmp 62) 0), none⟩,
  ⟨some 64, (Op.load 9 (Operand.tmp 63)), none⟩,
  ⟨some 65, (Op.move (Operand.tmp 1)), none⟩,
  ⟨some 66, (Op.index 9 (Operand.tmp 64) (Operand.tmp 65)), none⟩,
  ⟨some 67, (Op.binOp BinOp.and 5 (Operand.tmp 66) (Operand.const (Value.int IntKind.u8 128)) 5), none⟩,
  ⟨some 68, (Op.binOp BinOp.eql 5 (Operand.tmp 67) (Operand.const (Value.int IntKind.u8 0)) 5), none⟩])
 (.cond (Operand.tmp 68) (.seq (.reg [⟨some 69, (Op.load 41 (Operand.tmp 10)), none⟩,
  ⟨some 70, (Op.move (Operand.tmp 9)), none⟩,
  ⟨some 71, (Op.binOp BinOp.and 5 (Operand.tmp 70) (Operand.const (Value.int IntKind.u8 32)) 5), none⟩,
  ⟨some 72, (Op.binOp BinOp.neq 5 (Operand.tmp 71) (Operand.const (Value.int IntKind.u8 0)) 5), none⟩,
  ⟨some 73, (Op.move (Operand.tmp 1)), none⟩,
  ⟨some 74, (Op.binOp BinOp.add 3 (Operand.tmp 73) (Operand.const (Value.int IntKind.i64 1)) 3), none⟩,
  ⟨none, (Op.store 41 (Operand.tmp 6) (Operand.tmp 69)), none⟩,
  ⟨some 7, (Op.assign (Operand.tmp 72)), none⟩,
  ⟨some 8, (Op.assign (Operand.tmp 74)), none⟩])
 .ret) .skip))))))
 (.reg [⟨some 38, (Op.move (Operand.tmp 1)), none⟩,
  ⟨some 39, (Op.binOp BinOp.add 3 (Operand.tmp 38) (Operand.const (Value.int IntKind.i64 1)) 3), none⟩,
  ⟨some 1, (Op.assign (Operand.tmp 39)), none⟩])))))))))))
theorem fn64 : FnFact Try.prog 64 75 [(10, [(0, 0), (1, 3), (2, 0), (3, 0), (4, 0), (5, 0), (6, 3), (7, 0), (8, 0), (9, 0), (10, 0), (11, 0), (12, 0), (13, 2)], [[], [0], [0, 1], [], [3], [3, 4], [3, 4, 5], [], [3, 4, 5, 6, 7], [3, 4, 5, 6, 7, 8], [3, 4, 5, 6, 7, 8, 9], [0, 1, 2, 3, 4, 5, 6, 7, 8, 9, 10], [0, 1, 2, 3, 4, 5, 6, 7, 8, 9, 10, 11], [0, 1, 2, 3, 4, 5, 6, 7, 8, 9, 10, 11, 12]])] [(ResultVar.cell 6 41), (ResultVar.tmp 7), (ResultVar.tmp 8)] cd64 := ⟨by kernel_rfl, ⟨Try.f64, Try.func64, by kernel_rfl, by rfl, Try.ntmps64, congrArg Array.toList Try.results64⟩⟩
/-- (*examiner/walk.reader).length -/
def cd65 : CC := (.seq (.reg [⟨some 8, (Op.assign (Operand.const (Value.int IntKind.i64 0))), none⟩,
  ⟨some 9, (Op.assign (Operand.const (Value.bool false))), none⟩,
  ⟨some 10, (Op.assign (Operand.const (Value.int IntKind.i64 0))), none⟩])
 (.seq (.reg [⟨some 14, (Op.move (Operand.tmp 1)), none⟩,
  ⟨some 15, (Op.move (Operand.tmp 2)), none⟩,
  ⟨some 16, (Op.call { callee := (Callee.value (Operand.func 70)), args := #[(Operand.tmp 14), (Operand.tmp 15)], argTypes := #[3, 3] }), none⟩])
 (.seq (.reg [⟨some 17, (Op.move (Operand.tmp 0)), none⟩,
  ⟨some 18, (Op.nilCheck (Operand.tmp 17)), none⟩,
  ⟨some 19, (Op.fieldAddr 100 (Operand.tmp 18) 0), none⟩,
  ⟨some 20, (Op.load 9 (Operand.tmp 19)), none⟩,
  ⟨some 21, (Op.move (Operand.tmp 1)), none⟩,
  ⟨some 22, (Op.index 9 (Operand.tmp 20) (Operand.tmp 21)), none⟩,
  ⟨some 23, (Op.convert 5 3 (Operand.tmp 22)), none⟩,
  ⟨some 11, (Op.assign (Operand.tmp 23)), none⟩])
 (.seq (.block 0 (.seq (.reg [⟨some 25, (Op.move (Operand.tmp 11)), none⟩,
  ⟨some 26, (Op.binOp BinOp.lss 3 (Operand.tmp 25) (Operand.const (Value.int IntKind.i64 128)) 3), none⟩,
  ⟨some 24, (Op.assign (Operand.tmp 26)), none⟩])
 (.cond (Operand.tmp 24) (.seq (.reg [⟨some 27, (Op.move (Operand.tmp 11)), none⟩,
  ⟨some 28, (Op.move (Operand.tmp 1)), none⟩,
  ⟨some 29, (Op.binOp BinOp.add 3 (Operand.tmp 28) (Operand.const (Value.int IntKind.i64 1)) 3), none⟩,
  ⟨some 8, (Op.assign (Operand.tmp 27)), none⟩,
  ⟨some 9, (Op.assign (Operand.const (Value.bool false))), none⟩,
  ⟨some 10, (Op.assign (Operand.tmp 29)), none⟩])
 .ret) (.seq (.seq (.reg [⟨some 31, (Op.move (Operand.tmp 11)), none⟩,
  ⟨some 32, (Op.binOp BinOp.eql 3 (Operand.tmp 31) (Operand.const (Value.int IntKind.i64 255)) 3), none⟩,
  ⟨some 30, (Op.assign (Operand.tmp 32)), none⟩])
 (.cond (Operand.tmp 30) .skip (.reg [⟨some 33, (Op.move (Operand.tmp 11)), none⟩,
  ⟨some 34, (Op.binOp BinOp.eql 3 (Operand.tmp 33) (Operand.const (Value.int IntKind.i64 128)) 3), none⟩,
  ⟨some 35, (Op.move (Operand.tmp 34)), none⟩,
  ⟨some 36, (Op.move (Operand.tmp 3)), some (35, true)⟩,
  ⟨some 37, (Op.unOp UnOp.not 4 (Operand.tmp 36)), some (35, true)⟩,
  ⟨some 38, (Op.pick (Operand.tmp 35) (Operand.tmp 37) (Operand.const (Value.bool false))), none⟩,
  ⟨some 30, (Op.assign (Operand.tmp 38)), none⟩])))
 (.cond (Operand.tmp 30) (.reg [⟨some 39, (Op.move (Operand.tmp 1)), none⟩,
  ⟨some 40, (Op.call { callee := (Callee.value (Operand.func 66)), args := #[(Operand.tmp 39), (Operand.const (Value.int IntKind.i64 19))], argTypes := #[3, 25] }), none⟩]) (.seq (.reg [⟨some 42, (Op.move (Operand.tmp 11)), none⟩,
  ⟨some 43, (Op.binOp BinOp.eql 3 (Operand.tmp 42) (Operand.const (Value.int IntKind.i64 128)) 3), none⟩,
  ⟨some 41, (Op.assign (Operand.tmp 43)), none⟩])
 (.cond (Operand.tmp 41) (.seq (.reg [⟨some 44, (Op.move (Operand.tmp 1)), none⟩,
  ⟨some 45, (Op.binOp BinOp.add 3 (Operand.tmp 44) (Operand.const (Value.int IntKind.i64 1)) 3), none⟩,
  ⟨some 8, (Op.assign (Operand.const (Value.int IntKind.i64 0))), none⟩,
  ⟨some 9, (Op.assign (Operand.const (Value.bool true))), none⟩,
  ⟨some 10, (Op.assign (Operand.tmp 45)), none⟩])
 .ret) .skip)))))))
 (.seq (.reg [⟨some 12, (Op.assign (Operand.const (Value.int IntKind.i64 0))), none⟩])
 (.seq (.seq (.reg [⟨some 46, (Op.move (Operand.tmp 11)), none⟩,
  ⟨some 47, (Op.binOp BinOp.sub 3 (Operand.tmp 46) (Operand.const (Value.int IntKind.i64 128)) 3), none⟩,
  ⟨some 48, (Op.move (Operand.const (Value.int IntKind.i64 0))), none⟩])
 (.block 1 (.loop (.seq (.reg [⟨some 49, (Op.binOp BinOp.lss 3 (Operand.tmp 48) (Operand.tmp 47) 3), none⟩])
 (.seq (.cond (Operand.tmp 49) .skip (.exit 1))
 (.seq (.block 2 (.seq (.reg [⟨some 50, (Op.move (Operand.tmp 48)), none⟩,
  ⟨some 13, (Op.assign (Operand.tmp 50)), none⟩])
 (.seq (.reg [⟨some 51, (Op.move (Operand.tmp 1)), none⟩,
  ⟨some 52, (Op.binOp BinOp.add 3 (Operand.tmp 51) (Operand.const (Value.int IntKind.i64 1)) 3), none⟩,
  ⟨some 53, (Op.move (Operand.tmp 13)), none⟩,
  ⟨some 54, (Op.binOp BinOp.add 3 (Operand.tmp 52) (Operand.tmp 53) 3), none⟩,
  ⟨some 55, (Op.move (Operand.tmp 2)), none⟩,
  ⟨some 56, (Op.call { callee := (Callee.value (Operand.func 70)), args := #[(Operand.tmp 54), (Operand.tmp 55)], argTypes := #[3, 3] }), none⟩])
 (.seq (.reg [⟨some 57, (Op.move (Operand.tmp 12)), none⟩,
  ⟨some 58, (Op.binOp BinOp.shl 3 (Operand.tmp 57) (Operand.const (Value.int IntKind.u64 8)) 83), none⟩,
  ⟨some 59, (Op.move (Operand.tmp 0)), none⟩,
  ⟨some 60, (Op.nilCheck (Operand.tmp 59)), none⟩,
  ⟨some 61, (Op.fieldAddr 100 (Operand.tmp 60) 0), none⟩,
  ⟨some 62, (Op.load 9 (Operand.tmp 61)), none⟩,
  ⟨some 63, (Op.move (Operand.tmp 1)), none⟩,
  ⟨some 64, (Op.binOp BinOp.add 3 (Operand.tmp 63) (Operand.const (Value.int IntKind.i64 1)) 3), none⟩,
  ⟨some 65, (Op.move (Operand.tmp 13)), none⟩,
  ⟨some 66, (Op.binOp BinOp.add 3 (Operand.tmp 64) (Operand.tmp 65) 3), none⟩,
  ⟨some 67, (Op.index 9 (Operand.tmp 62) (Operand.tmp 66)), none⟩,
  ⟨some 68, (Op.convert 5 3 (Operand.tmp 67)), none⟩,
  ⟨some 69, (Op.binOp BinOp.add 3 (Operand.tmp 58) (Operand.tmp 68) 3), none⟩,
  ⟨some 12, (Op.assign (Operand.tmp 69)), none⟩])
 (.seq (.reg [⟨some 70, (Op.move (Operand.tmp 12)), none⟩,
  ⟨some 71, (Op.binOp BinOp.gtr 3 (Operand.tmp 70) (Operand.const (Value.int IntKind.i64 4000)) 3), none⟩])
 (.cond (Operand.tmp 71) (.reg [⟨some 72, (Op.move (Operand.tmp 1)), none⟩,
  ⟨some 73, (Op.binOp BinOp.add 3 (Operand.tmp 72) (Operand.const (Value.int IntKind.i64 1)) 3), none⟩,
  ⟨some 74, (Op.move (Operand.tmp 13)), none⟩,
  ⟨some 75, (Op.binOp BinOp.add 3 (Operand.tmp 73) (Operand.tmp 74) 3), none⟩,
  ⟨some 76, (Op.call { callee := (Callee.value (Operand.func 66)), args := #[(Operand.tmp 75), (Operand.const (Value.int IntKind.i64 25))], argTypes := #[3, 25] }), none⟩]) .skip))))))
 (.reg [⟨some 77, (Op.binOp BinOp.add 3 (Operand.tmp 48) (Operand.const (Value.int IntKind.i64 1)) 3), none⟩,
  ⟨some 48, (Op.move (Operand.tmp 77)), none⟩])))))))
 (.seq (.reg [⟨some 78, (Op.move (Operand.tmp 12)), none⟩,
  ⟨some 79, (Op.move (Operand.tmp 1)), none⟩,
  ⟨some 80, (Op.binOp BinOp.add 3 (Operand.tmp 79) (Operand.const (Value.int IntKind.i64 1)) 3), none⟩,
  ⟨some 81, (Op.move (Operand.tmp 11)), none⟩,
  ⟨some 82, (Op.binOp BinOp.add 3 (Operand.tmp 80) (Operand.tmp 81) 3), none⟩,
  ⟨some 83, (Op.binOp BinOp.sub 3 (Operand.tmp 82) (Operand.const (Value.int IntKind.i64 128)) 3), none⟩,
  ⟨some 8, (Op.assign (Operand.tmp 78)), none⟩,
  ⟨some 9, (Op.assign (Operand.const (Value.bool false))), none⟩,
  ⟨some 10, (Op.assign (Operand.tmp 83)), none⟩])
 .ret)))))))
theorem fn65 : FnFact Try.prog 65 84 [] [(ResultVar.tmp 8), (ResultVar.tmp 9), (ResultVar.tmp 10)] cd65 := ⟨by kernel_rfl, ⟨Try.f65, Try.func65, by kernel_rfl, by rfl, Try.ntmps65, congrArg Array.toList Try.results65⟩⟩
/-- examiner/walk.fail -/
def cd66 : CC := (.reg [⟨some 4, (Op.move (Operand.tmp 0)), none⟩,
  ⟨some 5, (Op.move (Operand.tmp 1)), none⟩,
  ⟨some 6, (Op.build 96 #[(0, (Operand.tmp 4)), (1, (Operand.tmp 5))]), none⟩,
  ⟨some 7, (Op.makeInterface 96 (Operand.tmp 6)), none⟩,
  ⟨none, (Op.panic (Operand.tmp 7)), none⟩])
theorem fn66 : FnFact Try.prog 66 8 [] [] cd66 := ⟨by kernel_rfl, ⟨Try.f66, Try.func66, by kernel_rfl, by rfl, Try.ntmps66, congrArg Array.toList Try.results66⟩⟩
/-- (*examiner/walk.reader).until -/
def cd67 : CC := (.seq (.reg [⟨some 6, (Op.assign (Operand.const (Value.int IntKind.i64 0))), none⟩])
 (.seq (.reg [⟨some 9, (Op.move (Operand.tmp 1)), none⟩,
  ⟨some 10, (Op.nilCheck (Operand.tmp 9)), none⟩,
  ⟨some 11, (Op.fieldAddr 92 (Operand.tmp 10) 5), none⟩,
  ⟨some 12, (Op.load 3 (Operand.tmp 11)), none⟩,
  ⟨some 7, (Op.assign (Operand.tmp 12)), none⟩])
 (.block 0 (.loop (.block 1 (.seq (.seq (.reg [⟨some 13, (Op.move (Operand.tmp 7)), none⟩,
  ⟨some 14, (Op.binOp BinOp.add 3 (Operand.tmp 13) (Operand.const (Value.int IntKind.i64 1)) 3), none⟩,
  ⟨some 15, (Op.move (Operand.tmp 2)), none⟩,
  ⟨some 16, (Op.binOp BinOp.lss 3 (Operand.tmp 14) (Operand.tmp 15) 3), none⟩,
  ⟨some 17, (Op.move (Operand.tmp 16)), none⟩,
  ⟨some 18, (Op.move (Operand.tmp 0)), some (17, true)⟩,
  ⟨some 19, (Op.nilCheck (Operand.tmp 18)), some (17, true)⟩,
  ⟨some 20, (Op.fieldAddr 100 (Operand.tmp 19) 0), some (17, true)⟩,
  ⟨some 21, (Op.load 9 (Operand.tmp 20)), some (17, true)⟩,
  ⟨some 22, (Op.move (Operand.tmp 7)), some (17, true)⟩,
  ⟨some 23, (Op.index 9 (Operand.tmp 21) (Operand.tmp 22)), some (17, true)⟩,
  ⟨some 24, (Op.binOp BinOp.eql 5 (Operand.tmp 23) (Operand.const (Value.int IntKind.u8 0)) 5), some (17, true)⟩,
  ⟨some 25, (Op.pick (Operand.tmp 17) (Operand.tmp 24) (Operand.const (Value.bool false))), none⟩,
  ⟨some 26, (Op.move (Operand.tmp 25)), none⟩,
  ⟨some 27, (Op.move (Operand.tmp 0)), some (26, true)⟩,
  ⟨some 28, (Op.nilCheck (Operand.tmp 27)), some (26, true)⟩,
  ⟨some 29, (Op.fieldAddr 100 (Operand.tmp 28) 0), some (26, true)⟩,
  ⟨some 30, (Op.load 9 (Operand.tmp 29)), some (26, true)⟩,
  ⟨some 31, (Op.move (Operand.tmp 7)), some (26, true)⟩,
  ⟨some 32, (Op.binOp BinOp.add 3 (Operand.tmp 31) (Operand.const (Value.int IntKind.i64 1)) 3), some (26, true)⟩,
  ⟨some 33, (Op.index 9 (Operand.tmp 30) (Operand.tmp 32)), some (26, true)⟩,
  ⟨some 34, (Op.binOp BinOp.eql 5 (Operand.tmp 33) (Operand.const (Value.int IntKind.u8 0)) 5), some (26, true)⟩,
  ⟨some 35, (Op.pick (Operand.tmp 26) (Operand.tmp 34) (Operand.const (Value.bool false))), none⟩])
 (.cond (Operand.tmp 35) (.seq (.reg [⟨some 36, (Op.move (Operand.tmp 7)), none⟩,
  ⟨some 6, (Op.assign (Operand.tmp 36)), none⟩])
 .ret) .skip))
 (.seq (.seq (.reg [⟨some 37, (Op.move (Operand.tmp 7)), none⟩,
  ⟨some 38, (Op.move (Operand.tmp 2)), none⟩,
  ⟨some 39, (Op.binOp BinOp.geq 3 (Operand.tmp 37) (Operand.tmp 38) 3), none⟩])
 (.cond (Operand.tmp 39) (.reg [⟨some 40, (Op.move (Operand.tmp 2)), none⟩,
  ⟨some 41, (Op.call { callee := (Callee.value (Operand.func 66)), args := #[(Operand.tmp 40), (Operand.const (Value.int IntKind.i64 39))], argTypes := #[3, 25] }), none⟩]) .skip))
 (.seq (.reg [⟨some 42, (Op.move (Operand.tmp 0)), none⟩,
  ⟨some 43, (Op.move (Operand.tmp 7)), none⟩,
  ⟨some 44, (Op.move (Operand.tmp 2)), none⟩,
  ⟨some 45, (Op.move (Operand.tmp 1)), none⟩,
  ⟨some 46, (Op.nilCheck (Operand.tmp 45)), none⟩,
  ⟨some 47, (Op.fieldAddr 92 (Operand.tmp 46) 8), none⟩,
  ⟨some 48, (Op.load 3 (Operand.tmp 47)), none⟩,
  ⟨some 49, (Op.binOp BinOp.add 3 (Operand.tmp 48) (Operand.const (Value.int IntKind.i64 1)) 3), none⟩,
  ⟨some 50, (Op.call { callee := (Callee.value (Operand.func 56)), args := #[(Operand.tmp 42), (Operand.tmp 43), (Operand.tmp 44), (Operand.tmp 49)], argTypes := #[98, 3, 3, 3] }), none⟩,
  ⟨some 8, (Op.assign (Operand.tmp 50)), none⟩])
 (.dr [⟨0, .F, ⟨some 51, (Op.move (Operand.tmp 1)), none⟩, [], false⟩,
  ⟨1, .F, ⟨some 52, (Op.move (Operand.tmp 1)), none⟩, [], false⟩,
  ⟨2, .F, ⟨some 53, (Op.nilCheck (Operand.tmp 52)), none⟩, [], false⟩,
  ⟨3, .F, ⟨some 54, (Op.fieldAddr 92 (Operand.tmp 53) 9), none⟩, [], false⟩,
  ⟨4, .R, ⟨some 55, (Op.load 70 (Operand.tmp 54)), none⟩, [], false⟩,
  ⟨5, .F, ⟨some 56, (Op.move (Operand.tmp 8)), none⟩, [], false⟩,
  ⟨6, .F, ⟨some 57, (Op.buildSlice 70 1 #[(0, (Operand.tmp 56))]), none⟩, [], false⟩,
  ⟨8, .F, ⟨some 59, (Op.move (Operand.tmp 8)), none⟩, [], false⟩,
  ⟨9, .F, ⟨some 60, (Op.nilCheck (Operand.tmp 59)), none⟩, [], false⟩,
  ⟨10, .F, ⟨some 61, (Op.fieldAddr 92 (Operand.tmp 60) 7), none⟩, [], false⟩,
  ⟨11, .R, ⟨some 62, (Op.load 3 (Operand.tmp 61)), none⟩, [], false⟩,
  ⟨7, .E, ⟨some 58, (Op.call { callee := (Callee.builtin Builtin.append), args := #[(Operand.tmp 55), (Operand.tmp 57)], argTypes := #[70, 70] }), none⟩, [], true⟩,
  ⟨12, .F, ⟨some 63, (Op.nilCheck (Operand.tmp 51)), none⟩, [], false⟩,
  ⟨13, .F, ⟨some 64, (Op.fieldAddr 92 (Operand.tmp 63) 9), none⟩, [], false⟩,
  ⟨14, .E, ⟨none, (Op.store 70 (Operand.tmp 64) (Operand.tmp 58)), none⟩, [], false⟩,
  ⟨15, .F, ⟨some 7, (Op.assign (Operand.tmp 62)), none⟩, [], false⟩])))))))))
theorem fn67 : FnFact Try.prog 67 65 [(7, [(0, 0), (1, 0), (2, 0), (3, 0), (4, 3), (5, 0), (6, 0), (8, 0), (9, 0), (10, 0), (11, 3), (7, 4), (12, 0), (13, 0), (14, 2), (15, 0)], [[], [], [1], [1, 2], [1, 2, 3], [], [5], [1, 2, 3, 4, 5, 6], [], [8], [8, 9], [8, 9, 10], [0, 1, 2, 3, 4, 5, 6, 7, 8, 9, 10, 11], [0, 1, 2, 3, 4, 5, 6, 7, 8, 9, 10, 11, 12], [0, 1, 2, 3, 4, 5, 6, 7, 8, 9, 10, 11, 12, 13], [0, 1, 2, 3, 4, 5, 6, 7, 8, 9, 10, 11, 12, 13, 14]])] [(ResultVar.tmp 6)] cd67 := ⟨by kernel_rfl, ⟨Try.f67, Try.func67, by kernel_rfl, by rfl, Try.ntmps67, congrArg Array.toList Try.results67⟩⟩
/-- examiner/examinerref10.lengthOf -/
def cd69 : CC := (.seq (.reg [⟨some 4, (Op.assign (Operand.const (Value.string { data := #[] }))), none⟩])
 (.seq (.reg [⟨some 6, (Op.move (Operand.tmp 0)), none⟩,
  ⟨some 7, (Op.call { callee := (Callee.value (Operand.func 23)), args := #[(Operand.tmp 6)], argTypes := #[3] }), none⟩,
  ⟨some 5, (Op.assign (Operand.tmp 7)), none⟩])
 (.seq (.block 0 (.loop (.seq (.seq (.reg [⟨some 8, (Op.move (Operand.tmp 5)), none⟩,
  ⟨some 9, (Op.call { callee := (Callee.builtin Builtin.len), args := #[(Operand.tmp 8)], argTypes := #[9] }), none⟩,
  ⟨some 10, (Op.move (Operand.tmp 1)), none⟩,
  ⟨some 11, (Op.binOp BinOp.lss 3 (Operand.tmp 9) (Operand.tmp 10) 3), none⟩])
 (.cond (Operand.tmp 11) .skip (.exit 0)))
 (.block 1 (.seq (.seq (.reg [⟨some 12, (Op.move (Operand.tmp 5)), none⟩,
  ⟨some 13, (Op.call { callee := (Callee.builtin Builtin.len), args := #[(Operand.tmp 12)], argTypes := #[9] }), none⟩,
  ⟨some 14, (Op.binOp BinOp.eql 3 (Operand.tmp 13) (Operand.const (Value.int IntKind.i64 1)) 3), none⟩])
 (.cond (Operand.tmp 14) (.seq (.reg [⟨some 15, (Op.buildSlice 84 1 #[(0, (Operand.const (Value.int IntKind.u8 129)))]), none⟩,
  ⟨some 16, (Op.convert 84 9 (Operand.tmp 15)), none⟩,
  ⟨some 17, (Op.move (Operand.tmp 5)), none⟩,
  ⟨some 18, (Op.binOp BinOp.add 9 (Operand.tmp 16) (Operand.tmp 17) 9), none⟩,
  ⟨some 5, (Op.assign (Operand.tmp 18)), none⟩])
 (.exit 1)) .skip))
 (.dr [⟨0, .F, ⟨some 19, (Op.move (Operand.tmp 5)), none⟩, [], false⟩,
  ⟨1, .F, ⟨some 20, (Op.index 9 (Operand.tmp 19) (Operand.const (Value.int IntKind.i64 0))), none⟩, [], false⟩,
  ⟨2, .F, ⟨some 21, (Op.binOp BinOp.add 5 (Operand.tmp 20) (Operand.const (Value.int IntKind.u8 1)) 5), none⟩, [], false⟩,
  ⟨3, .F, ⟨some 22, (Op.buildSlice 84 2 #[(0, (Operand.tmp 21)), (1, (Operand.const (Value.int IntKind.u8 0)))]), none⟩, [], false⟩,
  ⟨4, .F, ⟨some 23, (Op.convert 84 9 (Operand.tmp 22)), none⟩, [], false⟩,
  ⟨5, .F, ⟨some 24, (Op.move (Operand.tmp 5)), none⟩, [], false⟩,
  ⟨6, .F, ⟨some 25, (Op.slice 9 (Operand.tmp 24) (some (Operand.const (Value.int IntKind.i64 1))) none none), none⟩, [], false⟩,
  ⟨7, .F, ⟨some 26, (Op.binOp BinOp.add 9 (Operand.tmp 23) (Operand.tmp 25) 9), none⟩, [], false⟩,
  ⟨8, .F, ⟨some 5, (Op.assign (Operand.tmp 26)), none⟩, [], false⟩]))))))
 (.seq (.reg [⟨some 27, (Op.move (Operand.tmp 5)), none⟩,
  ⟨some 4, (Op.assign (Operand.tmp 27)), none⟩])
 .ret))))
/-- examiner/walk.need -/
def cd70 : CC := (.seq (.reg [⟨some 4, (Op.move (Operand.tmp 0)), none⟩,
  ⟨some 5, (Op.move (Operand.tmp 1)), none⟩,
  ⟨some 6, (Op.binOp BinOp.geq 3 (Operand.tmp 4) (Operand.tmp 5) 3), none⟩])
 (.cond (Operand.tmp 6) (.reg [⟨some 7, (Op.move (Operand.tmp 1)), none⟩,
  ⟨some 8, (Op.call { callee := (Callee.value (Operand.func 66)), args := #[(Operand.tmp 7), (Operand.const (Value.int IntKind.i64 9))], argTypes := #[3, 25] }), none⟩]) .skip))
theorem fn70 : FnFact Try.prog 70 9 [] [] cd70 := ⟨by kernel_rfl, ⟨Try.f70, Try.func70, by kernel_rfl, by rfl, Try.ntmps70, congrArg Array.toList Try.results70⟩⟩
end Cd
end Go.Proofs.Ytmjjfdppaomcfaa

/- The code of functions without what an evaluation has no need of, by program. -/
namespace Go.Proofs.Ytmjjfdppaomcfaa
open Go Go.Proofs.Ytmjjfdppaomcfaa.Ab
namespace Cd
/-- examiner/examinerlaw10.WalkWrites -/
def cd5 : CC := (.seq (.reg [⟨some 3, (Op.box 41 (Operand.tmp 0)), none⟩,
  ⟨some 6, (Op.assign (Operand.const (Value.bool false))), none⟩])
 (.seq (.seq (.reg [⟨some 11, (Op.call { callee := (Callee.value (Operand.func 11)), args := #[], argTypes := #[] }), none⟩,
  ⟨some 12, (Op.unOp UnOp.not 4 (Operand.tmp 11)), none⟩])
 (.cond (Operand.tmp 12) (.seq (.reg [⟨some 6, (Op.assign (Operand.const (Value.bool false))), none⟩])
 .ret) .skip))
 (.seq (.reg [⟨some 14, (Op.load 41 (Operand.tmp 3)), none⟩,
  ⟨some 15, (Op.move (Operand.tmp 1)), none⟩,
  ⟨some 16, (Op.call { callee := (Callee.value (Operand.func 19)), args := #[(Operand.tmp 14), (Operand.tmp 15)], argTypes := #[41, 4] }), none⟩,
  ⟨some 13, (Op.move (Operand.tmp 16)), none⟩,
  ⟨some 17, (Op.extract (Operand.tmp 13) 0), none⟩,
  ⟨some 18, (Op.extract (Operand.tmp 13) 1), none⟩,
  ⟨some 7, (Op.assign (Operand.tmp 17)), none⟩,
  ⟨some 8, (Op.assign (Operand.tmp 18)), none⟩])
 (.seq (.seq (.reg [⟨some 19, (Op.fieldAddr 41 (Operand.tmp 3) 0), none⟩,
  ⟨some 20, (Op.load 3 (Operand.tmp 19)), none⟩,
  ⟨some 21, (Op.call { callee := (Callee.value (Operand.func 20)), args := #[(Operand.tmp 20), (Operand.const (Value.int IntKind.i64 0)), (Operand.const (Value.int IntKind.i64 3))], argTypes := #[3, 3, 3] }), none⟩,
  ⟨some 22, (Op.unOp UnOp.not 4 (Operand.tmp 21)), none⟩,
  ⟨some 23, (Op.move (Operand.tmp 22)), none⟩,
  ⟨some 24, (Op.fieldAddr 41 (Operand.tmp 3) 1), some (23, false)⟩,
  ⟨some 25, (Op.load 3 (Operand.tmp 24)), some (23, false)⟩,
  ⟨some 26, (Op.call { callee := (Callee.value (Operand.func 20)), args := #[(Operand.tmp 25), (Operand.const (Value.int IntKind.i64 0)), (Operand.const (Value.int IntKind.i64 268435456))], argTypes := #[3, 3, 3] }), some (23, false)⟩,
  ⟨some 27, (Op.unOp UnOp.not 4 (Operand.tmp 26)), some (23, false)⟩,
  ⟨some 28, (Op.pick (Operand.tmp 23) (Operand.const (Value.bool true)) (Operand.tmp 27)), none⟩])
 (.cond (Operand.tmp 28) (.seq (.reg [⟨some 29, (Op.move (Operand.tmp 8)), none⟩,
  ⟨some 30, (Op.binOp BinOp.neq 25 (Operand.tmp 29) (Operand.const (Value.int IntKind.i64 3)) 25), none⟩,
  ⟨some 31, (Op.move (Operand.tmp 30)), none⟩,
  ⟨some 32, (Op.move (Operand.tmp 7)), some (31, false)⟩,
  ⟨some 33, (Op.binOp BinOp.neq 9 (Operand.tmp 32) (Operand.const (Value.string { data := #[] })) 9), some (31, false)⟩,
  ⟨some 34, (Op.pick (Operand.tmp 31) (Operand.const (Value.bool true)) (Operand.tmp 33)), none⟩])
 (.cond (Operand.tmp 34) (.seq (.reg [⟨some 6, (Op.assign (Operand.const (Value.bool false))), none⟩])
 .ret) .skip)) (.seq (.reg [⟨some 35, (Op.move (Operand.tmp 8)), none⟩,
  ⟨some 36, (Op.binOp BinOp.neq 25 (Operand.tmp 35) (Operand.const (Value.int IntKind.i64 0)) 25), none⟩,
  ⟨some 37, (Op.move (Operand.tmp 36)), none⟩,
  ⟨some 38, (Op.move (Operand.tmp 7)), some (37, false)⟩,
  ⟨some 39, (Op.load 41 (Operand.tmp 3)), some (37, false)⟩,
  ⟨some 40, (Op.move (Operand.tmp 1)), some (37, false)⟩,
  ⟨some 41, (Op.call { callee := (Callee.value (Operand.func 21)), args := #[(Operand.tmp 39), (Operand.tmp 40)], argTypes := #[41, 4] }), some (37, false)⟩,
  ⟨some 42, (Op.binOp BinOp.neq 9 (Operand.tmp 38) (Operand.tmp 41) 9), some (37, false)⟩,
  ⟨some 43, (Op.pick (Operand.tmp 37) (Operand.const (Value.bool true)) (Operand.tmp 42)), none⟩])
 (.cond (Operand.tmp 43) (.seq (.reg [⟨some 6, (Op.assign (Operand.const (Value.bool false))), none⟩])
 .ret) .skip))))
 (.seq (.reg [⟨some 45, (Op.move (Operand.tmp 2)), none⟩,
  ⟨some 46, (Op.call { callee := (Callee.value (Operand.func 22)), args := #[(Operand.tmp 45)], argTypes := #[3] }), none⟩,
  ⟨some 44, (Op.move (Operand.tmp 46)), none⟩,
  ⟨some 47, (Op.extract (Operand.tmp 44) 0), none⟩,
  ⟨some 48, (Op.extract (Operand.tmp 44) 1), none⟩,
  ⟨some 9, (Op.assign (Operand.tmp 47)), none⟩,
  ⟨some 10, (Op.assign (Operand.tmp 48)), none⟩])
 (.seq (.seq (.reg [⟨some 49, (Op.move (Operand.tmp 2)), none⟩,
  ⟨some 50, (Op.call { callee := (Callee.value (Operand.func 20)), args := #[(Operand.tmp 49), (Operand.const (Value.int IntKind.i64 0)), (Operand.const (Value.int IntKind.i64 4000))], argTypes := #[3, 3, 3] }), none⟩,
  ⟨some 51, (Op.unOp UnOp.not 4 (Operand.tmp 50)), none⟩])
 (.cond (Operand.tmp 51) (.seq (.reg [⟨some 52, (Op.move (Operand.tmp 10)), none⟩,
  ⟨some 53, (Op.binOp BinOp.eql 25 (Operand.tmp 52) (Operand.const (Value.int IntKind.i64 3)) 25), none⟩,
  ⟨some 54, (Op.move (Operand.tmp 53)), none⟩,
  ⟨some 55, (Op.move (Operand.tmp 9)), some (54, true)⟩,
  ⟨some 56, (Op.binOp BinOp.eql 9 (Operand.tmp 55) (Operand.const (Value.string { data := #[] })) 9), some (54, true)⟩,
  ⟨some 57, (Op.pick (Operand.tmp 54) (Operand.tmp 56) (Operand.const (Value.bool false))), none⟩,
  ⟨some 6, (Op.assign (Operand.tmp 57)), none⟩])
 .ret) .skip))
 (.seq (.reg [⟨some 58, (Op.move (Operand.tmp 10)), none⟩,
  ⟨some 59, (Op.binOp BinOp.eql 25 (Operand.tmp 58) (Operand.const (Value.int IntKind.i64 0)) 25), none⟩,
  ⟨some 60, (Op.move (Operand.tmp 59)), none⟩,
  ⟨some 61, (Op.move (Operand.tmp 9)), some (60, true)⟩,
  ⟨some 62, (Op.move (Operand.tmp 2)), some (60, true)⟩,
  ⟨some 63, (Op.call { callee := (Callee.value (Operand.func 23)), args := #[(Operand.tmp 62)], argTypes := #[3] }), some (60, true)⟩,
  ⟨some 64, (Op.binOp BinOp.eql 9 (Operand.tmp 61) (Operand.tmp 63) 9), some (60, true)⟩,
  ⟨some 65, (Op.pick (Operand.tmp 60) (Operand.tmp 64) (Operand.const (Value.bool false))), none⟩,
  ⟨some 6, (Op.assign (Operand.tmp 65)), none⟩])
 .ret)))))))
/-- examiner/examinerlaw10.WalkWhole -/
def cd8 : CC := (.seq (.reg [⟨some 2, (Op.assign (Operand.const (Value.bool false))), none⟩])
 (.seq (.seq (.reg [⟨some 18, (Op.call { callee := (Callee.value (Operand.func 11)), args := #[], argTypes := #[] }), none⟩,
  ⟨some 19, (Op.unOp UnOp.not 4 (Operand.tmp 18)), none⟩])
 (.cond (Operand.tmp 19) (.seq (.reg [⟨some 2, (Op.assign (Operand.const (Value.bool false))), none⟩])
 .ret) .skip))
 (.seq (.seq (.reg [⟨some 20, (Op.move (Operand.tmp 0)), none⟩,
  ⟨some 21, (Op.call { callee := (Callee.value (Operand.func 12)), args := #[(Operand.tmp 20)], argTypes := #[9] }), none⟩,
  ⟨some 22, (Op.unOp UnOp.not 4 (Operand.tmp 21)), none⟩])
 (.cond (Operand.tmp 22) (.seq (.reg [⟨some 2, (Op.assign (Operand.const (Value.bool true))), none⟩])
 .ret) .skip))
 (.seq (.reg [⟨some 24, (Op.move (Operand.tmp 0)), none⟩,
  ⟨some 25, (Op.call { callee := (Callee.value (Operand.func 13)), args := #[(Operand.tmp 24)], argTypes := #[9] }), none⟩,
  ⟨some 23, (Op.move (Operand.tmp 25)), none⟩,
  ⟨some 26, (Op.extract (Operand.tmp 23) 0), none⟩,
  ⟨some 27, (Op.extract (Operand.tmp 23) 1), none⟩,
  ⟨some 28, (Op.extract (Operand.tmp 23) 2), none⟩,
  ⟨some 3, (Op.assign (Operand.tmp 26)), none⟩,
  ⟨some 4, (Op.assign (Operand.tmp 27)), none⟩,
  ⟨some 5, (Op.assign (Operand.tmp 28)), none⟩])
 (.seq (.seq (.reg [⟨some 29, (Op.move (Operand.tmp 5)), none⟩,
  ⟨some 30, (Op.binOp BinOp.neq 25 (Operand.tmp 29) (Operand.const (Value.int IntKind.i64 0)) 25), none⟩])
 (.cond (Operand.tmp 30) (.seq (.reg [⟨some 31, (Op.move (Operand.tmp 3)), none⟩,
  ⟨some 32, (Op.call { callee := (Callee.builtin Builtin.len), args := #[(Operand.tmp 31)], argTypes := #[24] }), none⟩,
  ⟨some 33, (Op.binOp BinOp.eql 3 (Operand.tmp 32) (Operand.const (Value.int IntKind.i64 0)) 3), none⟩,
  ⟨some 2, (Op.assign (Operand.tmp 33)), none⟩])
 .ret) .skip))
 (.seq (.reg [⟨some 6, (Op.assign (Operand.const (Value.int IntKind.i64 0))), none⟩])
 (.seq (.reg [⟨some 7, (Op.assign (Operand.const (Value.slice none 0 0))), none⟩])
 (.seq (.seq (.reg [⟨some 8, (Op.assign (Operand.const (Value.int IntKind.i64 0))), none⟩])
 (.block 0 (.loop (.seq (.seq (.reg [⟨some 34, (Op.move (Operand.tmp 8)), none⟩,
  ⟨some 35, (Op.move (Operand.tmp 3)), none⟩,
  ⟨some 36, (Op.call { callee := (Callee.builtin Builtin.len), args := #[(Operand.tmp 35)], argTypes := #[24] }), none⟩,
  ⟨some 37, (Op.binOp BinOp.lss 3 (Operand.tmp 34) (Operand.tmp 36) 3), none⟩])
 (.cond (Operand.tmp 37) .skip (.exit 0)))
 (.seq (.block 1 (.seq (.reg [⟨some 40, (Op.move (Operand.tmp 3)), none⟩,
  ⟨some 41, (Op.move (Operand.tmp 8)), none⟩,
  ⟨some 42, (Op.indexAddr 24 (Operand.tmp 40) (Operand.tmp 41)), none⟩,
  ⟨some 43, (Op.load 55 (Operand.tmp 42)), none⟩,
  ⟨some 9, (Op.alloc 55), none⟩,
  ⟨none, (Op.store 55 (Operand.tmp 9) (Operand.tmp 43)), none⟩])
 (.seq (.block 2 (.loop (.seq (.seq (.reg [⟨some 44, (Op.move (Operand.tmp 7)), none⟩,
  ⟨some 45, (Op.call { callee := (Callee.builtin Builtin.len), args := #[(Operand.tmp 44)], argTypes := #[33] }), none⟩,
  ⟨some 46, (Op.binOp BinOp.gtr 3 (Operand.tmp 45) (Operand.const (Value.int IntKind.i64 0)) 3), none⟩,
  ⟨some 47, (Op.move (Operand.tmp 46)), none⟩,
  ⟨some 48, (Op.move (Operand.tmp 7)), some (47, true)⟩,
  ⟨some 49, (Op.move (Operand.tmp 7)), some (47, true)⟩,
  ⟨some 50, (Op.call { callee := (Callee.builtin Builtin.len), args := #[(Operand.tmp 49)], argTypes := #[33] }), some (47, true)⟩,
  ⟨some 51, (Op.binOp BinOp.sub 3 (Operand.tmp 50) (Operand.const (Value.int IntKind.i64 1)) 3), some (47, true)⟩,
  ⟨some 52, (Op.indexAddr 33 (Operand.tmp 48) (Operand.tmp 51)), some (47, true)⟩,
  ⟨some 53, (Op.load 3 (Operand.tmp 52)), some (47, true)⟩,
  ⟨some 54, (Op.move (Operand.tmp 6)), some (47, true)⟩,
  ⟨some 55, (Op.binOp BinOp.eql 3 (Operand.tmp 53) (Operand.tmp 54) 3), some (47, true)⟩,
  ⟨some 56, (Op.pick (Operand.tmp 47) (Operand.tmp 55) (Operand.const (Value.bool false))), none⟩])
 (.cond (Operand.tmp 56) .skip (.exit 2)))
 (.block 3 (.seq (.reg [⟨some 57, (Op.move (Operand.tmp 7)), none⟩,
  ⟨some 58, (Op.call { callee := (Callee.builtin Builtin.len), args := #[(Operand.tmp 57)], argTypes := #[33] }), none⟩,
  ⟨some 59, (Op.binOp BinOp.sub 3 (Operand.tmp 58) (Operand.const (Value.int IntKind.i64 1)) 3), none⟩,
  ⟨some 10, (Op.assign (Operand.tmp 59)), none⟩])
 (.seq (.reg [⟨some 60, (Op.move (Operand.tmp 7)), none⟩,
  ⟨some 61, (Op.move (Operand.tmp 10)), none⟩,
  ⟨some 62, (Op.slice 33 (Operand.tmp 60) none (some (Operand.tmp 61)) none), none⟩,
  ⟨some 7, (Op.assign (Operand.tmp 62)), none⟩])
 (.reg [⟨some 63, (Op.move (Operand.tmp 3)), none⟩,
  ⟨some 64, (Op.move (Operand.tmp 8)), none⟩,
  ⟨some 65, (Op.slice 24 (Operand.tmp 63) none (some (Operand.tmp 64)) none), none⟩,
  ⟨some 66, (Op.move (Operand.tmp 10)), none⟩,
  ⟨some 67, (Op.call { callee := (Callee.value (Operand.func 31)), args := #[(Operand.tmp 65), (Operand.tmp 66)], argTypes := #[24, 3] }), none⟩,
  ⟨some 6, (Op.assign (Operand.tmp 67)), none⟩])))))))
 (.seq (.seq (.dr [⟨0, .F, ⟨some 68, (Op.fieldAddr 55 (Operand.tmp 9) 3), none⟩, [], false⟩,
  ⟨1, .R, ⟨some 69, (Op.load 3 (Operand.tmp 68)), none⟩, [], false⟩,
  ⟨2, .F, ⟨some 70, (Op.move (Operand.tmp 7)), none⟩, [], false⟩,
  ⟨3, .F, ⟨some 71, (Op.call { callee := (Callee.builtin Builtin.len), args := #[(Operand.tmp 70)], argTypes := #[33] }), none⟩, [], false⟩,
  ⟨4, .F, ⟨some 72, (Op.binOp BinOp.neq 3 (Operand.tmp 69) (Operand.tmp 71) 3), none⟩, [], false⟩,
  ⟨5, .F, ⟨some 73, (Op.move (Operand.tmp 72)), none⟩, [], false⟩,
  ⟨6, .F, ⟨some 74, (Op.fieldAddr 55 (Operand.tmp 9) 4), some (73, false)⟩, [], false⟩,
  ⟨7, .R, ⟨some 75, (Op.load 3 (Operand.tmp 74)), some (73, false)⟩, [], false⟩,
  ⟨8, .F, ⟨some 76, (Op.move (Operand.tmp 6)), some (73, false)⟩, [], false⟩,
  ⟨9, .F, ⟨some 77, (Op.binOp BinOp.neq 3 (Operand.tmp 75) (Operand.tmp 76) 3), some (73, false)⟩, [], false⟩,
  ⟨10, .F, ⟨some 78, (Op.pick (Operand.tmp 73) (Operand.const (Value.bool true)) (Operand.tmp 77)), none⟩, [], false⟩,
  ⟨11, .F, ⟨some 79, (Op.move (Operand.tmp 78)), none⟩, [], false⟩,
  ⟨12, .F, ⟨some 80, (Op.fieldAddr 55 (Operand.tmp 9) 5), some (79, false)⟩, [], false⟩,
  ⟨13, .R, ⟨some 81, (Op.load 3 (Operand.tmp 80)), some (79, false)⟩, [], false⟩,
  ⟨14, .F, ⟨some 82, (Op.fieldAddr 55 (Operand.tmp 9) 4), some (79, false)⟩, [], false⟩,
  ⟨15, .R, ⟨some 83, (Op.load 3 (Operand.tmp 82)), some (79, false)⟩, [], false⟩,
  ⟨16, .F, ⟨some 84, (Op.binOp BinOp.leq 3 (Operand.tmp 81) (Operand.tmp 83) 3), some (79, false)⟩, [], false⟩,
  ⟨17, .F, ⟨some 85, (Op.pick (Operand.tmp 79) (Operand.const (Value.bool true)) (Operand.tmp 84)), none⟩, [], false⟩,
  ⟨18, .F, ⟨some 86, (Op.move (Operand.tmp 85)), none⟩, [], false⟩,
  ⟨19, .F, ⟨some 87, (Op.fieldAddr 55 (Operand.tmp 9) 6), some (86, false)⟩, [], false⟩,
  ⟨20, .R, ⟨some 88, (Op.load 3 (Operand.tmp 87)), some (86, false)⟩, [], false⟩,
  ⟨21, .F, ⟨some 89, (Op.fieldAddr 55 (Operand.tmp 9) 5), some (86, false)⟩, [], false⟩,
  ⟨22, .R, ⟨some 90, (Op.load 3 (Operand.tmp 89)), some (86, false)⟩, [], false⟩,
  ⟨23, .F, ⟨some 91, (Op.binOp BinOp.lss 3 (Operand.tmp 88) (Operand.tmp 90) 3), some (86, false)⟩, [], false⟩,
  ⟨24, .F, ⟨some 92, (Op.pick (Operand.tmp 86) (Operand.const (Value.bool true)) (Operand.tmp 91)), none⟩, [], false⟩,
  ⟨25, .F, ⟨some 93, (Op.move (Operand.tmp 92)), none⟩, [], false⟩,
  ⟨26, .F, ⟨some 94, (Op.fieldAddr 55 (Operand.tmp 9) 7), some (93, false)⟩, [], false⟩,
  ⟨27, .R, ⟨some 95, (Op.load 3 (Operand.tmp 94)), some (93, false)⟩, [], false⟩,
  ⟨28, .F, ⟨some 96, (Op.fieldAddr 55 (Operand.tmp 9) 6), some (93, false)⟩, [], false⟩,
  ⟨29, .R, ⟨some 97, (Op.load 3 (Operand.tmp 96)), some (93, false)⟩, [], false⟩,
  ⟨30, .F, ⟨some 98, (Op.binOp BinOp.lss 3 (Operand.tmp 95) (Operand.tmp 97) 3), some (93, false)⟩, [], false⟩,
  ⟨31, .F, ⟨some 99, (Op.pick (Operand.tmp 93) (Operand.const (Value.bool true)) (Operand.tmp 98)), none⟩, [], false⟩,
  ⟨32, .F, ⟨some 100, (Op.move (Operand.tmp 99)), none⟩, [], false⟩,
  ⟨33, .F, ⟨some 101, (Op.fieldAddr 55 (Operand.tmp 9) 7), some (100, false)⟩, [], false⟩,
  ⟨34, .R, ⟨some 102, (Op.load 3 (Operand.tmp 101)), some (100, false)⟩, [], false⟩,
  ⟨35, .F, ⟨some 103, (Op.move (Operand.tmp 0)), some (100, false)⟩, [], false⟩,
  ⟨36, .F, ⟨some 104, (Op.call { callee := (Callee.builtin Builtin.len), args := #[(Operand.tmp 103)], argTypes := #[9] }), some (100, false)⟩, [], false⟩,
  ⟨37, .F, ⟨some 105, (Op.binOp BinOp.gtr 3 (Operand.tmp 102) (Operand.tmp 104) 3), some (100, false)⟩, [], false⟩,
  ⟨38, .F, ⟨some 106, (Op.pick (Operand.tmp 100) (Operand.const (Value.bool true)) (Operand.tmp 105)), none⟩, [], false⟩,
  ⟨39, .F, ⟨some 107, (Op.move (Operand.tmp 106)), none⟩, [], false⟩,
  ⟨40, .F, ⟨some 108, (Op.fieldAddr 55 (Operand.tmp 9) 7), some (107, false)⟩, [], false⟩,
  ⟨41, .R, ⟨some 109, (Op.load 3 (Operand.tmp 108)), some (107, false)⟩, [], false⟩,
  ⟨42, .F, ⟨some 110, (Op.fieldAddr 55 (Operand.tmp 9) 6), some (107, false)⟩, [], false⟩,
  ⟨43, .R, ⟨some 111, (Op.load 3 (Operand.tmp 110)), some (107, false)⟩, [], false⟩,
  ⟨44, .F, ⟨some 112, (Op.fieldAddr 55 (Operand.tmp 9) 2), some (107, false)⟩, [], false⟩,
  ⟨45, .R, ⟨some 113, (Op.load 4 (Operand.tmp 112)), some (107, false)⟩, [], false⟩,
  ⟨46, .E, ⟨some 114, (Op.call { callee := (Callee.value (Operand.func 32)), args := #[(Operand.tmp 113)], argTypes := #[4] }), some (107, false)⟩, [], true⟩,
  ⟨47, .F, ⟨some 115, (Op.binOp BinOp.mul 3 (Operand.const (Value.int IntKind.i64 2)) (Operand.tmp 114) 3), some (107, false)⟩, [], false⟩,
  ⟨48, .F, ⟨some 116, (Op.binOp BinOp.add 3 (Operand.tmp 111) (Operand.tmp 115) 3), some (107, false)⟩, [], false⟩,
  ⟨49, .F, ⟨some 117, (Op.binOp BinOp.neq 3 (Operand.tmp 109) (Operand.tmp 116) 3), some (107, false)⟩, [], false⟩,
  ⟨50, .F, ⟨some 118, (Op.pick (Operand.tmp 107) (Operand.const (Value.bool true)) (Operand.tmp 117)), none⟩, [], false⟩])
 (.cond (Operand.tmp 118) (.seq (.reg [⟨some 2, (Op.assign (Operand.const (Value.bool false))), none⟩])
 .ret) .skip))
 (.seq (.reg [⟨some 119, (Op.fieldAddr 55 (Operand.tmp 9) 7), none⟩,
  ⟨some 120, (Op.load 3 (Operand.tmp 119)), none⟩,
  ⟨some 6, (Op.assign (Operand.tmp 120)), none⟩])
 (.seq (.seq (.reg [⟨some 121, (Op.fieldAddr 55 (Operand.tmp 9) 1), none⟩,
  ⟨some 122, (Op.load 4 (Operand.tmp 121)), none⟩])
 (.cond (Operand.tmp 122) (.dr [⟨0, .F, ⟨some 123, (Op.move (Operand.tmp 7)), none⟩, [], false⟩,
  ⟨1, .F, ⟨some 124, (Op.fieldAddr 55 (Operand.tmp 9) 6), none⟩, [], false⟩,
  ⟨2, .R, ⟨some 125, (Op.load 3 (Operand.tmp 124)), none⟩, [], false⟩,
  ⟨3, .F, ⟨some 126, (Op.buildSlice 33 1 #[(0, (Operand.tmp 125))]), none⟩, [], false⟩,
  ⟨5, .F, ⟨some 128, (Op.fieldAddr 55 (Operand.tmp 9) 5), none⟩, [], false⟩,
  ⟨6, .R, ⟨some 129, (Op.load 3 (Operand.tmp 128)), none⟩, [], false⟩,
  ⟨4, .E, ⟨some 127, (Op.call { callee := (Callee.builtin Builtin.append), args := #[(Operand.tmp 123), (Operand.tmp 126)], argTypes := #[33, 33] }), none⟩, [], true⟩,
  ⟨7, .F, ⟨some 7, (Op.assign (Operand.tmp 127)), none⟩, [], false⟩,
  ⟨8, .F, ⟨some 6, (Op.assign (Operand.tmp 129)), none⟩, [], false⟩]) .skip))
 (.seq (.reg [⟨some 130, (Op.move (Operand.tmp 8)), none⟩,
  ⟨some 131, (Op.binOp BinOp.lss 3 (Operand.tmp 130) (Operand.const (Value.int IntKind.i64 12)) 3), none⟩])
 (.cond (Operand.tmp 131) (.seq (.reg [⟨some 133, (Op.move (Operand.tmp 0)), none⟩,
  ⟨some 134, (Op.fieldAddr 55 (Operand.tmp 9) 4), none⟩,
  ⟨some 135, (Op.load 3 (Operand.tmp 134)), none⟩,
  ⟨some 136, (Op.call { callee := (Callee.value (Operand.func 28)), args := #[(Operand.tmp 133), (Operand.tmp 135)], argTypes := #[9, 3] }), none⟩,
  ⟨some 132, (Op.move (Operand.tmp 136)), none⟩,
  ⟨some 137, (Op.extract (Operand.tmp 132) 0), none⟩,
  ⟨some 138, (Op.extract (Operand.tmp 132) 1), none⟩,
  ⟨some 11, (Op.assign (Operand.tmp 137)), none⟩,
  ⟨some 12, (Op.assign (Operand.tmp 138)), none⟩])
 (.seq (.reg [⟨some 140, (Op.move (Operand.tmp 0)), none⟩,
  ⟨some 141, (Op.move (Operand.tmp 11)), none⟩,
  ⟨some 142, (Op.call { callee := (Callee.value (Operand.func 17)), args := #[(Operand.tmp 141)], argTypes := #[33] }), none⟩,
  ⟨some 143, (Op.call { callee := (Callee.value (Operand.func 27)), args := #[(Operand.tmp 140), (Operand.tmp 142)], argTypes := #[9, 33] }), none⟩,
  ⟨some 139, (Op.move (Operand.tmp 143)), none⟩,
  ⟨some 144, (Op.extract (Operand.tmp 139) 0), none⟩,
  ⟨some 145, (Op.extract (Operand.tmp 139) 1), none⟩,
  ⟨some 13, (Op.alloc 55), none⟩,
  ⟨none, (Op.store 55 (Operand.tmp 13) (Operand.tmp 144)), none⟩,
  ⟨some 14, (Op.assign (Operand.tmp 145)), none⟩])
 (.seq (.dr [⟨0, .F, ⟨some 147, (Op.move (Operand.tmp 0)), none⟩, [], false⟩,
  ⟨1, .F, ⟨some 148, (Op.move (Operand.tmp 11)), none⟩, [], false⟩,
  ⟨3, .F, ⟨some 150, (Op.move (Operand.tmp 0)), none⟩, [], false⟩,
  ⟨4, .F, ⟨some 151, (Op.fieldAddr 55 (Operand.tmp 9) 4), none⟩, [], false⟩,
  ⟨5, .R, ⟨some 152, (Op.load 3 (Operand.tmp 151)), none⟩, [], false⟩,
  ⟨6, .F, ⟨some 153, (Op.fieldAddr 55 (Operand.tmp 9) 7), none⟩, [], false⟩,
  ⟨7, .R, ⟨some 154, (Op.load 3 (Operand.tmp 153)), none⟩, [], false⟩,
  ⟨8, .F, ⟨some 155, (Op.slice 9 (Operand.tmp 150) (some (Operand.tmp 152)) (some (Operand.tmp 154)) none), none⟩, [], false⟩,
  ⟨2, .E, ⟨some 149, (Op.call { callee := (Callee.value (Operand.func 17)), args := #[(Operand.tmp 148)], argTypes := #[33] }), none⟩, [], true⟩,
  ⟨9, .E, ⟨some 156, (Op.call { callee := (Callee.value (Operand.func 16)), args := #[(Operand.tmp 147), (Operand.tmp 149), (Operand.tmp 155)], argTypes := #[9, 33, 9] }), none⟩, [], false⟩,
  ⟨10, .F, ⟨some 146, (Op.move (Operand.tmp 156)), none⟩, [], false⟩,
  ⟨11, .F, ⟨some 157, (Op.extract (Operand.tmp 146) 0), none⟩, [], false⟩,
  ⟨12, .F, ⟨some 158, (Op.extract (Operand.tmp 146) 1), none⟩, [], false⟩,
  ⟨13, .F, ⟨some 15, (Op.assign (Operand.tmp 157)), none⟩, [], false⟩,
  ⟨14, .F, ⟨some 16, (Op.assign (Operand.tmp 158)), none⟩, [], false⟩])
 (.seq (.reg [⟨some 159, (Op.move (Operand.tmp 12)), none⟩,
  ⟨some 160, (Op.binOp BinOp.neq 25 (Operand.tmp 159) (Operand.const (Value.int IntKind.i64 0)) 25), none⟩,
  ⟨some 161, (Op.move (Operand.tmp 160)), none⟩,
  ⟨some 162, (Op.move (Operand.tmp 14)), some (161, false)⟩,
  ⟨some 163, (Op.binOp BinOp.neq 25 (Operand.tmp 162) (Operand.const (Value.int IntKind.i64 0)) 25), some (161, false)⟩,
  ⟨some 164, (Op.pick (Operand.tmp 161) (Operand.const (Value.bool true)) (Operand.tmp 163)), none⟩,
  ⟨some 165, (Op.move (Operand.tmp 164)), none⟩,
  ⟨some 166, (Op.load 55 (Operand.tmp 13)), some (165, false)⟩,
  ⟨some 167, (Op.load 55 (Operand.tmp 9)), some (165, false)⟩,
  ⟨some 168, (Op.binOp BinOp.neq 55 (Operand.tmp 166) (Operand.tmp 167) 55), some (165, false)⟩,
  ⟨some 169, (Op.pick (Operand.tmp 165) (Operand.const (Value.bool true)) (Operand.tmp 168)), none⟩,
  ⟨some 170, (Op.move (Operand.tmp 169)), none⟩,
  ⟨some 171, (Op.move (Operand.tmp 16)), some (170, false)⟩,
  ⟨some 172, (Op.binOp BinOp.neq 25 (Operand.tmp 171) (Operand.const (Value.int IntKind.i64 0)) 25), some (170, false)⟩,
  ⟨some 173, (Op.pick (Operand.tmp 170) (Operand.const (Value.bool true)) (Operand.tmp 172)), none⟩,
  ⟨some 174, (Op.move (Operand.tmp 173)), none⟩,
  ⟨some 175, (Op.move (Operand.tmp 15)), some (174, false)⟩,
  ⟨some 176, (Op.move (Operand.tmp 0)), some (174, false)⟩,
  ⟨some 177, (Op.binOp BinOp.neq 9 (Operand.tmp 175) (Operand.tmp 176) 9), some (174, false)⟩,
  ⟨some 178, (Op.pick (Operand.tmp 174) (Operand.const (Value.bool true)) (Operand.tmp 177)), none⟩])
 (.cond (Operand.tmp 178) (.seq (.reg [⟨some 2, (Op.assign (Operand.const (Value.bool false))), none⟩])
 .ret) .skip))))) .skip))))))))
 (.reg [⟨some 38, (Op.move (Operand.tmp 8)), none⟩,
  ⟨some 39, (Op.binOp BinOp.add 3 (Operand.tmp 38) (Operand.const (Value.int IntKind.i64 1)) 3), none⟩,
  ⟨some 8, (Op.assign (Operand.tmp 39)), none⟩]))))))
 (.seq (.block 4 (.loop (.seq (.seq (.reg [⟨some 179, (Op.move (Operand.tmp 7)), none⟩,
  ⟨some 180, (Op.call { callee := (Callee.builtin Builtin.len), args := #[(Operand.tmp 179)], argTypes := #[33] }), none⟩,
  ⟨some 181, (Op.binOp BinOp.gtr 3 (Operand.tmp 180) (Operand.const (Value.int IntKind.i64 0)) 3), none⟩,
  ⟨some 182, (Op.move (Operand.tmp 181)), none⟩,
  ⟨some 183, (Op.move (Operand.tmp 7)), some (182, true)⟩,
  ⟨some 184, (Op.move (Operand.tmp 7)), some (182, true)⟩,
  ⟨some 185, (Op.call { callee := (Callee.builtin Builtin.len), args := #[(Operand.tmp 184)], argTypes := #[33] }), some (182, true)⟩,
  ⟨some 186, (Op.binOp BinOp.sub 3 (Operand.tmp 185) (Operand.const (Value.int IntKind.i64 1)) 3), some (182, true)⟩,
  ⟨some 187, (Op.indexAddr 33 (Operand.tmp 183) (Operand.tmp 186)), some (182, true)⟩,
  ⟨some 188, (Op.load 3 (Operand.tmp 187)), some (182, true)⟩,
  ⟨some 189, (Op.move (Operand.tmp 6)), some (182, true)⟩,
  ⟨some 190, (Op.binOp BinOp.eql 3 (Operand.tmp 188) (Operand.tmp 189) 3), some (182, true)⟩,
  ⟨some 191, (Op.pick (Operand.tmp 182) (Operand.tmp 190) (Operand.const (Value.bool false))), none⟩])
 (.cond (Operand.tmp 191) .skip (.exit 4)))
 (.block 5 (.seq (.reg [⟨some 192, (Op.move (Operand.tmp 7)), none⟩,
  ⟨some 193, (Op.call { callee := (Callee.builtin Builtin.len), args := #[(Operand.tmp 192)], argTypes := #[33] }), none⟩,
  ⟨some 194, (Op.binOp BinOp.sub 3 (Operand.tmp 193) (Operand.const (Value.int IntKind.i64 1)) 3), none⟩,
  ⟨some 17, (Op.assign (Operand.tmp 194)), none⟩])
 (.seq (.reg [⟨some 195, (Op.move (Operand.tmp 7)), none⟩,
  ⟨some 196, (Op.move (Operand.tmp 17)), none⟩,
  ⟨some 197, (Op.slice 33 (Operand.tmp 195) none (some (Operand.tmp 196)) none), none⟩,
  ⟨some 7, (Op.assign (Operand.tmp 197)), none⟩])
 (.reg [⟨some 198, (Op.move (Operand.tmp 3)), none⟩,
  ⟨some 199, (Op.move (Operand.tmp 17)), none⟩,
  ⟨some 200, (Op.call { callee := (Callee.value (Operand.func 31)), args := #[(Operand.tmp 198), (Operand.tmp 199)], argTypes := #[24, 3] }), none⟩,
  ⟨some 6, (Op.assign (Operand.tmp 200)), none⟩])))))))
 (.seq (.reg [⟨some 201, (Op.move (Operand.tmp 3)), none⟩,
  ⟨some 202, (Op.call { callee := (Callee.builtin Builtin.len), args := #[(Operand.tmp 201)], argTypes := #[24] }), none⟩,
  ⟨some 203, (Op.binOp BinOp.gtr 3 (Operand.tmp 202) (Operand.const (Value.int IntKind.i64 0)) 3), none⟩,
  ⟨some 204, (Op.move (Operand.tmp 203)), none⟩,
  ⟨some 205, (Op.move (Operand.tmp 7)), some (204, true)⟩,
  ⟨some 206, (Op.call { callee := (Callee.builtin Builtin.len), args := #[(Operand.tmp 205)], argTypes := #[33] }), some (204, true)⟩,
  ⟨some 207, (Op.binOp BinOp.eql 3 (Operand.tmp 206) (Operand.const (Value.int IntKind.i64 0)) 3), some (204, true)⟩,
  ⟨some 208, (Op.pick (Operand.tmp 204) (Operand.tmp 207) (Operand.const (Value.bool false))), none⟩,
  ⟨some 209, (Op.move (Operand.tmp 208)), none⟩,
  ⟨some 210, (Op.move (Operand.tmp 6)), some (209, true)⟩,
  ⟨some 211, (Op.move (Operand.tmp 0)), some (209, true)⟩,
  ⟨some 212, (Op.call { callee := (Callee.builtin Builtin.len), args := #[(Operand.tmp 211)], argTypes := #[9] }), some (209, true)⟩,
  ⟨some 213, (Op.binOp BinOp.eql 3 (Operand.tmp 210) (Operand.tmp 212) 3), some (209, true)⟩,
  ⟨some 214, (Op.pick (Operand.tmp 209) (Operand.tmp 213) (Operand.const (Value.bool false))), none⟩,
  ⟨some 2, (Op.assign (Operand.tmp 214)), none⟩])
 .ret))))))))))
theorem fn8 : FnFact Try.prog 8 215 [(18, [(0, 0), (1, 3), (2, 0), (3, 0), (4, 0), (5, 0), (6, 0), (7, 3), (8, 0), (9, 0), (10, 0), (11, 0), (12, 0), (13, 3), (14, 0), (15, 3), (16, 0), (17, 0), (18, 0), (19, 0), (20, 3), (21, 0), (22, 3), (23, 0), (24, 0), (25, 0), (26, 0), (27, 3), (28, 0), (29, 3), (30, 0), (31, 0), (32, 0), (33, 0), (34, 3), (35, 0), (36, 0), (37, 0), (38, 0), (39, 0), (40, 0), (41, 3), (42, 0), (43, 3), (44, 0), (45, 3), (46, 4), (47, 0), (48, 0), (49, 0), (50, 0)], [[], [0], [], [2], [0, 1, 2, 3], [0, 1, 2, 3, 4], [0, 1, 2, 3, 4, 5], [0, 1, 2, 3, 4, 5, 6], [0, 1, 2, 3, 4, 5], [0, 1, 2, 3, 4, 5, 6, 7, 8], [0, 1, 2, 3, 4, 5, 6, 7, 8, 9], [0, 1, 2, 3, 4, 5, 6, 7, 8, 9, 10], [0, 1, 2, 3, 4, 5, 6, 7, 8, 9, 10, 11], [0, 1, 2, 3, 4, 5, 6, 7, 8, 9, 10, 11, 12], [0, 1, 2, 3, 4, 5, 6, 7, 8, 9, 10, 11], [0, 1, 2, 3, 4, 5, 6, 7, 8, 9, 10, 11, 14], [0, 1, 2, 3, 4, 5, 6, 7, 8, 9, 10, 11, 12, 13, 14, 15], [0, 1, 2, 3, 4, 5, 6, 7, 8, 9, 10, 11, 12, 13, 14, 15, 16], [0, 1, 2, 3, 4, 5, 6, 7, 8, 9, 10, 11, 12, 13, 14, 15, 16, 17], [0, 1, 2, 3, 4, 5, 6, 7, 8, 9, 10, 11, 12, 13, 14, 15, 16, 17, 18], [0, 1, 2, 3, 4, 5, 6, 7, 8, 9, 10, 11, 12, 13, 14, 15, 16, 17, 18, 19], [0, 1, 2, 3, 4, 5, 6, 7, 8, 9, 10, 11, 12, 13, 14, 15, 16, 17, 18], [0, 1, 2, 3, 4, 5, 6, 7, 8, 9, 10, 11, 12, 13, 14, 15, 16, 17, 18, 21], [0, 1, 2, 3, 4, 5, 6, 7, 8, 9, 10, 11, 12, 13, 14, 15, 16, 17, 18, 19, 20, 21, 22], [0, 1, 2, 3, 4, 5, 6, 7, 8, 9, 10, 11, 12, 13, 14, 15, 16, 17, 18, 19, 20, 21, 22, 23], [0, 1, 2, 3, 4, 5, 6, 7, 8, 9, 10, 11, 12, 13, 14, 15, 16, 17, 18, 19, 20, 21, 22, 23, 24], [0, 1, 2, 3, 4, 5, 6, 7, 8, 9, 10, 11, 12, 13, 14, 15, 16, 17, 18, 19, 20, 21, 22, 23, 24, 25], [0, 1, 2, 3, 4, 5, 6, 7, 8, 9, 10, 11, 12, 13, 14, 15, 16, 17, 18, 19, 20, 21, 22, 23, 24, 25, 26], [0, 1, 2, 3, 4, 5, 6, 7, 8, 9, 10, 11, 12, 13, 14, 15, 16, 17, 18, 19, 20, 21, 22, 23, 24, 25], [0, 1, 2, 3, 4, 5, 6, 7, 8, 9, 10, 11, 12, 13, 14, 15, 16, 17, 18, 19, 20, 21, 22, 23, 24, 25, 28], [0, 1, 2, 3, 4, 5, 6, 7, 8, 9, 10, 11, 12, 13, 14, 15, 16, 17, 18, 19, 20, 21, 22, 23, 24, 25, 26, 27, 28, 29], [0, 1, 2, 3, 4, 5, 6, 7, 8, 9, 10, 11, 12, 13, 14, 15, 16, 17, 18, 19, 20, 21, 22, 23, 24, 25, 26, 27, 28, 29, 30], [0, 1, 2, 3, 4, 5, 6, 7, 8, 9, 10, 11, 12, 13, 14, 15, 16, 17, 18, 19, 20, 21, 22, 23, 24, 25, 26, 27, 28, 29, 30, 31], [0, 1, 2, 3, 4, 5, 6, 7, 8, 9, 10, 11, 12, 13, 14, 15, 16, 17, 18, 19, 20, 21, 22, 23, 24, 25, 26, 27, 28, 29, 30, 31, 32], [0, 1, 2, 3, 4, 5, 6, 7, 8, 9, 10, 11, 12, 13, 14, 15, 16, 17, 18, 19, 20, 21, 22, 23, 24, 25, 26, 27, 28, 29, 30, 31, 32, 33], [0, 1, 2, 3, 4, 5, 6, 7, 8, 9, 10, 11, 12, 13, 14, 15, 16, 17, 18, 19, 20, 21, 22, 23, 24, 25, 26, 27, 28, 29, 30, 31, 32], [0, 1, 2, 3, 4, 5, 6, 7, 8, 9, 10, 11, 12, 13, 14, 15, 16, 17, 18, 19, 20, 21, 22, 23, 24, 25, 26, 27, 28, 29, 30, 31, 32, 35], [0, 1, 2, 3, 4, 5, 6, 7, 8, 9, 10, 11, 12, 13, 14, 15, 16, 17, 18, 19, 20, 21, 22, 23, 24, 25, 26, 27, 28, 29, 30, 31, 32, 33, 34, 35, 36], [0, 1, 2, 3, 4, 5, 6, 7, 8, 9, 10, 11, 12, 13, 14, 15, 16, 17, 18, 19, 20, 21, 22, 23, 24, 25, 26, 27, 28, 29, 30, 31, 32, 33, 34, 35, 36, 37], [0, 1, 2, 3, 4, 5, 6, 7, 8, 9, 10, 11, 12, 13, 14, 15, 16, 17, 18, 19, 20, 21, 22, 23, 24, 25, 26, 27, 28, 29, 30, 31, 32, 33, 34, 35, 36, 37, 38], [0, 1, 2, 3, 4, 5, 6, 7, 8, 9, 10, 11, 12, 13, 14, 15, 16, 17, 18, 19, 20, 21, 22, 23, 24, 25, 26, 27, 28, 29, 30, 31, 32, 33, 34, 35, 36, 37, 38, 39], [0, 1, 2, 3, 4, 5, 6, 7, 8, 9, 10, 11, 12, 13, 14, 15, 16, 17, 18, 19, 20, 21, 22, 23, 24, 25, 26, 27, 28, 29, 30, 31, 32, 33, 34, 35, 36, 37, 38, 39, 40], [0, 1, 2, 3, 4, 5, 6, 7, 8, 9, 10, 11, 12, 13, 14, 15, 16, 17, 18, 19, 20, 21, 22, 23, 24, 25, 26, 27, 28, 29, 30, 31, 32, 33, 34, 35, 36, 37, 38, 39], [0, 1, 2, 3, 4, 5, 6, 7, 8, 9, 10, 11, 12, 13, 14, 15, 16, 17, 18, 19, 20, 21, 22, 23, 24, 25, 26, 27, 28, 29, 30, 31, 32, 33, 34, 35, 36, 37, 38, 39, 42], [0, 1, 2, 3, 4, 5, 6, 7, 8, 9, 10, 11, 12, 13, 14, 15, 16, 17, 18, 19, 20, 21, 22, 23, 24, 25, 26, 27, 28, 29, 30, 31, 32, 33, 34, 35, 36, 37, 38, 39], [0, 1, 2, 3, 4, 5, 6, 7, 8, 9, 10, 11, 12, 13, 14, 15, 16, 17, 18, 19, 20, 21, 22, 23, 24, 25, 26, 27, 28, 29, 30, 31, 32, 33, 34, 35, 36, 37, 38, 39, 44], [0, 1, 2, 3, 4, 5, 6, 7, 8, 9, 10, 11, 12, 13, 14, 15, 16, 17, 18, 19, 20, 21, 22, 23, 24, 25, 26, 27, 28, 29, 30, 31, 32, 33, 34, 35, 36, 37, 38, 39, 44, 45], [0, 1, 2, 3, 4, 5, 6, 7, 8, 9, 10, 11, 12, 13, 14, 15, 16, 17, 18, 19, 20, 21, 22, 23, 24, 25, 26, 27, 28, 29, 30, 31, 32, 33, 34, 35, 36, 37, 38, 39, 44, 45, 46], [0, 1, 2, 3, 4, 5, 6, 7, 8, 9, 10, 11, 12, 13, 14, 15, 16, 17, 18, 19, 20, 21, 22, 23, 24, 25, 26, 27, 28, 29, 30, 31, 32, 33, 34, 35, 36, 37, 38, 39, 42, 43, 44, 45, 46, 47], [0, 1, 2, 3, 4, 5, 6, 7, 8, 9, 10, 11, 12, 13, 14, 15, 16, 17, 18, 19, 20, 21, 22, 23, 24, 25, 26, 27, 28, 29, 30, 31, 32, 33, 34, 35, 36, 37, 38, 39, 40, 41, 42, 43, 44, 45, 46, 47, 48], [0, 1, 2, 3, 4, 5, 6, 7, 8, 9, 10, 11, 12, 13, 14, 15, 16, 17, 18, 19, 20, 21, 22, 23, 24, 25, 26, 27, 28, 29, 30, 31, 32, 33, 34, 35, 36, 37, 38, 39, 40, 41, 42, 43, 44, 45, 46, 47, 48, 49]]), (22, [(0, 0), (1, 0), (2, 3), (3, 0), (5, 0), (6, 3), (4, 4), (7, 0), (8, 0)], [[], [], [1], [1, 2], [0, 1, 2, 3], [], [5], [0, 1, 2, 3, 4], [0, 1, 2, 3, 4, 5, 6, 7]]), (26, [(0, 0), (1, 0), (3, 0), (4, 0), (5, 3), (6, 0), (7, 3), (8, 0), (2, 4), (9, 2), (10, 0), (11, 0), (12, 0), (13, 0), (14, 0)], [[], [], [1], [], [], [4], [], [6], [3, 4, 5, 6, 7], [0, 1, 2, 3, 4, 5, 6, 7, 8], [0, 1, 2, 3, 4, 5, 6, 7, 8, 9], [0, 1, 2, 3, 4, 5, 6, 7, 8, 9, 10], [0, 1, 2, 3, 4, 5, 6, 7, 8, 9, 10], [0, 1, 2, 3, 4, 5, 6, 7, 8, 9, 10, 11], [0, 1, 2, 3, 4, 5, 6, 7, 8, 9, 10, 11, 12, 13]])] [(ResultVar.tmp 2)] cd8 := ⟨by kernel_rfl, ⟨Try.f8, Try.func8, by kernel_rfl, by rfl, Try.ntmps8, congrArg Array.toList Try.results8⟩⟩
/-- examiner/examinerlaw10.awake -/
def cd11 : CC := (.seq (.reg [⟨some 0, (Op.assign (Operand.const (Value.bool false))), none⟩])
 (.seq (.reg [⟨some 7, (Op.call { callee := (Callee.value (Operand.func 36)), args := #[], argTypes := #[] }), none⟩,
  ⟨some 8, (Op.call { callee := (Callee.value (Operand.func 13)), args := #[(Operand.tmp 7)], argTypes := #[9] }), none⟩,
  ⟨some 6, (Op.move (Operand.tmp 8)), none⟩,
  ⟨some 9, (Op.extract (Operand.tmp 6) 0), none⟩,
  ⟨some 10, (Op.extract (Operand.tmp 6) 1), none⟩,
  ⟨some 11, (Op.extract (Operand.tmp 6) 2), none⟩,
  ⟨some 1, (Op.assign (Operand.tmp 9)), none⟩,
  ⟨some 2, (Op.assign (Operand.tmp 10)), none⟩,
  ⟨some 3, (Op.assign (Operand.tmp 11)), none⟩])
 (.seq (.reg [⟨some 13, (Op.call { callee := (Callee.value (Operand.func 36)), args := #[], argTypes := #[] }), none⟩,
  ⟨some 14, (Op.buildSlice 33 2 #[(0, (Operand.const (Value.int IntKind.i64 0))), (1, (Operand.const (Value.int IntKind.i64 1)))]), none⟩,
  ⟨some 15, (Op.call { callee := (Callee.value (Operand.func 16)), args := #[(Operand.tmp 13), (Operand.tmp 14), (Operand.const (Value.string { data := #[5, 0] }))], argTypes := #[9, 33, 9] }), none⟩,
  ⟨some 12, (Op.move (Operand.tmp 15)), none⟩,
  ⟨some 16, (Op.extract (Operand.tmp 12) 0), none⟩,
  ⟨some 17, (Op.extract (Operand.tmp 12) 1), none⟩,
  ⟨some 4, (Op.assign (Operand.tmp 16)), none⟩,
  ⟨some 5, (Op.assign (Operand.tmp 17)), none⟩])
 (.seq (.reg [⟨some 18, (Op.move (Operand.tmp 3)), none⟩,
  ⟨some 19, (Op.binOp BinOp.eql 25 (Operand.tmp 18) (Operand.const (Value.int IntKind.i64 0)) 25), none⟩,
  ⟨some 20, (Op.move (Operand.tmp 19)), none⟩,
  ⟨some 21, (Op.move (Operand.tmp 1)), some (20, true)⟩,
  ⟨some 22, (Op.call { callee := (Callee.builtin Builtin.len), args := #[(Operand.tmp 21)], argTypes := #[24] }), some (20, true)⟩,
  ⟨some 23, (Op.binOp BinOp.eql 3 (Operand.tmp 22) (Operand.const (Value.int IntKind.i64 3)) 3), some (20, true)⟩,
  ⟨some 24, (Op.pick (Operand.tmp 20) (Operand.tmp 23) (Operand.const (Value.bool false))), none⟩,
  ⟨some 25, (Op.move (Operand.tmp 24)), none⟩,
  ⟨some 26, (Op.move (Operand.tmp 1)), some (25, true)⟩,
  ⟨some 27, (Op.indexAddr 24 (Operand.tmp 26) (Operand.const (Value.int IntKind.i64 1))), some (25, true)⟩,
  ⟨some 28, (Op.fieldAddr 55 (Operand.tmp 27) 3), some (25, true)⟩,
  ⟨some 29, (Op.load 3 (Operand.tmp 28)), some (25, true)⟩,
  ⟨some 30, (Op.binOp BinOp.eql 3 (Operand.tmp 29) (Operand.const (Value.int IntKind.i64 1)) 3), some (25, true)⟩,
  ⟨some 31, (Op.pick (Operand.tmp 25) (Operand.tmp 30) (Operand.const (Value.bool false))), none⟩,
  ⟨some 32, (Op.move (Operand.tmp 31)), none⟩,
  ⟨some 33, (Op.move (Operand.tmp 5)), some (32, true)⟩,
  ⟨some 34, (Op.binOp BinOp.eql 25 (Operand.tmp 33) (Operand.const (Value.int IntKind.i64 0)) 25), some (32, true)⟩,
  ⟨some 35, (Op.pick (Operand.tmp 32) (Operand.tmp 34) (Operand.const (Value.bool false))), none⟩,
  ⟨some 36, (Op.move (Operand.tmp 35)), none⟩,
  ⟨some 37, (Op.move (Operand.tmp 4)), some (36, true)⟩,
  ⟨some 38, (Op.binOp BinOp.eql 9 (Operand.tmp 37) (Operand.const (Value.string { data := #[48, 5, 2, 1, 5, 5, 0] })) 9), some (36, true)⟩,
  ⟨some 39, (Op.pick (Operand.tmp 36) (Operand.tmp 38) (Operand.const (Value.bool false))), none⟩,
  ⟨some 0, (Op.assign (Operand.tmp 39)), none⟩])
 .ret))))
theorem fn11 : FnFact Try.prog 11 40 [] [(ResultVar.tmp 0)] cd11 := ⟨by kernel_rfl, ⟨Try.f11, Try.func11, by kernel_rfl, by rfl, Try.ntmps11, congrArg Array.toList Try.results11⟩⟩
/-- examiner/examinerlaw10.small -/
def cd12 : CC := (.seq (.reg [⟨some 2, (Op.assign (Operand.const (Value.bool false))), none⟩])
 (.seq (.reg [⟨some 3, (Op.move (Operand.tmp 0)), none⟩,
  ⟨some 4, (Op.call { callee := (Callee.builtin Builtin.len), args := #[(Operand.tmp 3)], argTypes := #[9] }), none⟩,
  ⟨some 5, (Op.binOp BinOp.leq 3 (Operand.tmp 4) (Operand.const (Value.int IntKind.i64 400)) 3), none⟩,
  ⟨some 6, (Op.move (Operand.tmp 5)), none⟩,
  ⟨some 7, (Op.move (Operand.tmp 0)), some (6, false)⟩,
  ⟨some 8, (Op.call { callee := (Callee.builtin Builtin.len), args := #[(Operand.tmp 7)], argTypes := #[9] }), some (6, false)⟩,
  ⟨some 9, (Op.binOp BinOp.gtr 3 (Operand.tmp 8) (Operand.const (Value.int IntKind.i64 4000)) 3), some (6, false)⟩,
  ⟨some 10, (Op.move (Operand.tmp 9)), some (6, false)⟩,
  ⟨some 11, (Op.move (Operand.tmp 0)), some (10, true)⟩,
  ⟨some 12, (Op.call { callee := (Callee.builtin Builtin.len), args := #[(Operand.tmp 11)], argTypes := #[9] }), some (10, true)⟩,
  ⟨some 13, (Op.binOp BinOp.lss 3 (Operand.tmp 12) (Operand.const (Value.int IntKind.i64 4050)) 3), some (10, true)⟩,
  ⟨some 14, (Op.pick (Operand.tmp 10) (Operand.tmp 13) (Operand.const (Value.bool false))), some (6, false)⟩,
  ⟨some 15, (Op.pick (Operand.tmp 6) (Operand.const (Value.bool true)) (Operand.tmp 14)), none⟩,
  ⟨some 2, (Op.assign (Operand.tmp 15)), none⟩])
 .ret))
theorem fn12 : FnFact Try.prog 12 16 [] [(ResultVar.tmp 2)] cd12 := ⟨by kernel_rfl, ⟨Try.f12, Try.func12, by kernel_rfl, by rfl, Try.ntmps12, congrArg Array.toList Try.results12⟩⟩
/-- examiner/walk.Walked -/
def cd13 : CC := (.seq (.reg [⟨some 2, (Op.assign (Operand.const (Value.slice none 0 0))), none⟩,
  ⟨some 3, (Op.assign (Operand.const (Value.int IntKind.i64 0))), none⟩,
  ⟨some 4, (Op.assign (Operand.const (Value.int IntKind.i64 0))), none⟩])
 (.seq (.reg [⟨some 10, (Op.move (Operand.tmp 0)), none⟩,
  ⟨some 11, (Op.call { callee := (Callee.value (Operand.func 37)), args := #[(Operand.tmp 10)], argTypes := #[9] }), none⟩,
  ⟨some 9, (Op.move (Operand.tmp 11)), none⟩,
  ⟨some 12, (Op.extract (Operand.tmp 9) 0), none⟩,
  ⟨some 13, (Op.extract (Operand.tmp 9) 1), none⟩,
  ⟨some 14, (Op.extract (Operand.tmp 9) 2), none⟩,
  ⟨some 5, (Op.assign (Operand.tmp 12)), none⟩,
  ⟨some 6, (Op.assign (Operand.tmp 13)), none⟩,
  ⟨some 7, (Op.assign (Operand.tmp 14)), none⟩])
 (.seq (.seq (.reg [⟨some 15, (Op.move (Operand.tmp 7)), none⟩,
  ⟨some 16, (Op.binOp BinOp.neq 25 (Operand.tmp 15) (Operand.const (Value.int IntKind.i64 0)) 25), none⟩])
 (.cond (Operand.tmp 16) (.seq (.reg [⟨some 17, (Op.move (Operand.tmp 6)), none⟩,
  ⟨some 18, (Op.move (Operand.tmp 7)), none⟩,
  ⟨some 2, (Op.assign (Operand.const (Value.slice none 0 0))), none⟩,
  ⟨some 3, (Op.assign (Operand.tmp 17)), none⟩,
  ⟨some 4, (Op.assign (Operand.tmp 18)), none⟩])
 .ret) .skip))
 (.seq (.reg [⟨some 8, (Op.alloc 24), none⟩])
 (.seq (.reg [⟨some 19, (Op.move (Operand.tmp 5)), none⟩,
  ⟨some 20, (Op.makeFunc (Fn.func 39) #[] #[(Operand.tmp 8)]), none⟩,
  ⟨some 21, (Op.call { callee := (Callee.value (Operand.func 38)), args := #[(Operand.tmp 19), (Operand.tmp 20)], argTypes := #[70, 76] }), none⟩])
 (.seq (.reg [⟨some 22, (Op.load 24 (Operand.tmp 8)), none⟩,
  ⟨some 2, (Op.assign (Operand.tmp 22)), none⟩,
  ⟨some 3, (Op.assign (Operand.const (Value.int IntKind.i64 0))), none⟩,
  ⟨some 4, (Op.assign (Operand.const (Value.int IntKind.i64 0))), none⟩])
 .ret))))))
theorem fn13 : FnFact Try.prog 13 23 [] [(ResultVar.tmp 2), (ResultVar.tmp 3), (ResultVar.tmp 4)] cd13 := ⟨by kernel_rfl, ⟨Try.f13, Try.func13, by kernel_rfl, by rfl, Try.ntmps13, congrArg Array.toList Try.results13⟩⟩
/-- examiner/examinerref10.Read -/
def cd14 : CC := (.seq (.reg [⟨some 2, (Op.assign (Operand.const (Value.pointer none))), none⟩])
 (.seq (.reg [⟨some 5, (Op.move (Operand.tmp 0)), none⟩,
  ⟨some 6, (Op.build 31 #[(0, (Operand.tmp 5))]), none⟩,
  ⟨some 7, (Op.box 31 (Operand.tmp 6)), none⟩,
  ⟨some 3, (Op.assign (Operand.tmp 7)), none⟩])
 (.seq (.seq (.reg [⟨some 8, (Op.move (Operand.tmp 0)), none⟩,
  ⟨some 9, (Op.call { callee := (Callee.builtin Builtin.len), args := #[(Operand.tmp 8)], argTypes := #[9] }), none⟩,
  ⟨some 10, (Op.binOp BinOp.gtr 3 (Operand.tmp 9) (Operand.const (Value.int IntKind.i64 4000)) 3), none⟩])
 (.cond (Operand.tmp 10) (.reg [⟨some 11, (Op.move (Operand.tmp 3)), none⟩,
  ⟨some 12, (Op.call { callee := (Callee.value (Operand.func 41)), args := #[(Operand.tmp 11), (Operand.const (Value.int IntKind.i64 0)), (Operand.const (Value.int IntKind.i64 2))], argTypes := #[28, 3, 3] }), none⟩]) (.seq (.reg [⟨some 13, (Op.move (Operand.tmp 0)), none⟩,
  ⟨some 14, (Op.call { callee := (Callee.builtin Builtin.len), args := #[(Operand.tmp 13)], argTypes := #[9] }), none⟩,
  ⟨some 15, (Op.binOp BinOp.eql 3 (Operand.tmp 14) (Operand.const (Value.int IntKind.i64 0)) 3), none⟩])
 (.cond (Operand.tmp 15) (.reg [⟨some 16, (Op.move (Operand.tmp 3)), none⟩,
  ⟨some 17, (Op.call { callee := (Callee.value (Operand.func 41)), args := #[(Operand.tmp 16), (Operand.const (Value.int IntKind.i64 0)), (Operand.const (Value.int IntKind.i64 1))], argTypes := #[28, 3, 3] }), none⟩]) .skip))))
 (.seq (.seq (.reg [⟨some 4, (Op.assign (Operand.const (Value.int IntKind.i64 0))), none⟩])
 (.block 0 (.loop (.seq (.seq (.reg [⟨some 18, (Op.move (Operand.tmp 4)), none⟩,
  ⟨some 19, (Op.move (Operand.tmp 0)), none⟩,
  ⟨some 20, (Op.call { callee := (Callee.builtin Builtin.len), args := #[(Operand.tmp 19)], argTypes := #[9] }), none⟩,
  ⟨some 21, (Op.binOp BinOp.lss 3 (Operand.tmp 18) (Operand.tmp 20) 3), none⟩,
  ⟨some 22, (Op.move (Operand.tmp 21)), none⟩,
  ⟨some 23, (Op.move (Operand.tmp 3)), some (22, true)⟩,
  ⟨some 24, (Op.nilCheck (Operand.tmp 23)), some (22, true)⟩,
  ⟨some 25, (Op.fieldAddr 31 (Operand.tmp 24) 3), some (22, true)⟩,
  ⟨some 26, (Op.load 3 (Operand.tmp 25)), some (22, true)⟩,
  ⟨some 27, (Op.binOp BinOp.eql 3 (Operand.tmp 26) (Operand.const (Value.int IntKind.i64 0)) 3), some (22, true)⟩,
  ⟨some 28, (Op.pick (Operand.tmp 22) (Operand.tmp 27) (Operand.const (Value.bool false))), none⟩])
 (.cond (Operand.tmp 28) .skip (.exit 0)))
 (.block 1 (.reg [⟨some 29, (Op.move (Operand.tmp 3)), none⟩,
  ⟨some 30, (Op.move (Operand.tmp 4)), none⟩,
  ⟨some 31, (Op.move (Operand.tmp 0)), none⟩,
  ⟨some 32, (Op.call { callee := (Callee.builtin Builtin.len), args := #[(Operand.tmp 31)], argTypes := #[9] }), none⟩,
  ⟨some 33, (Op.call { callee := (Callee.value (Operand.func 42)), args := #[(Operand.tmp 29), (Operand.tmp 30), (Operand.tmp 32), (Operand.const (Value.int IntKind.i64 0))], argTypes := #[28, 3, 3, 3] }), none⟩,
  ⟨some 4, (Op.assign (Operand.tmp 33)), none⟩]))))))
 (.seq (.seq (.reg [⟨some 34, (Op.move (Operand.tmp 3)), none⟩,
  ⟨some 35, (Op.nilCheck (Operand.tmp 34)), none⟩,
  ⟨some 36, (Op.fieldAddr 31 (Operand.tmp 35) 3), none⟩,
  ⟨some 37, (Op.load 3 (Operand.tmp 36)), none⟩,
  ⟨some 38, (Op.binOp BinOp.neq 3 (Operand.tmp 37) (Operand.const (Value.int IntKind.i64 0)) 3), none⟩])
 (.cond (Operand.tmp 38) (.reg [⟨some 39, (Op.move (Operand.tmp 3)), none⟩,
  ⟨some 40, (Op.nilCheck (Operand.tmp 39)), none⟩,
  ⟨some 41, (Op.fieldAddr 31 (Operand.tmp 40) 1), none⟩,
  ⟨none, (Op.store 24 (Operand.tmp 41) (Operand.const (Value.slice none 0 0))), none⟩]) .skip))
 (.seq (.reg [⟨some 42, (Op.move (Operand.tmp 3)), none⟩,
  ⟨some 2, (Op.assign (Operand.tmp 42)), none⟩])
 .ret))))))
/-- examiner/walk.Replaced -/
def cd16 : CC := (.seq (.reg [⟨some 6, (Op.assign (Operand.const (Value.string { data := #[] }))), none⟩,
  ⟨some 7, (Op.assign (Operand.const (Value.int IntKind.i64 0))), none⟩])
 (.seq (.reg [⟨some 22, (Op.move (Operand.tmp 0)), none⟩,
  ⟨some 23, (Op.call { callee := (Callee.value (Operand.func 37)), args := #[(Operand.tmp 22)], argTypes := #[9] }), none⟩,
  ⟨some 21, (Op.move (Operand.tmp 23)), none⟩,
  ⟨some 24, (Op.extract (Operand.tmp 21) 0), none⟩,
  ⟨some 25, (Op.extract (Operand.tmp 21) 1), none⟩,
  ⟨some 26, (Op.extract (Operand.tmp 21) 2), none⟩,
  ⟨some 8, (Op.assign (Operand.tmp 24)), none⟩,
  ⟨some 9, (Op.assign (Operand.tmp 25)), none⟩,
  ⟨some 10, (Op.assign (Operand.tmp 26)), none⟩])
 (.seq (.seq (.reg [⟨some 27, (Op.move (Operand.tmp 10)), none⟩,
  ⟨some 28, (Op.binOp BinOp.neq 25 (Operand.tmp 27) (Operand.const (Value.int IntKind.i64 0)) 25), none⟩])
 (.cond (Operand.tmp 28) (.seq (.reg [⟨some 29, (Op.move (Operand.tmp 10)), none⟩,
  ⟨some 6, (Op.assign (Operand.const (Value.string { data := #[] }))), none⟩,
  ⟨some 7, (Op.assign (Operand.tmp 29)), none⟩])
 .ret) .skip))
 (.seq (.reg [⟨some 31, (Op.move (Operand.tmp 8)), none⟩,
  ⟨some 32, (Op.move (Operand.tmp 1)), none⟩,
  ⟨some 33, (Op.call { callee := (Callee.value (Operand.func 43)), args := #[(Operand.tmp 31), (Operand.tmp 32)], argTypes := #[70, 33] }), none⟩,
  ⟨some 30, (Op.move (Operand.tmp 33)), none⟩,
  ⟨some 34, (Op.extract (Operand.tmp 30) 0), none⟩,
  ⟨some 35, (Op.extract (Operand.tmp 30) 1), none⟩,
  ⟨some 11, (Op.assign (Operand.tmp 34)), none⟩,
  ⟨some 12, (Op.assign (Operand.tmp 35)), none⟩])
 (.seq (.seq (.reg [⟨some 36, (Op.move (Operand.tmp 11)), none⟩,
  ⟨some 37, (Op.binOp BinOp.eql 74 (Operand.tmp 36) (Operand.const (Value.pointer none)) 74), none⟩,
  ⟨some 38, (Op.move (Operand.tmp 37)), none⟩,
  ⟨some 39, (Op.move (Operand.tmp 1)), some (38, true)⟩,
  ⟨some 40, (Op.call { callee := (Callee.builtin Builtin.len), args := #[(Operand.tmp 39)], argTypes := #[33] }), some (38, true)⟩,
  ⟨some 41, (Op.binOp BinOp.gtr 3 (Operand.tmp 40) (Operand.const (Value.int IntKind.i64 0)) 3), some (38, true)⟩,
  ⟨some 42, (Op.pick (Operand.tmp 38) (Operand.tmp 41) (Operand.const (Value.bool false))), none⟩])
 (.cond (Operand.tmp 42) (.seq (.reg [⟨some 6, (Op.assign (Operand.const (Value.string { data := #[] }))), none⟩,
  ⟨some 7, (Op.assign (Operand.const (Value.int IntKind.i64 11))), none⟩])
 .ret) .skip))
 (.seq (.reg [⟨some 43, (Op.move (Operand.tmp 1)), none⟩,
  ⟨some 44, (Op.call { callee := (Callee.builtin Builtin.len), args := #[(Operand.tmp 43)], argTypes := #[33] }), none⟩,
  ⟨some 45, (Op.binOp BinOp.eql 3 (Operand.tmp 44) (Operand.const (Value.int IntKind.i64 0)) 3), none⟩,
  ⟨some 46, (Op.move (Operand.tmp 45)), none⟩,
  ⟨some 47, (Op.move (Operand.tmp 1)), some (46, false)⟩,
  ⟨some 48, (Op.call { callee := (Callee.builtin Builtin.len), args := #[(Operand.tmp 47)], argTypes := #[33] }), some (46, false)⟩,
  ⟨some 49, (Op.binOp BinOp.eql 3 (Operand.tmp 48) (Operand.const (Value.int IntKind.i64 1)) 3), some (46, false)⟩,
  ⟨some 50, (Op.move (Operand.tmp 49)), some (46, false)⟩,
  ⟨some 51, (Op.move (Operand.tmp 8)), some (50, true)⟩,
  ⟨some 52, (Op.call { callee := (Callee.builtin Builtin.len), args := #[(Operand.tmp 51)], argTypes := #[70] }), some (50, true)⟩,
  ⟨some 53, (Op.binOp BinOp.eql 3 (Operand.tmp 52) (Operand.const (Value.int IntKind.i64 1)) 3), some (50, true)⟩,
  ⟨some 54, (Op.pick (Operand.tmp 50) (Operand.tmp 53) (Operand.const (Value.bool false))), some (46, false)⟩,
  ⟨some 55, (Op.pick (Operand.tmp 46) (Operand.const (Value.bool true)) (Operand.tmp 54)), none⟩,
  ⟨some 13, (Op.assign (Operand.tmp 55)), none⟩])
 (.seq (.seq (.reg [⟨some 56, (Op.move (Operand.tmp 2)), none⟩,
  ⟨some 57, (Op.binOp BinOp.neq 9 (Operand.tmp 56) (Operand.const (Value.string { data := #[] })) 9), none⟩,
  ⟨some 58, (Op.move (Operand.tmp 57)), none⟩,
  ⟨some 59, (Op.move (Operand.tmp 13)), some (58, false)⟩,
  ⟨some 60, (Op.pick (Operand.tmp 58) (Operand.const (Value.bool true)) (Operand.tmp 59)), none⟩])
 (.cond (Operand.tmp 60) (.seq (.reg [⟨some 62, (Op.move (Operand.tmp 2)), none⟩,
  ⟨some 63, (Op.call { callee := (Callee.value (Operand.func 37)), args := #[(Operand.tmp 62)], argTypes := #[9] }), none⟩,
  ⟨some 61, (Op.move (Operand.tmp 63)), none⟩,
  ⟨some 64, (Op.extract (Operand.tmp 61) 0), none⟩,
  ⟨some 65, (Op.extract (Operand.tmp 61) 1), none⟩,
  ⟨some 66, (Op.extract (Operand.tmp 61) 2), none⟩,
  ⟨some 14, (Op.assign (Operand.tmp 64)), none⟩,
  ⟨some 15, (Op.assign (Operand.tmp 65)), none⟩,
  ⟨some 16, (Op.assign (Operand.tmp 66)), none⟩])
 (.seq (.reg [⟨some 67, (Op.move (Operand.tmp 16)), none⟩,
  ⟨some 68, (Op.binOp BinOp.neq 25 (Operand.tmp 67) (Operand.const (Value.int IntKind.i64 0)) 25), none⟩])
 (.cond (Operand.tmp 68) (.seq (.reg [⟨some 69, (Op.move (Operand.tmp 16)), none⟩,
  ⟨some 6, (Op.assign (Operand.const (Value.string { data := #[] }))), none⟩,
  ⟨some 7, (Op.assign (Operand.tmp 69)), none⟩])
 .ret) .skip))) .skip))
 (.seq (.reg [⟨some 70, (Op.move (Operand.tmp 2)), none⟩,
  ⟨some 17, (Op.assign (Operand.tmp 70)), none⟩])
 (.seq (.seq (.reg [⟨some 71, (Op.move (Operand.tmp 11)), none⟩,
  ⟨some 72, (Op.binOp BinOp.neq 74 (Operand.tmp 71) (Operand.const (Value.pointer none)) 74), none⟩])
 (.cond (Operand.tmp 72) (.reg [⟨some 73, (Op.move (Operand.tmp 0)), none⟩,
  ⟨some 74, (Op.move (Operand.tmp 12)), none⟩,
  ⟨some 75, (Op.move (Operand.tmp 11)), none⟩,
  ⟨some 76, (Op.move (Operand.tmp 2)), none⟩,
  ⟨some 77, (Op.call { callee := (Callee.value (Operand.func 44)), args := #[(Operand.tmp 73), (Operand.tmp 74), (Operand.tmp 75), (Operand.tmp 76)], argTypes := #[9, 70, 74, 9] }), none⟩,
  ⟨some 17, (Op.assign (Operand.tmp 77)), none⟩]) .skip))
 (.seq (.seq (.reg [⟨some 78, (Op.move (Operand.tmp 17)), none⟩,
  ⟨some 79, (Op.call { callee := (Callee.builtin Builtin.len), args := #[(Operand.tmp 78)], argTypes := #[9] }), none⟩,
  ⟨some 80, (Op.binOp BinOp.gtr 3 (Operand.tmp 79) (Operand.const (Value.int IntKind.i64 4000)) 3), none⟩])
 (.cond (Operand.tmp 80) (.seq (.reg [⟨some 6, (Op.assign (Operand.const (Value.string { data := #[] }))), none⟩,
  ⟨some 7, (Op.assign (Operand.const (Value.int IntKind.i64 2))), none⟩])
 .ret) .skip))
 (.seq (.seq (.reg [⟨some 82, (Op.move (Operand.tmp 17)), none⟩,
  ⟨some 83, (Op.call { callee := (Callee.value (Operand.func 37)), args := #[(Operand.tmp 82)], argTypes := #[9] }), none⟩,
  ⟨some 81, (Op.move (Operand.tmp 83)), none⟩,
  ⟨some 84, (Op.extract (Operand.tmp 81) 0), none⟩,
  ⟨some 85, (Op.extract (Operand.tmp 81) 1), none⟩,
  ⟨some 86, (Op.extract (Operand.tmp 81) 2), none⟩,
  ⟨some 18, (Op.assign (Operand.tmp 84)), none⟩,
  ⟨some 19, (Op.assign (Operand.tmp 85)), none⟩,
  ⟨some 20, (Op.assign (Operand.tmp 86)), none⟩])
 (.seq (.reg [⟨some 87, (Op.move (Operand.tmp 20)), none⟩,
  ⟨some 88, (Op.binOp BinOp.neq 25 (Operand.tmp 87) (Operand.const (Value.int IntKind.i64 0)) 25), none⟩])
 (.cond (Operand.tmp 88) (.seq (.reg [⟨some 89, (Op.move (Operand.tmp 20)), none⟩,
  ⟨some 6, (Op.assign (Operand.const (Value.string { data := #[] }))), none⟩,
  ⟨some 7, (Op.assign (Operand.tmp 89)), none⟩])
 .ret) .skip)))
 (.seq (.reg [⟨some 90, (Op.move (Operand.tmp 17)), none⟩,
  ⟨some 6, (Op.assign (Operand.tmp 90)), none⟩,
  ⟨some 7, (Op.assign (Operand.const (Value.int IntKind.i64 0))), none⟩])
 .ret))))))))))))
theorem fn16 : FnFact Try.prog 16 91 [] [(ResultVar.tmp 6), (ResultVar.tmp 7)] cd16 := ⟨by kernel_rfl, ⟨Try.f16, Try.func16, by kernel_rfl, by rfl, Try.ntmps16, congrArg Array.toList Try.results16⟩⟩
/-- examiner/examinerbase.OwnInts -/
def cd17 : CC := (.seq (.reg [⟨some 2, (Op.assign (Operand.const (Value.slice none 0 0))), none⟩])
 (.seq (.reg [⟨some 3, (Op.buildSlice 33 0 #[]), none⟩,
  ⟨some 4, (Op.move (Operand.tmp 0)), none⟩,
  ⟨some 5, (Op.call { callee := (Callee.builtin Builtin.append), args := #[(Operand.tmp 3), (Operand.tmp 4)], argTypes := #[33, 33] }), none⟩,
  ⟨some 2, (Op.assign (Operand.tmp 5)), none⟩])
 .ret))
theorem fn17 : FnFact Try.prog 17 6 [] [(ResultVar.tmp 2)] cd17 := ⟨by kernel_rfl, ⟨Try.f17, Try.func17, by kernel_rfl, by rfl, Try.ntmps17, congrArg Array.toList Try.results17⟩⟩
/-- examiner/examinerref10.Replaced -/
def cd18 : CC := (.seq (.reg [⟨some 6, (Op.assign (Operand.const (Value.string { data := #[] }))), none⟩,
  ⟨some 7, (Op.assign (Operand.const (Value.int IntKind.i64 0))), none⟩])
 (.seq (.reg [⟨some 12, (Op.move (Operand.tmp 0)), none⟩,
  ⟨some 13, (Op.call { callee := (Callee.value (Operand.func 14)), args := #[(Operand.tmp 12)], argTypes := #[9] }), none⟩,
  ⟨some 8, (Op.assign (Operand.tmp 13)), none⟩])
 (.seq (.seq (.reg [⟨some 14, (Op.move (Operand.tmp 8)), none⟩,
  ⟨some 15, (Op.nilCheck (Operand.tmp 14)), none⟩,
  ⟨some 16, (Op.fieldAddr 31 (Operand.tmp 15) 3), none⟩,
  ⟨some 17, (Op.load 3 (Operand.tmp 16)), none⟩,
  ⟨some 18, (Op.binOp BinOp.neq 3 (Operand.tmp 17) (Operand.const (Value.int IntKind.i64 0)) 3), none⟩])
 (.cond (Operand.tmp 18) (.seq (.dr [⟨0, .F, ⟨some 19, (Op.move (Operand.tmp 8)), none⟩, [], false⟩,
  ⟨1, .F, ⟨some 20, (Op.nilCheck (Operand.tmp 19)), none⟩, [], false⟩,
  ⟨2, .F, ⟨some 21, (Op.fieldAddr 31 (Operand.tmp 20) 3), none⟩, [], false⟩,
  ⟨3, .R, ⟨some 22, (Op.load 3 (Operand.tmp 21)), none⟩, [], false⟩,
  ⟨4, .F, ⟨some 6, (Op.assign (Operand.const (Value.string { data := #[] }))), none⟩, [], false⟩,
  ⟨5, .F, ⟨some 7, (Op.assign (Operand.tmp 22)), none⟩, [], false⟩])
 .ret) .skip))
 (.seq (.seq (.reg [⟨some 23, (Op.move (Operand.tmp 1)), none⟩,
  ⟨some 24, (Op.call { callee := (Callee.builtin Builtin.len), args := #[(Operand.tmp 23)], argTypes := #[33] }), none⟩,
  ⟨some 25, (Op.binOp BinOp.gtr 3 (Operand.tmp 24) (Operand.const (Value.int IntKind.i64 0)) 3), none⟩,
  ⟨some 26, (Op.move (Operand.tmp 25)), none⟩,
  ⟨some 27, (Op.move (Operand.tmp 8)), some (26, true)⟩,
  ⟨some 28, (Op.move (Operand.tmp 1)), some (26, true)⟩,
  ⟨some 29, (Op.call { callee := (Callee.value (Operand.func 29)), args := #[(Operand.tmp 27), (Operand.tmp 28)], argTypes := #[28, 33] }), some (26, true)⟩,
  ⟨some 30, (Op.binOp BinOp.eql 3 (Operand.tmp 29) (Operand.const (Value.int IntKind.i64 (-1))) 3), some (26, true)⟩,
  ⟨some 31, (Op.pick (Operand.tmp 26) (Operand.tmp 30) (Operand.const (Value.bool false))), none⟩])
 (.cond (Operand.tmp 31) (.seq (.reg [⟨some 6, (Op.assign (Operand.const (Value.string { data := #[] }))), none⟩,
  ⟨some 7, (Op.assign (Operand.const (Value.int IntKind.i64 11))), none⟩])
 .ret) .skip))
 (.seq (.seq (.reg [⟨some 32, (Op.move (Operand.tmp 2)), none⟩,
  ⟨some 33, (Op.binOp BinOp.neq 9 (Operand.tmp 32) (Operand.const (Value.string { data := #[] })) 9), none⟩,
  ⟨some 34, (Op.move (Operand.tmp 33)), none⟩,
  ⟨some 35, (Op.move (Operand.tmp 1)), some (34, false)⟩,
  ⟨some 36, (Op.call { callee := (Callee.builtin Builtin.len), args := #[(Operand.tmp 35)], argTypes := #[33] }), some (34, false)⟩,
  ⟨some 37, (Op.binOp BinOp.eql 3 (Operand.tmp 36) (Operand.const (Value.int IntKind.i64 0)) 3), some (34, false)⟩,
  ⟨some 38, (Op.pick (Operand.tmp 34) (Operand.const (Value.bool true)) (Operand.tmp 37)), none⟩,
  ⟨some 39, (Op.move (Operand.tmp 38)), none⟩,
  ⟨some 40, (Op.move (Operand.tmp 1)), some (39, false)⟩,
  ⟨some 41, (Op.call { callee := (Callee.builtin Builtin.len), args := #[(Operand.tmp 40)], argTypes := #[33] }), some (39, false)⟩,
  ⟨some 42, (Op.binOp BinOp.eql 3 (Operand.tmp 41) (Operand.const (Value.int IntKind.i64 1)) 3), some (39, false)⟩,
  ⟨some 43, (Op.move (Operand.tmp 42)), some (39, false)⟩,
  ⟨some 44, (Op.move (Operand.tmp 8)), some (43, true)⟩,
  ⟨some 45, (Op.call { callee := (Callee.value (Operand.func 45)), args := #[(Operand.tmp 44), (Operand.const (Value.int IntKind.i64 (-1)))], argTypes := #[28, 3] }), some (43, true)⟩,
  ⟨some 46, (Op.call { callee := (Callee.builtin Builtin.len), args := #[(Operand.tmp 45)], argTypes := #[33] }), some (43, true)⟩,
  ⟨some 47, (Op.binOp BinOp.eql 3 (Operand.tmp 46) (Operand.const (Value.int IntKind.i64 1)) 3), some (43, true)⟩,
  ⟨some 48, (Op.pick (Operand.tmp 43) (Operand.tmp 47) (Operand.const (Value.bool false))), some (39, false)⟩,
  ⟨some 49, (Op.pick (Operand.tmp 39) (Operand.const (Value.bool true)) (Operand.tmp 48)), none⟩])
 (.cond (Operand.tmp 49) (.seq (.reg [⟨some 50, (Op.move (Operand.tmp 2)), none⟩,
  ⟨some 51, (Op.call { callee := (Callee.value (Operand.func 14)), args := #[(Operand.tmp 50)], argTypes := #[9] }), none⟩,
  ⟨some 9, (Op.assign (Operand.tmp 51)), none⟩])
 (.seq (.reg [⟨some 52, (Op.move (Operand.tmp 9)), none⟩,
  ⟨some 53, (Op.nilCheck (Operand.tmp 52)), none⟩,
  ⟨some 54, (Op.fieldAddr 31 (Operand.tmp 53) 3), none⟩,
  ⟨some 55, (Op.load 3 (Operand.tmp 54)), none⟩,
  ⟨some 56, (Op.binOp BinOp.neq 3 (Operand.tmp 55) (Operand.const (Value.int IntKind.i64 0)) 3), none⟩])
 (.cond (Operand.tmp 56) (.seq (.dr [⟨0, .F, ⟨some 57, (Op.move (Operand.tmp 9)), none⟩, [], false⟩,
  ⟨1, .F, ⟨some 58, (Op.nilCheck (Operand.tmp 57)), none⟩, [], false⟩,
  ⟨2, .F, ⟨some 59, (Op.fieldAddr 31 (Operand.tmp 58) 3), none⟩, [], false⟩,
  ⟨3, .R, ⟨some 60, (Op.load 3 (Operand.tmp 59)), none⟩, [], false⟩,
  ⟨4, .F, ⟨some 6, (Op.assign (Operand.const (Value.string { data := #[] }))), none⟩, [], false⟩,
  ⟨5, .F, ⟨some 7, (Op.assign (Operand.tmp 60)), none⟩, [], false⟩])
 .ret) .skip))) .skip))
 (.seq (.reg [⟨some 61, (Op.move (Operand.tmp 2)), none⟩,
  ⟨some 10, (Op.assign (Operand.tmp 61)), none⟩])
 (.seq (.seq (.reg [⟨some 62, (Op.move (Operand.tmp 1)), none⟩,
  ⟨some 63, (Op.call { callee := (Callee.builtin Builtin.len), args := #[(Operand.tmp 62)], argTypes := #[33] }), none⟩,
  ⟨some 64, (Op.binOp BinOp.gtr 3 (Operand.tmp 63) (Operand.const (Value.int IntKind.i64 0)) 3), none⟩])
 (.cond (Operand.tmp 64) (.reg [⟨some 65, (Op.move (Operand.tmp 8)), none⟩,
  ⟨some 66, (Op.move (Operand.tmp 1)), none⟩,
  ⟨some 67, (Op.move (Operand.tmp 2)), none⟩,
  ⟨some 68, (Op.call { callee := (Callee.value (Operand.func 46)), args := #[(Operand.tmp 65), (Operand.const (Value.int IntKind.i64 (-1))), (Operand.tmp 66), (Operand.tmp 67)], argTypes := #[28, 3, 33, 9] }), none⟩,
  ⟨some 10, (Op.assign (Operand.tmp 68)), none⟩]) .skip))
 (.seq (.seq (.reg [⟨some 69, (Op.move (Operand.tmp 10)), none⟩,
  ⟨some 70, (Op.call { callee := (Callee.builtin Builtin.len), args := #[(Operand.tmp 69)], argTypes := #[9] }), none⟩,
  ⟨some 71, (Op.binOp BinOp.gtr 3 (Operand.tmp 70) (Operand.const (Value.int IntKind.i64 4000)) 3), none⟩])
 (.cond (Operand.tmp 71) (.seq (.reg [⟨some 6, (Op.assign (Operand.const (Value.string { data := #[] }))), none⟩,
  ⟨some 7, (Op.assign (Operand.const (Value.int IntKind.i64 2))), none⟩])
 .ret) .skip))
 (.seq (.seq (.reg [⟨some 72, (Op.move (Operand.tmp 10)), none⟩,
  ⟨some 73, (Op.call { callee := (Callee.value (Operand.func 14)), args := #[(Operand.tmp 72)], argTypes := #[9] }), none⟩,
  ⟨some 11, (Op.assign (Operand.tmp 73)), none⟩])
 (.seq (.reg [⟨some 74, (Op.move (Operand.tmp 11)), none⟩,
  ⟨some 75, (Op.nilCheck (Operand.tmp 74)), none⟩,
  ⟨some 76, (Op.fieldAddr 31 (Operand.tmp 75) 3), none⟩,
  ⟨some 77, (Op.load 3 (Operand.tmp 76)), none⟩,
  ⟨some 78, (Op.binOp BinOp.neq 3 (Operand.tmp 77) (Operand.const (Value.int IntKind.i64 0)) 3), none⟩])
 (.cond (Operand.tmp 78) (.seq (.dr [⟨0, .F, ⟨some 79, (Op.move (Operand.tmp 11)), none⟩, [], false⟩,
  ⟨1, .F, ⟨some 80, (Op.nilCheck (Operand.tmp 79)), none⟩, [], false⟩,
  ⟨2, .F, ⟨some 81, (Op.fieldAddr 31 (Operand.tmp 80) 3), none⟩, [], false⟩,
  ⟨3, .R, ⟨some 82, (Op.load 3 (Operand.tmp 81)), none⟩, [], false⟩,
  ⟨4, .F, ⟨some 6, (Op.assign (Operand.const (Value.string { data := #[] }))), none⟩, [], false⟩,
  ⟨5, .F, ⟨some 7, (Op.assign (Operand.tmp 82)), none⟩, [], false⟩])
 .ret) .skip)))
 (.seq (.reg [⟨some 83, (Op.move (Operand.tmp 10)), none⟩,
  ⟨some 6, (Op.assign (Operand.tmp 83)), none⟩,
  ⟨some 7, (Op.assign (Operand.const (Value.int IntKind.i64 0))), none⟩])
 .ret))))))))))
/-- examiner/examinerref10.Identifier -/
def cd21 : CC := (.seq (.reg [⟨some 2, (Op.box 41 (Operand.tmp 0)), none⟩,
  ⟨some 4, (Op.assign (Operand.const (Value.string { data := #[] }))), none⟩])
 (.seq (.dr [⟨0, .F, ⟨some 9, (Op.fieldAddr 41 (Operand.tmp 2) 0), none⟩, [], false⟩,
  ⟨1, .F, ⟨some 10, (Op.load 3 (Operand.tmp 9)), none⟩, [], false⟩,
  ⟨2, .F, ⟨some 11, (Op.binOp BinOp.shl 3 (Operand.tmp 10) (Operand.const (Value.int IntKind.u64 6)) 83), none⟩, [], false⟩,
  ⟨3, .F, ⟨some 12, (Op.move (Operand.tmp 1)), none⟩, [], false⟩,
  ⟨4, .E, ⟨some 13, (Op.call { callee := (Callee.value (Operand.func 32)), args := #[(Operand.tmp 12)], argTypes := #[4] }), none⟩, [], false⟩,
  ⟨5, .F, ⟨some 14, (Op.binOp BinOp.mul 3 (Operand.const (Value.int IntKind.i64 32)) (Operand.tmp 13) 3), none⟩, [], false⟩,
  ⟨6, .F, ⟨some 15, (Op.binOp BinOp.or 3 (Operand.tmp 11) (Operand.tmp 14) 3), none⟩, [], false⟩,
  ⟨7, .F, ⟨some 5, (Op.assign (Operand.tmp 15)), none⟩, [], false⟩])
 (.seq (.seq (.reg [⟨some 16, (Op.fieldAddr 41 (Operand.tmp 2) 1), none⟩,
  ⟨some 17, (Op.load 3 (Operand.tmp 16)), none⟩,
  ⟨some 18, (Op.binOp BinOp.lss 3 (Operand.tmp 17) (Operand.const (Value.int IntKind.i64 31)) 3), none⟩])
 (.cond (Operand.tmp 18) (.seq (.reg [⟨some 19, (Op.move (Operand.tmp 5)), none⟩,
  ⟨some 20, (Op.fieldAddr 41 (Operand.tmp 2) 1), none⟩,
  ⟨some 21, (Op.load 3 (Operand.tmp 20)), none⟩,
  ⟨some 22, (Op.binOp BinOp.or 3 (Operand.tmp 19) (Operand.tmp 21) 3), none⟩,
  ⟨some 23, (Op.convert 3 5 (Operand.tmp 22)), none⟩,
  ⟨some 24, (Op.buildSlice 84 1 #[(0, (Operand.tmp 23))]), none⟩,
  ⟨some 25, (Op.convert 84 9 (Operand.tmp 24)), none⟩,
  ⟨some 4, (Op.assign (Operand.tmp 25)), none⟩])
 .ret) .skip))
 (.seq (.reg [⟨some 6, (Op.assign (Operand.const (Value.slice none 0 0))), none⟩])
 (.seq (.seq (.reg [⟨some 26, (Op.fieldAddr 41 (Operand.tmp 2) 1), none⟩,
  ⟨some 27, (Op.load 3 (Operand.tmp 26)), none⟩,
  ⟨some 7, (Op.assign (Operand.tmp 27)), none⟩])
 (.block 0 (.loop (.seq (.seq (.reg [⟨some 28, (Op.move (Operand.tmp 7)), none⟩,
  ⟨some 29, (Op.binOp BinOp.gtr 3 (Operand.tmp 28) (Operand.const (Value.int IntKind.i64 0)) 3), none⟩])
 (.cond (Operand.tmp 29) .skip (.exit 0)))
 (.seq (.block 1 (.seq (.reg [⟨some 32, (Op.move (Operand.tmp 7)), none⟩,
  ⟨some 33, (Op.binOp BinOp.and 3 (Operand.tmp 32) (Operand.const (Value.int IntKind.i64 127)) 3), none⟩,
  ⟨some 34, (Op.convert 3 5 (Operand.tmp 33)), none⟩,
  ⟨some 8, (Op.assign (Operand.tmp 34)), none⟩])
 (.seq (.seq (.reg [⟨some 35, (Op.move (Operand.tmp 6)), none⟩,
  ⟨some 36, (Op.call { callee := (Callee.builtin Builtin.len), args := #[(Operand.tmp 35)], argTypes := #[84] }), none⟩,
  ⟨some 37, (Op.binOp BinOp.gtr 3 (Operand.tmp 36) (Operand.const (Value.int IntKind.i64 0)) 3), none⟩])
 (.cond (Operand.tmp 37) (.reg [⟨some 38, (Op.move (Operand.tmp 8)), none⟩,
  ⟨some 39, (Op.binOp BinOp.or 5 (Operand.tmp 38) (Operand.const (Value.int IntKind.u8 128)) 5), none⟩,
  ⟨some 8, (Op.assign (Operand.tmp 39)), none⟩]) .skip))
 (.reg [⟨some 40, (Op.move (Operand.tmp 8)), none⟩,
  ⟨some 41, (Op.buildSlice 84 1 #[(0, (Operand.tmp 40))]), none⟩,
  ⟨some 42, (Op.move (Operand.tmp 6)), none⟩,
  ⟨some 43, (Op.call { callee := (Callee.builtin Builtin.append), args := #[(Operand.tmp 41), (Operand.tmp 42)], argTypes := #[84, 84] }), none⟩,
  ⟨some 6, (Op.assign (Operand.tmp 43)), none⟩]))))
 (.reg [⟨some 30, (Op.move (Operand.tmp 7)), none⟩,
  ⟨some 31, (Op.binOp BinOp.shr 3 (Operand.tmp 30) (Operand.const (Value.int IntKind.u64 7)) 83), none⟩,
  ⟨some 7, (Op.assign (Operand.tmp 31)), none⟩]))))))
 (.seq (.reg [⟨some 44, (Op.move (Operand.tmp 5)), none⟩,
  ⟨some 45, (Op.binOp BinOp.or 3 (Operand.tmp 44) (Operand.const (Value.int IntKind.i64 31)) 3), none⟩,
  ⟨some 46, (Op.convert 3 5 (Operand.tmp 45)), none⟩,
  ⟨some 47, (Op.buildSlice 84 1 #[(0, (Operand.tmp 46))]), none⟩,
  ⟨some 48, (Op.move (Operand.tmp 6)), none⟩,
  ⟨some 49, (Op.call { callee := (Callee.builtin Builtin.append), args := #[(Operand.tmp 47), (Operand.tmp 48)], argTypes := #[84, 84] }), none⟩,
  ⟨some 50, (Op.convert 84 9 (Operand.tmp 49)), none⟩,
  ⟨some 4, (Op.assign (Operand.tmp 50)), none⟩])
 .ret))))))
/-- examiner/walk.NodeAt -/
def cd27 : CC := (.seq (.reg [⟨some 4, (Op.alloc 55), none⟩,
  ⟨some 5, (Op.assign (Operand.const (Value.int IntKind.i64 0))), none⟩])
 (.seq (.reg [⟨some 12, (Op.move (Operand.tmp 0)), none⟩,
  ⟨some 13, (Op.call { callee := (Callee.value (Operand.func 37)), args := #[(Operand.tmp 12)], argTypes := #[9] }), none⟩,
  ⟨some 11, (Op.move (Operand.tmp 13)), none⟩,
  ⟨some 14, (Op.extract (Operand.tmp 11) 0), none⟩,
  ⟨some 15, (Op.extract (Operand.tmp 11) 1), none⟩,
  ⟨some 16, (Op.extract (Operand.tmp 11) 2), none⟩,
  ⟨some 6, (Op.assign (Operand.tmp 14)), none⟩,
  ⟨some 7, (Op.assign (Operand.tmp 15)), none⟩,
  ⟨some 8, (Op.assign (Operand.tmp 16)), none⟩])
 (.seq (.seq (.reg [⟨some 17, (Op.move (Operand.tmp 8)), none⟩,
  ⟨some 18, (Op.binOp BinOp.neq 25 (Operand.tmp 17) (Operand.const (Value.int IntKind.i64 0)) 25), none⟩])
 (.cond (Operand.tmp 18) (.seq (.reg [⟨some 19, (Op.build 55 #[]), none⟩,
  ⟨some 20, (Op.move (Operand.tmp 8)), none⟩,
  ⟨none, (Op.store 55 (Operand.tmp 4) (Operand.tmp 19)), none⟩,
  ⟨some 5, (Op.assign (Operand.tmp 20)), none⟩])
 .ret) .skip))
 (.seq (.reg [⟨some 22, (Op.move (Operand.tmp 6)), none⟩,
  ⟨some 23, (Op.move (Operand.tmp 1)), none⟩,
  ⟨some 24, (Op.call { callee := (Callee.value (Operand.func 43)), args := #[(Operand.tmp 22), (Operand.tmp 23)], argTypes := #[70, 33] }), none⟩,
  ⟨some 21, (Op.move (Operand.tmp 24)), none⟩,
  ⟨some 25, (Op.extract (Operand.tmp 21) 0), none⟩,
  ⟨some 26, (Op.extract (Operand.tmp 21) 1), none⟩,
  ⟨some 9, (Op.assign (Operand.tmp 25)), none⟩,
  ⟨some 10, (Op.assign (Operand.tmp 26)), none⟩])
 (.seq (.seq (.reg [⟨some 27, (Op.move (Operand.tmp 9)), none⟩,
  ⟨some 28, (Op.binOp BinOp.eql 74 (Operand.tmp 27) (Operand.const (Value.pointer none)) 74), none⟩])
 (.cond (Operand.tmp 28) (.seq (.reg [⟨some 29, (Op.build 55 #[]), none⟩,
  ⟨none, (Op.store 55 (Operand.tmp 4) (Operand.tmp 29)), none⟩,
  ⟨some 5, (Op.assign (Operand.const (Value.int IntKind.i64 11))), none⟩])
 .ret) .skip))
 (.seq (.reg [⟨some 30, (Op.move (Operand.tmp 9)), none⟩,
  ⟨some 31, (Op.call { callee := (Callee.value (Operand.func 40)), args := #[(Operand.tmp 30)], argTypes := #[74] }), none⟩,
  ⟨none, (Op.store 55 (Operand.tmp 4) (Operand.tmp 31)), none⟩,
  ⟨some 5, (Op.assign (Operand.const (Value.int IntKind.i64 0))), none⟩])
 .ret))))))
theorem fn27 : FnFact Try.prog 27 32 [] [(ResultVar.cell 4 55), (ResultVar.tmp 5)] cd27 := ⟨by kernel_rfl, ⟨Try.f27, Try.func27, by kernel_rfl, by rfl, Try.ntmps27, congrArg Array.toList Try.results27⟩⟩
/-- examiner/walk.PathTo -/
def cd28 : CC := (.seq (.reg [⟨some 3, (Op.box 3 (Operand.tmp 1)), none⟩,
  ⟨some 4, (Op.assign (Operand.const (Value.slice none 0 0))), none⟩,
  ⟨some 5, (Op.assign (Operand.const (Value.int IntKind.i64 0))), none⟩])
 (.seq (.reg [⟨some 12, (Op.move (Operand.tmp 0)), none⟩,
  ⟨some 13, (Op.call { callee := (Callee.value (Operand.func 37)), args := #[(Operand.tmp 12)], argTypes := #[9] }), none⟩,
  ⟨some 11, (Op.move (Operand.tmp 13)), none⟩,
  ⟨some 14, (Op.extract (Operand.tmp 11) 0), none⟩,
  ⟨some 15, (Op.extract (Operand.tmp 11) 1), none⟩,
  ⟨some 16, (Op.extract (Operand.tmp 11) 2), none⟩,
  ⟨some 6, (Op.assign (Operand.tmp 14)), none⟩,
  ⟨some 7, (Op.assign (Operand.tmp 15)), none⟩,
  ⟨some 8, (Op.assign (Operand.tmp 16)), none⟩])
 (.seq (.seq (.reg [⟨some 17, (Op.move (Operand.tmp 8)), none⟩,
  ⟨some 18, (Op.binOp BinOp.neq 25 (Operand.tmp 17) (Operand.const (Value.int IntKind.i64 0)) 25), none⟩])
 (.cond (Operand.tmp 18) (.seq (.reg [⟨some 19, (Op.move (Operand.tmp 8)), none⟩,
  ⟨some 4, (Op.assign (Operand.const (Value.slice none 0 0))), none⟩,
  ⟨some 5, (Op.assign (Operand.tmp 19)), none⟩])
 .ret) .skip))
 (.seq (.seq (.reg [⟨some 20, (Op.load 3 (Operand.tmp 3)), none⟩,
  ⟨some 21, (Op.binOp BinOp.lss 3 (Operand.tmp 20) (Operand.const (Value.int IntKind.i64 0)) 3), none⟩,
  ⟨some 22, (Op.move (Operand.tmp 21)), none⟩,
  ⟨some 23, (Op.load 3 (Operand.tmp 3)), some (22, false)⟩,
  ⟨some 24, (Op.move (Operand.tmp 0)), some (22, false)⟩,
  ⟨some 25, (Op.call { callee := (Callee.builtin Builtin.len), args := #[(Operand.tmp 24)], argTypes := #[9] }), some (22, false)⟩,
  ⟨some 26, (Op.binOp BinOp.geq 3 (Operand.tmp 23) (Operand.tmp 25) 3), some (22, false)⟩,
  ⟨some 27, (Op.pick (Operand.tmp 22) (Operand.const (Value.bool true)) (Operand.tmp 26)), none⟩])
 (.cond (Operand.tmp 27) (.seq (.reg [⟨some 4, (Op.assign (Operand.const (Value.slice none 0 0))), none⟩,
  ⟨some 5, (Op.assign (Operand.const (Value.int IntKind.i64 3))), none⟩])
 .ret) .skip))
 (.seq (.reg [⟨some 9, (Op.assign (Operand.const (Value.slice none 0 0))), none⟩])
 (.block 0 (.loop (.block 1 (.seq (.reg [⟨some 28, (Op.move (Operand.tmp 6)), none⟩,
  ⟨some 29, (Op.makeFunc (Fn.func 52) #[] #[(Operand.tmp 3)]), none⟩,
  ⟨some 30, (Op.call { callee := (Callee.value (Operand.func 51)), args := #[(Operand.tmp 28), (Operand.tmp 29)], argTypes := #[70, 93] }), none⟩,
  ⟨some 10, (Op.assign (Operand.tmp 30)), none⟩])
 (.seq (.seq (.reg [⟨some 31, (Op.move (Operand.tmp 10)), none⟩,
  ⟨some 32, (Op.binOp BinOp.lss 3 (Operand.tmp 31) (Operand.const (Value.int IntKind.i64 0)) 3), none⟩])
 (.cond (Operand.tmp 32) (.seq (.reg [⟨some 33, (Op.move (Operand.tmp 9)), none⟩,
  ⟨some 4, (Op.assign (Operand.tmp 33)), none⟩,
  ⟨some 5, (Op.assign (Operand.const (Value.int IntKind.i64 0))), none⟩])
 .ret) .skip))
 (.seq (.reg [⟨some 34, (Op.move (Operand.tmp 9)), none⟩,
  ⟨some 35, (Op.move (Operand.tmp 10)), none⟩,
  ⟨some 36, (Op.buildSlice 33 1 #[(0, (Operand.tmp 35))]), none⟩,
  ⟨some 37, (Op.call { callee := (Callee.builtin Builtin.append), args := #[(Operand.tmp 34), (Operand.tmp 36)], argTypes := #[33, 33] }), none⟩,
  ⟨some 9, (Op.assign (Operand.tmp 37)), none⟩])
 (.reg [⟨some 38, (Op.move (Operand.tmp 6)), none⟩,
  ⟨some 39, (Op.move (Operand.tmp 10)), none⟩,
  ⟨some 40, (Op.indexAddr 70 (Operand.tmp 38) (Operand.tmp 39)), none⟩,
  ⟨some 41, (Op.load 74 (Operand.tmp 40)), none⟩,
  ⟨some 42, (Op.nilCheck (Operand.tmp 41)), none⟩,
  ⟨some 43, (Op.fieldAddr 92 (Operand.tmp 42) 9), none⟩,
  ⟨some 44, (Op.load 70 (Operand.tmp 43)), none⟩,
  ⟨some 6, (Op.assign (Operand.tmp 44)), none⟩]))))))))))))
theorem fn28 : FnFact Try.prog 28 45 [] [(ResultVar.tmp 4), (ResultVar.tmp 5)] cd28 := ⟨by kernel_rfl, ⟨Try.f28, Try.func28, by kernel_rfl, by rfl, Try.ntmps28, congrArg Array.toList Try.results28⟩⟩
/-- examiner/examinerlaw10.closed -/
def cd31 : CC := (.seq (.reg [⟨some 4, (Op.assign (Operand.const (Value.int IntKind.i64 0))), none⟩])
 (.seq (.seq (.reg [⟨some 6, (Op.move (Operand.tmp 0)), none⟩,
  ⟨some 7, (Op.call { callee := (Callee.builtin Builtin.len), args := #[(Operand.tmp 6)], argTypes := #[24] }), none⟩,
  ⟨some 8, (Op.binOp BinOp.sub 3 (Operand.tmp 7) (Operand.const (Value.int IntKind.i64 1)) 3), none⟩,
  ⟨some 5, (Op.assign (Operand.tmp 8)), none⟩])
 (.block 0 (.loop (.seq (.seq (.reg [⟨some 9, (Op.move (Operand.tmp 5)), none⟩,
  ⟨some 10, (Op.binOp BinOp.geq 3 (Operand.tmp 9) (Operand.const (Value.int IntKind.i64 0)) 3), none⟩])
 (.cond (Operand.tmp 10) .skip (.exit 0)))
 (.seq (.block 1 (.seq (.reg [⟨some 13, (Op.move (Operand.tmp 0)), none⟩,
  ⟨some 14, (Op.move (Operand.tmp 5)), none⟩,
  ⟨some 15, (Op.indexAddr 24 (Operand.tmp 13) (Operand.tmp 14)), none⟩,
  ⟨some 16, (Op.fieldAddr 55 (Operand.tmp 15) 3), none⟩,
  ⟨some 17, (Op.load 3 (Operand.tmp 16)), none⟩,
  ⟨some 18, (Op.move (Operand.tmp 1)), none⟩,
  ⟨some 19, (Op.binOp BinOp.eql 3 (Operand.tmp 17) (Operand.tmp 18) 3), none⟩])
 (.cond (Operand.tmp 19) (.seq (.reg [⟨some 20, (Op.move (Operand.tmp 0)), none⟩,
  ⟨some 21, (Op.move (Operand.tmp 5)), none⟩,
  ⟨some 22, (Op.indexAddr 24 (Operand.tmp 20) (Operand.tmp 21)), none⟩,
  ⟨some 23, (Op.fieldAddr 55 (Operand.tmp 22) 7), none⟩,
  ⟨some 24, (Op.load 3 (Operand.tmp 23)), none⟩,
  ⟨some 4, (Op.assign (Operand.tmp 24)), none⟩])
 .ret) .skip)))
 (.reg [⟨some 11, (Op.move (Operand.tmp 5)), none⟩,
  ⟨some 12, (Op.binOp BinOp.sub 3 (Operand.tmp 11) (Operand.const (Value.int IntKind.i64 1)) 3), none⟩,
  ⟨some 5, (Op.assign (Operand.tmp 12)), none⟩]))))))
 (.seq (.reg [⟨some 4, (Op.assign (Operand.const (Value.int IntKind.i64 0))), none⟩])
 .ret)))
theorem fn31 : FnFact Try.prog 31 25 [] [(ResultVar.tmp 4)] cd31 := ⟨by kernel_rfl, ⟨Try.f31, Try.func31, by kernel_rfl, by rfl, Try.ntmps31, congrArg Array.toList Try.results31⟩⟩
/-- examiner/examinerbase.Count -/
def cd32 : CC := (.seq (.reg [⟨some 2, (Op.assign (Operand.const (Value.int IntKind.i64 0))), none⟩])
 (.seq (.seq (.reg [⟨some 3, (Op.move (Operand.tmp 0)), none⟩])
 (.cond (Operand.tmp 3) (.seq (.reg [⟨some 2, (Op.assign (Operand.const (Value.int IntKind.i64 1))), none⟩])
 .ret) .skip))
 (.seq (.reg [⟨some 2, (Op.assign (Operand.const (Value.int IntKind.i64 0))), none⟩])
 .ret)))
theorem fn32 : FnFact Try.prog 32 4 [] [(ResultVar.tmp 2)] cd32 := ⟨by kernel_rfl, ⟨Try.f32, Try.func32, by kernel_rfl, by rfl, Try.ntmps32, congrArg Array.toList Try.results32⟩⟩
/-- examiner/examinerlaw10.Example -/
def cd36 : CC := (.seq (.reg [⟨some 0, (Op.assign (Operand.const (Value.string { data := #[] }))), none⟩])
 (.seq (.reg [⟨some 0, (Op.assign (Operand.const (Value.string { data := #[48, 6, 2, 1, 5, 1, 1, 255] }))), none⟩])
 .ret))
theorem fn36 : FnFact Try.prog 36 1 [] [(ResultVar.tmp 0)] cd36 := ⟨by kernel_rfl, ⟨Try.f36, Try.func36, by kernel_rfl, by rfl, Try.ntmps36, congrArg Array.toList Try.results36⟩⟩
/-- examiner/walk.read -/
def cd37 : CC := (.seq (.reg [⟨some 2, (Op.alloc 70), none⟩,
  ⟨some 3, (Op.alloc 3), none⟩,
  ⟨some 4, (Op.alloc 25), none⟩])
 (.seq (.block 0 (.seq (.reg [⟨some 9, (Op.move (Operand.tmp 0)), none⟩,
  ⟨some 10, (Op.call { callee := (Callee.builtin Builtin.len), args := #[(Operand.tmp 9)], argTypes := #[9] }), none⟩,
  ⟨some 11, (Op.binOp BinOp.gtr 3 (Operand.tmp 10) (Operand.const (Value.int IntKind.i64 4000)) 3), none⟩,
  ⟨some 8, (Op.assign (Operand.tmp 11)), none⟩])
 (.cond (Operand.tmp 8) (.seq (.reg [⟨none, (Op.store 70 (Operand.tmp 2) (Operand.const (Value.slice none 0 0))), none⟩,
  ⟨none, (Op.store 3 (Operand.tmp 3) (Operand.const (Value.int IntKind.i64 0))), none⟩,
  ⟨none, (Op.store 25 (Operand.tmp 4) (Operand.const (Value.int IntKind.i64 2))), none⟩])
 .ret) (.seq (.reg [⟨some 13, (Op.move (Operand.tmp 0)), none⟩,
  ⟨some 14, (Op.binOp BinOp.eql 9 (Operand.tmp 13) (Operand.const (Value.string { data := #[] })) 9), none⟩,
  ⟨some 12, (Op.assign (Operand.tmp 14)), none⟩])
 (.cond (Operand.tmp 12) (.seq (.reg [⟨none, (Op.store 70 (Operand.tmp 2) (Operand.const (Value.slice none 0 0))), none⟩,
  ⟨none, (Op.store 3 (Operand.tmp 3) (Operand.const (Value.int IntKind.i64 0))), none⟩,
  ⟨none, (Op.store 25 (Operand.tmp 4) (Operand.const (Value.int IntKind.i64 1))), none⟩])
 .ret) .skip)))))
 (.seq (.reg [⟨some 15, (Op.makeFunc (Fn.func 55) #[] #[(Operand.tmp 2), (Operand.tmp 3), (Operand.tmp 4)]), none⟩,
  ⟨none, (Op.defer { callee := (Callee.value (Operand.tmp 15)), args := #[], argTypes := #[] }), none⟩])
 (.seq (.reg [⟨some 16, (Op.move (Operand.tmp 0)), none⟩,
  ⟨some 17, (Op.build 100 #[(0, (Operand.tmp 16))]), none⟩,
  ⟨some 18, (Op.box 100 (Operand.tmp 17)), none⟩,
  ⟨some 5, (Op.assign (Operand.tmp 18)), none⟩])
 (.seq (.seq (.reg [⟨some 6, (Op.assign (Operand.const (Value.int IntKind.i64 0))), none⟩])
 (.block 1 (.loop (.seq (.seq (.reg [⟨some 19, (Op.move (Operand.tmp 6)), none⟩,
  ⟨some 20, (Op.move (Operand.tmp 0)), none⟩,
  ⟨some 21, (Op.call { callee := (Callee.builtin Builtin.len), args := #[(Operand.tmp 20)], argTypes := #[9] }), none⟩,
  ⟨some 22, (Op.binOp BinOp.lss 3 (Operand.tmp 19) (Operand.tmp 21) 3), none⟩])
 (.cond (Operand.tmp 22) .skip (.exit 1)))
 (.block 2 (.seq (.reg [⟨some 23, (Op.move (Operand.tmp 5)), none⟩,
  ⟨some 24, (Op.move (Operand.tmp 6)), none⟩,
  ⟨some 25, (Op.move (Operand.tmp 0)), none⟩,
  ⟨some 26, (Op.call { callee := (Callee.builtin Builtin.len), args := #[(Operand.tmp 25)], argTypes := #[9] }), none⟩,
  ⟨some 27, (Op.call { callee := (Callee.value (Operand.func 56)), args := #[(Operand.tmp 23), (Operand.tmp 24), (Operand.tmp 26), (Operand.const (Value.int IntKind.i64 0))], argTypes := #[98, 3, 3, 3] }), none⟩,
  ⟨some 7, (Op.assign (Operand.tmp 27)), none⟩])
 (.dr [⟨0, .R, ⟨some 28, (Op.load 70 (Operand.tmp 2)), none⟩, [], false⟩,
  ⟨1, .F, ⟨some 29, (Op.move (Operand.tmp 7)), none⟩, [], false⟩,
  ⟨2, .F, ⟨some 30, (Op.buildSlice 70 1 #[(0, (Operand.tmp 29))]), none⟩, [], false⟩,
  ⟨4, .F, ⟨some 32, (Op.move (Operand.tmp 7)), none⟩, [], false⟩,
  ⟨5, .F, ⟨some 33, (Op.nilCheck (Operand.tmp 32)), none⟩, [], false⟩,
  ⟨6, .F, ⟨some 34, (Op.fieldAddr 92 (Operand.tmp 33) 7), none⟩, [], false⟩,
  ⟨7, .F, ⟨some 35, (Op.load 3 (Operand.tmp 34)), none⟩, [], false⟩,
  ⟨3, .E, ⟨some 31, (Op.call { callee := (Callee.builtin Builtin.append), args := #[(Operand.tmp 28), (Operand.tmp 30)], argTypes := #[70, 70] }), none⟩, [], false⟩,
  ⟨8, .E, ⟨none, (Op.store 70 (Operand.tmp 2) (Operand.tmp 31)), none⟩, [], false⟩,
  ⟨9, .F, ⟨some 6, (Op.assign (Operand.tmp 35)), none⟩, [], false⟩])))))))
 (.seq (.reg [⟨some 36, (Op.load 70 (Operand.tmp 2)), none⟩,
  ⟨some 37, (Op.move (Operand.tmp 0)), none⟩,
  ⟨some 38, (Op.call { callee := (Callee.builtin Builtin.len), args := #[(Operand.tmp 37)], argTypes := #[9] }), none⟩,
  ⟨none, (Op.store 70 (Operand.tmp 2) (Operand.tmp 36)), none⟩,
  ⟨none, (Op.store 3 (Operand.tmp 3) (Operand.tmp 38)), none⟩,
  ⟨none, (Op.store 25 (Operand.tmp 4) (Operand.const (Value.int IntKind.i64 0))), none⟩])
 .ret))))))
theorem fn37 : FnFact Try.prog 37 39 [(10, [(0, 3), (1, 0), (2, 0), (4, 0), (5, 0), (6, 0), (7, 0), (3, 2), (8, 2), (9, 0)], [[], [], [1], [0, 1, 2], [], [4], [4, 5], [4, 5, 6], [0, 1, 2, 3], [0, 1, 2, 3, 4, 5, 6, 7, 8]])] [(ResultVar.cell 2 70), (ResultVar.cell 3 3), (ResultVar.cell 4 25)] cd37 := ⟨by kernel_rfl, ⟨Try.f37, Try.func37, by kernel_rfl, by rfl, Try.ntmps37, congrArg Array.toList Try.results37⟩⟩
/-- examiner/walk.each -/
def cd38 : CC := (.seq (.reg [⟨some 6, (Op.move (Operand.tmp 0)), none⟩,
  ⟨some 7, (Op.call { callee := (Callee.builtin Builtin.len), args := #[(Operand.tmp 6)], argTypes := #[70] }), none⟩,
  ⟨some 8, (Op.move (Operand.const (Value.int IntKind.i64 0))), none⟩])
 (.block 0 (.loop (.seq (.reg [⟨some 9, (Op.binOp BinOp.lss 3 (Operand.tmp 8) (Operand.tmp 7) 3), none⟩])
 (.seq (.cond (Operand.tmp 9) .skip (.exit 0))
 (.seq (.block 1 (.seq (.reg [⟨some 10, (Op.indexAddr 70 (Operand.tmp 6) (Operand.tmp 8)), none⟩,
  ⟨some 11, (Op.load 74 (Operand.tmp 10)), none⟩,
  ⟨some 5, (Op.assign (Operand.tmp 11)), none⟩])
 (.seq (.reg [⟨some 12, (Op.move (Operand.tmp 1)), none⟩,
  ⟨some 13, (Op.move (Operand.tmp 5)), none⟩,
  ⟨some 14, (Op.call { callee := (Callee.value (Operand.tmp 12)), args := #[(Operand.tmp 13)], argTypes := #[74] }), none⟩])
 (.reg [⟨some 15, (Op.move (Operand.tmp 5)), none⟩,
  ⟨some 16, (Op.nilCheck (Operand.tmp 15)), none⟩,
  ⟨some 17, (Op.fieldAddr 92 (Operand.tmp 16) 9), none⟩,
  ⟨some 18, (Op.load 70 (Operand.tmp 17)), none⟩,
  ⟨some 19, (Op.move (Operand.tmp 1)), none⟩,
  ⟨some 20, (Op.call { callee := (Callee.value (Operand.func 38)), args := #[(Operand.tmp 18), (Operand.tmp 19)], argTypes := #[70, 76] }), none⟩]))))
 (.reg [⟨some 21, (Op.binOp BinOp.add 3 (Operand.tmp 8) (Operand.const (Value.int IntKind.i64 1)) 3), none⟩,
  ⟨some 8, (Op.move (Operand.tmp 21)), none⟩])))))))
theorem fn38 : FnFact Try.prog 38 22 [] [] cd38 := ⟨by kernel_rfl, ⟨Try.f38, Try.func38, by kernel_rfl, by rfl, Try.ntmps38, congrArg Array.toList Try.results38⟩⟩
/-- examiner/walk.Walked$1 -/
def cd39 : CC := (.dr [⟨0, .R, ⟨some 3, (Op.load 24 (Operand.tmp 1)), none⟩, [], false⟩,
  ⟨1, .F, ⟨some 4, (Op.move (Operand.tmp 0)), none⟩, [], false⟩,
  ⟨2, .E, ⟨some 5, (Op.call { callee := (Callee.value (Operand.func 40)), args := #[(Operand.tmp 4)], argTypes := #[74] }), none⟩, [], true⟩,
  ⟨3, .F, ⟨some 6, (Op.buildSlice 24 1 #[(0, (Operand.tmp 5))]), none⟩, [], false⟩,
  ⟨4, .E, ⟨some 7, (Op.call { callee := (Callee.builtin Builtin.append), args := #[(Operand.tmp 3), (Operand.tmp 6)], argTypes := #[24, 24] }), none⟩, [], false⟩,
  ⟨5, .E, ⟨none, (Op.store 24 (Operand.tmp 1) (Operand.tmp 7)), none⟩, [], false⟩])
theorem fn39 : FnFact Try.prog 39 8 [(0, [(0, 3), (1, 0), (2, 4), (3, 0), (4, 2), (5, 2)], [[], [], [1], [1, 2], [0, 1, 2, 3], [0, 1, 2, 3, 4]])] [] cd39 := ⟨by kernel_rfl, ⟨Try.f39, Try.func39, by kernel_rfl, by rfl, Try.ntmps39, congrArg Array.toList Try.results39⟩⟩
/-- (*examiner/walk.node).public -/
def cd40 : CC := (.seq (.reg [⟨some 2, (Op.alloc 55), none⟩])
 (.seq (.dr [⟨0, .F, ⟨some 3, (Op.move (Operand.tmp 0)), none⟩, [], false⟩,
  ⟨1, .F, ⟨some 4, (Op.nilCheck (Operand.tmp 3)), none⟩, [], false⟩,
  ⟨2, .F, ⟨some 5, (Op.fieldAddr 92 (Operand.tmp 4) 0), none⟩, [], false⟩,
  ⟨3, .R, ⟨some 6, (Op.load 41 (Operand.tmp 5)), none⟩, [], false⟩,
  ⟨4, .F, ⟨some 7, (Op.move (Operand.tmp 0)), none⟩, [], false⟩,
  ⟨5, .F, ⟨some 8, (Op.nilCheck (Operand.tmp 7)), none⟩, [], false⟩,
  ⟨6, .F, ⟨some 9, (Op.fieldAddr 92 (Operand.tmp 8) 1), none⟩, [], false⟩,
  ⟨7, .R, ⟨some 10, (Op.load 4 (Operand.tmp 9)), none⟩, [], false⟩,
  ⟨8, .F, ⟨some 11, (Op.move (Operand.tmp 0)), none⟩, [], false⟩,
  ⟨9, .F, ⟨some 12, (Op.nilCheck (Operand.tmp 11)), none⟩, [], false⟩,
  ⟨10, .F, ⟨some 13, (Op.fieldAddr 92 (Operand.tmp 12) 2), none⟩, [], false⟩,
  ⟨11, .R, ⟨some 14, (Op.load 4 (Operand.tmp 13)), none⟩, [], false⟩,
  ⟨12, .F, ⟨some 15, (Op.move (Operand.tmp 0)), none⟩, [], false⟩,
  ⟨13, .F, ⟨some 16, (Op.nilCheck (Operand.tmp 15)), none⟩, [], false⟩,
  ⟨14, .F, ⟨some 17, (Op.fieldAddr 92 (Operand.tmp 16) 8), none⟩, [], false⟩,
  ⟨15, .R, ⟨some 18, (Op.load 3 (Operand.tmp 17)), none⟩, [], false⟩,
  ⟨16, .F, ⟨some 19, (Op.move (Operand.tmp 0)), none⟩, [], false⟩,
  ⟨17, .F, ⟨some 20, (Op.nilCheck (Operand.tmp 19)), none⟩, [], false⟩,
  ⟨18, .F, ⟨some 21, (Op.fieldAddr 92 (Operand.tmp 20) 3), none⟩, [], false⟩,
  ⟨19, .R, ⟨some 22, (Op.load 3 (Operand.tmp 21)), none⟩, [], false⟩,
  ⟨20, .F, ⟨some 23, (Op.move (Operand.tmp 0)), none⟩, [], false⟩,
  ⟨21, .F, ⟨some 24, (Op.nilCheck (Operand.tmp 23)), none⟩, [], false⟩,
  ⟨22, .F, ⟨some 25, (Op.fieldAddr 92 (Operand.tmp 24) 5), none⟩, [], false⟩,
  ⟨23, .R, ⟨some 26, (Op.load 3 (Operand.tmp 25)), none⟩, [], false⟩,
  ⟨24, .F, ⟨some 27, (Op.move (Operand.tmp 0)), none⟩, [], false⟩,
  ⟨25, .F, ⟨some 28, (Op.nilCheck (Operand.tmp 27)), none⟩, [], false⟩,
  ⟨26, .F, ⟨some 29, (Op.fieldAddr 92 (Operand.tmp 28) 6), none⟩, [], false⟩,
  ⟨27, .R, ⟨some 30, (Op.load 3 (Operand.tmp 29)), none⟩, [], false⟩,
  ⟨28, .F, ⟨some 31, (Op.move (Operand.tmp 0)), none⟩, [], false⟩,
  ⟨29, .F, ⟨some 32, (Op.nilCheck (Operand.tmp 31)), none⟩, [], false⟩,
  ⟨30, .F, ⟨some 33, (Op.fieldAddr 92 (Operand.tmp 32) 7), none⟩, [], false⟩,
  ⟨31, .R, ⟨some 34, (Op.load 3 (Operand.tmp 33)), none⟩, [], false⟩,
  ⟨32, .F, ⟨some 35, (Op.build 55 #[(0, (Operand.tmp 6)), (1, (Operand.tmp 10)), (2, (Operand.tmp 14)), (3, (Operand.tmp 18)), (4, (Operand.tmp 22)), (5, (Operand.tmp 26)), (6, (Operand.tmp 30)), (7, (Operand.tmp 34))]), none⟩, [], false⟩,
  ⟨33, .E, ⟨none, (Op.store 55 (Operand.tmp 2) (Operand.tmp 35)), none⟩, [], false⟩])
 .ret))
theorem fn40 : FnFact Try.prog 40 36 [(1, [(0, 0), (1, 0), (2, 0), (3, 3), (4, 0), (5, 0), (6, 0), (7, 3), (8, 0), (9, 0), (10, 0), (11, 3), (12, 0), (13, 0), (14, 0), (15, 3), (16, 0), (17, 0), (18, 0), (19, 3), (20, 0), (21, 0), (22, 0), (23, 3), (24, 0), (25, 0), (26, 0), (27, 3), (28, 0), (29, 0), (30, 0), (31, 3), (32, 0), (33, 2)], [[], [0], [0, 1], [0, 1, 2], [], [4], [4, 5], [4, 5, 6], [], [8], [8, 9], [8, 9, 10], [], [12], [12, 13], [12, 13, 14], [], [16], [16, 17], [16, 17, 18], [], [20], [20, 21], [20, 21, 22], [], [24], [24, 25], [24, 25, 26], [], [28], [28, 29], [28, 29, 30], [0, 1, 2, 3, 4, 5, 6, 7, 8, 9, 10, 11, 12, 13, 14, 15, 16, 17, 18, 19, 20, 21, 22, 23, 24, 25, 26, 27, 28, 29, 30, 31], [0, 1, 2, 3, 4, 5, 6, 7, 8, 9, 10, 11, 12, 13, 14, 15, 16, 17, 18, 19, 20, 21, 22, 23, 24, 25, 26, 27, 28, 29, 30, 31, 32]])] [(ResultVar.cell 2 55)] cd40 := ⟨by kernel_rfl, ⟨Try.f40, Try.func40, by kernel_rfl, by rfl, Try.ntmps40, congrArg Array.toList Try.results40⟩⟩
end Cd
end Go.Proofs.Ytmjjfdppaomcfaa

/- The code of functions with a range over a list from its end, by program. -/
namespace Go.Proofs.Ytmjjfdppaomcfaa
open Go Go.Proofs.Ytmjjfdppaomcfaa.Ab
namespace Cd
def cd440 : CC := (.reg [⟨some 4, (Op.box 9 (Operand.tmp 0)), none⟩,
  ⟨some 8, (Op.assign (Operand.const (Value.string { data := #[] }))), none⟩])
def cd441 : CC := (.dr [⟨0, .F, ⟨some 16, (Op.move (Operand.tmp 2)), none⟩, [], false⟩,
  ⟨1, .F, ⟨some 17, (Op.nilCheck (Operand.tmp 16)), none⟩, [], false⟩,
  ⟨2, .F, ⟨some 18, (Op.fieldAddr 92 (Operand.tmp 17) 3), none⟩, [], false⟩,
  ⟨3, .R, ⟨some 19, (Op.load 3 (Operand.tmp 18)), none⟩, [], false⟩,
  ⟨4, .F, ⟨some 20, (Op.move (Operand.tmp 2)), none⟩, [], false⟩,
  ⟨5, .F, ⟨some 21, (Op.nilCheck (Operand.tmp 20)), none⟩, [], false⟩,
  ⟨6, .F, ⟨some 22, (Op.fieldAddr 92 (Operand.tmp 21) 7), none⟩, [], false⟩,
  ⟨7, .R, ⟨some 23, (Op.load 3 (Operand.tmp 22)), none⟩, [], false⟩,
  ⟨8, .F, ⟨some 24, (Op.move (Operand.tmp 3)), none⟩, [], false⟩,
  ⟨9, .A, ⟨some 9, (Op.alloc 3), none⟩, [], false⟩,
  ⟨10, .A, ⟨some 10, (Op.alloc 3), none⟩, [], false⟩,
  ⟨11, .A, ⟨some 11, (Op.alloc 9), none⟩, [], false⟩,
  ⟨12, .E, ⟨none, (Op.store 3 (Operand.tmp 9) (Operand.tmp 19)), none⟩, [9, 10, 11], true⟩,
  ⟨13, .E, ⟨none, (Op.store 3 (Operand.tmp 10) (Operand.tmp 23)), none⟩, [9, 10, 11], false⟩,
  ⟨14, .E, ⟨none, (Op.store 9 (Operand.tmp 11) (Operand.tmp 24)), none⟩, [9, 10, 11], false⟩])
def cd442 : CC := (.reg [⟨some 25, (Op.move (Operand.tmp 1)), none⟩,
  ⟨some 26, (Op.call { callee := (Callee.value (Operand.func 60)), args := #[(Operand.tmp 25)], argTypes := #[70] }), none⟩])
def cd44G : CC := (.reg [⟨some 13, (Op.assign (Operand.tmp 28)), none⟩])
def cd44D : CC := (.block 1 (.seq (.dr [⟨0, .R, ⟨some 29, (Op.load 9 (Operand.tmp 4)), none⟩, [], false⟩,
  ⟨1, .F, ⟨some 30, (Op.move (Operand.tmp 13)), none⟩, [], false⟩,
  ⟨2, .F, ⟨some 31, (Op.nilCheck (Operand.tmp 30)), none⟩, [], false⟩,
  ⟨3, .F, ⟨some 32, (Op.fieldAddr 92 (Operand.tmp 31) 5), none⟩, [], false⟩,
  ⟨4, .R, ⟨some 33, (Op.load 3 (Operand.tmp 32)), none⟩, [], false⟩,
  ⟨5, .R, ⟨some 34, (Op.load 3 (Operand.tmp 9)), none⟩, [], false⟩,
  ⟨6, .F, ⟨some 35, (Op.slice 9 (Operand.tmp 29) (some (Operand.tmp 33)) (some (Operand.tmp 34)) none), none⟩, [], false⟩,
  ⟨7, .R, ⟨some 36, (Op.load 9 (Operand.tmp 11)), none⟩, [], false⟩,
  ⟨8, .F, ⟨some 37, (Op.binOp BinOp.add 9 (Operand.tmp 35) (Operand.tmp 36) 9), none⟩, [], false⟩,
  ⟨9, .R, ⟨some 38, (Op.load 9 (Operand.tmp 4)), none⟩, [], false⟩,
  ⟨10, .R, ⟨some 39, (Op.load 3 (Operand.tmp 10)), none⟩, [], false⟩,
  ⟨11, .F, ⟨some 40, (Op.move (Operand.tmp 13)), none⟩, [], false⟩,
  ⟨12, .F, ⟨some 41, (Op.nilCheck (Operand.tmp 40)), none⟩, [], false⟩,
  ⟨13, .F, ⟨some 42, (Op.fieldAddr 92 (Operand.tmp 41) 6), none⟩, [], false⟩,
  ⟨14, .R, ⟨some 43, (Op.load 3 (Operand.tmp 42)), none⟩, [], false⟩,
  ⟨15, .F, ⟨some 44, (Op.slice 9 (Operand.tmp 38) (some (Operand.tmp 39)) (some (Operand.tmp 43)) none), none⟩, [], false⟩,
  ⟨16, .F, ⟨some 45, (Op.binOp BinOp.add 9 (Operand.tmp 37) (Operand.tmp 44) 9), none⟩, [], false⟩,
  ⟨17, .F, ⟨some 14, (Op.assign (Operand.tmp 45)), none⟩, [], false⟩])
 (.seq (.dr [⟨0, .R, ⟨some 46, (Op.load 9 (Operand.tmp 4)), none⟩, [], false⟩,
  ⟨1, .F, ⟨some 47, (Op.move (Operand.tmp 13)), none⟩, [], false⟩,
  ⟨2, .F, ⟨some 48, (Op.nilCheck (Operand.tmp 47)), none⟩, [], false⟩,
  ⟨3, .F, ⟨some 49, (Op.fieldAddr 92 (Operand.tmp 48) 4), none⟩, [], false⟩,
  ⟨4, .R, ⟨some 50, (Op.load 3 (Operand.tmp 49)), none⟩, [], false⟩,
  ⟨5, .F, ⟨some 51, (Op.move (Operand.tmp 13)), none⟩, [], false⟩,
  ⟨6, .F, ⟨some 52, (Op.nilCheck (Operand.tmp 51)), none⟩, [], false⟩,
  ⟨7, .F, ⟨some 53, (Op.fieldAddr 92 (Operand.tmp 52) 5), none⟩, [], false⟩,
  ⟨8, .R, ⟨some 54, (Op.load 3 (Operand.tmp 53)), none⟩, [], false⟩,
  ⟨9, .F, ⟨some 55, (Op.slice 9 (Operand.tmp 46) (some (Operand.tmp 50)) (some (Operand.tmp 54)) none), none⟩, [], false⟩,
  ⟨10, .F, ⟨some 15, (Op.assign (Operand.tmp 55)), none⟩, [], false⟩])
 (.seq (.seq (.reg [⟨some 56, (Op.move (Operand.tmp 13)), none⟩,
  ⟨some 57, (Op.nilCheck (Operand.tmp 56)), none⟩,
  ⟨some 58, (Op.fieldAddr 92 (Operand.tmp 57) 2), none⟩,
  ⟨some 59, (Op.load 4 (Operand.tmp 58)), none⟩,
  ⟨some 60, (Op.unOp UnOp.not 4 (Operand.tmp 59)), none⟩])
 (.cond (Operand.tmp 60) (.dr [⟨0, .F, ⟨some 61, (Op.move (Operand.tmp 14)), none⟩, [], false⟩,
  ⟨1, .F, ⟨some 62, (Op.call { callee := (Callee.builtin Builtin.len), args := #[(Operand.tmp 61)], argTypes := #[9] }), none⟩, [], false⟩,
  ⟨2, .F, ⟨some 63, (Op.move (Operand.tmp 13)), none⟩, [], false⟩,
  ⟨3, .F, ⟨some 64, (Op.nilCheck (Operand.tmp 63)), none⟩, [], false⟩,
  ⟨4, .F, ⟨some 65, (Op.fieldAddr 92 (Operand.tmp 64) 5), none⟩, [], false⟩,
  ⟨5, .R, ⟨some 66, (Op.load 3 (Operand.tmp 65)), none⟩, [], false⟩,
  ⟨6, .F, ⟨some 67, (Op.move (Operand.tmp 13)), none⟩, [], false⟩,
  ⟨7, .F, ⟨some 68, (Op.nilCheck (Operand.tmp 67)), none⟩, [], false⟩,
  ⟨8, .F, ⟨some 69, (Op.fieldAddr 92 (Operand.tmp 68) 4), none⟩, [], false⟩,
  ⟨9, .R, ⟨some 70, (Op.load 3 (Operand.tmp 69)), none⟩, [], false⟩,
  ⟨10, .F, ⟨some 71, (Op.binOp BinOp.sub 3 (Operand.tmp 66) (Operand.tmp 70) 3), none⟩, [], false⟩,
  ⟨11, .E, ⟨some 72, (Op.call { callee := (Callee.value (Operand.func 48)), args := #[(Operand.tmp 62), (Operand.tmp 71)], argTypes := #[3, 3] }), none⟩, [], false⟩,
  ⟨12, .F, ⟨some 15, (Op.assign (Operand.tmp 72)), none⟩, [], false⟩]) .skip))
 (.seq (.dr [⟨0, .R, ⟨some 73, (Op.load 9 (Operand.tmp 4)), none⟩, [], false⟩,
  ⟨1, .F, ⟨some 74, (Op.move (Operand.tmp 13)), none⟩, [], false⟩,
  ⟨2, .F, ⟨some 75, (Op.nilCheck (Operand.tmp 74)), none⟩, [], false⟩,
  ⟨3, .F, ⟨some 76, (Op.fieldAddr 92 (Operand.tmp 75) 3), none⟩, [], false⟩,
  ⟨4, .R, ⟨some 77, (Op.load 3 (Operand.tmp 76)), none⟩, [], false⟩,
  ⟨5, .F, ⟨some 78, (Op.move (Operand.tmp 13)), none⟩, [], false⟩,
  ⟨6, .F, ⟨some 79, (Op.nilCheck (Operand.tmp 78)), none⟩, [], false⟩,
  ⟨7, .F, ⟨some 80, (Op.fieldAddr 92 (Operand.tmp 79) 4), none⟩, [], false⟩,
  ⟨8, .R, ⟨some 81, (Op.load 3 (Operand.tmp 80)), none⟩, [], false⟩,
  ⟨9, .F, ⟨some 82, (Op.slice 9 (Operand.tmp 73) (some (Operand.tmp 77)) (some (Operand.tmp 81)) none), none⟩, [], false⟩,
  ⟨10, .F, ⟨some 83, (Op.move (Operand.tmp 15)), none⟩, [], false⟩,
  ⟨11, .F, ⟨some 84, (Op.binOp BinOp.add 9 (Operand.tmp 82) (Operand.tmp 83) 9), none⟩, [], false⟩,
  ⟨12, .F, ⟨some 85, (Op.move (Operand.tmp 14)), none⟩, [], false⟩,
  ⟨13, .F, ⟨some 86, (Op.binOp BinOp.add 9 (Operand.tmp 84) (Operand.tmp 85) 9), none⟩, [], false⟩,
  ⟨14, .R, ⟨some 87, (Op.load 9 (Operand.tmp 4)), none⟩, [], false⟩,
  ⟨15, .F, ⟨some 88, (Op.move (Operand.tmp 13)), none⟩, [], false⟩,
  ⟨16, .F, ⟨some 89, (Op.nilCheck (Operand.tmp 88)), none⟩, [], false⟩,
  ⟨17, .F, ⟨some 90, (Op.fieldAddr 92 (Operand.tmp 89) 6), none⟩, [], false⟩,
  ⟨18, .R, ⟨some 91, (Op.load 3 (Operand.tmp 90)), none⟩, [], false⟩,
  ⟨19, .F, ⟨some 92, (Op.move (Operand.tmp 13)), none⟩, [], false⟩,
  ⟨20, .F, ⟨some 93, (Op.nilCheck (Operand.tmp 92)), none⟩, [], false⟩,
  ⟨21, .F, ⟨some 94, (Op.fieldAddr 92 (Operand.tmp 93) 7), none⟩, [], false⟩,
  ⟨22, .R, ⟨some 95, (Op.load 3 (Operand.tmp 94)), none⟩, [], false⟩,
  ⟨23, .F, ⟨some 96, (Op.slice 9 (Operand.tmp 87) (some (Operand.tmp 91)) (some (Operand.tmp 95)) none), none⟩, [], false⟩,
  ⟨24, .F, ⟨some 97, (Op.binOp BinOp.add 9 (Operand.tmp 86) (Operand.tmp 96) 9), none⟩, [], false⟩,
  ⟨25, .E, ⟨none, (Op.store 9 (Operand.tmp 11) (Operand.tmp 97)), none⟩, [], false⟩])
 (.dr [⟨0, .F, ⟨some 98, (Op.move (Operand.tmp 13)), none⟩, [], false⟩,
  ⟨1, .F, ⟨some 99, (Op.nilCheck (Operand.tmp 98)), none⟩, [], false⟩,
  ⟨2, .F, ⟨some 100, (Op.fieldAddr 92 (Operand.tmp 99) 3), none⟩, [], false⟩,
  ⟨3, .R, ⟨some 101, (Op.load 3 (Operand.tmp 100)), none⟩, [], false⟩,
  ⟨4, .F, ⟨some 102, (Op.move (Operand.tmp 13)), none⟩, [], false⟩,
  ⟨5, .F, ⟨some 103, (Op.nilCheck (Operand.tmp 102)), none⟩, [], false⟩,
  ⟨6, .F, ⟨some 104, (Op.fieldAddr 92 (Operand.tmp 103) 7), none⟩, [], false⟩,
  ⟨7, .R, ⟨some 105, (Op.load 3 (Operand.tmp 104)), none⟩, [], false⟩,
  ⟨8, .E, ⟨none, (Op.store 3 (Operand.tmp 9) (Operand.tmp 101)), none⟩, [], true⟩,
  ⟨9, .E, ⟨none, (Op.store 3 (Operand.tmp 10) (Operand.tmp 105)), none⟩, [], false⟩]))))))
def cd44C : CC := (.seq (.dr [⟨0, .R, ⟨some 106, (Op.load 9 (Operand.tmp 4)), none⟩, [], false⟩,
  ⟨1, .R, ⟨some 107, (Op.load 3 (Operand.tmp 9)), none⟩, [], false⟩,
  ⟨2, .F, ⟨some 108, (Op.slice 9 (Operand.tmp 106) none (some (Operand.tmp 107)) none), none⟩, [], false⟩,
  ⟨3, .R, ⟨some 109, (Op.load 9 (Operand.tmp 11)), none⟩, [], false⟩,
  ⟨4, .F, ⟨some 110, (Op.binOp BinOp.add 9 (Operand.tmp 108) (Operand.tmp 109) 9), none⟩, [], false⟩,
  ⟨5, .R, ⟨some 111, (Op.load 9 (Operand.tmp 4)), none⟩, [], false⟩,
  ⟨6, .R, ⟨some 112, (Op.load 3 (Operand.tmp 10)), none⟩, [], false⟩,
  ⟨7, .F, ⟨some 113, (Op.slice 9 (Operand.tmp 111) (some (Operand.tmp 112)) none none), none⟩, [], false⟩,
  ⟨8, .F, ⟨some 114, (Op.binOp BinOp.add 9 (Operand.tmp 110) (Operand.tmp 113) 9), none⟩, [], false⟩,
  ⟨9, .F, ⟨some 8, (Op.assign (Operand.tmp 114)), none⟩, [], false⟩])
 .ret)
theorem fn44 : FnB Try.prog 44 115 [(1, [(0, 0), (1, 0), (2, 0), (3, 3), (4, 0), (5, 0), (6, 0), (7, 3), (8, 0), (9, 1), (10, 1), (11, 1), (12, 4), (13, 2), (14, 2)], [[], [0], [0, 1], [0, 1, 2], [], [4], [4, 5], [4, 5, 6], [], [], [], [], [0, 1, 2, 3, 9, 10, 11], [0, 1, 2, 3, 4, 5, 6, 7, 9, 10, 11, 12], [0, 1, 2, 3, 4, 5, 6, 7, 8, 9, 10, 11, 12, 13]]), (4, [(0, 3), (1, 0), (2, 0), (3, 0), (4, 3), (5, 3), (6, 0), (7, 3), (8, 0), (9, 3), (10, 3), (11, 0), (12, 0), (13, 0), (14, 3), (15, 0), (16, 0), (17, 0)], [[], [], [1], [1, 2], [1, 2, 3], [], [0, 1, 2, 3, 4, 5], [], [0, 1, 2, 3, 4, 5, 6, 7], [], [], [], [11], [11, 12], [11, 12, 13], [9, 10, 11, 12, 13, 14], [0, 1, 2, 3, 4, 5, 6, 7, 8, 9, 10, 11, 12, 13, 14, 15], [0, 1, 2, 3, 4, 5, 6, 7, 8, 9, 10, 11, 12, 13, 14, 15, 16]]), (5, [(0, 3), (1, 0), (2, 0), (3, 0), (4, 3), (5, 0), (6, 0), (7, 0), (8, 3), (9, 0), (10, 0)], [[], [], [1], [1, 2], [1, 2, 3], [], [5], [5, 6], [5, 6, 7], [0, 1, 2, 3, 4, 5, 6, 7, 8], [0, 1, 2, 3, 4, 5, 6, 7, 8, 9]]), (7, [(0, 0), (1, 0), (2, 0), (3, 0), (4, 0), (5, 3), (6, 0), (7, 0), (8, 0), (9, 3), (10, 0), (11, 2), (12, 0)], [[], [0], [], [2], [2, 3], [2, 3, 4], [], [6], [6, 7], [6, 7, 8], [2, 3, 4, 5, 6, 7, 8, 9], [0, 1, 2, 3, 4, 5, 6, 7, 8, 9, 10], [0, 1, 2, 3, 4, 5, 6, 7, 8, 9, 10, 11]]), (8, [(0, 3), (1, 0), (2, 0), (3, 0), (4, 3), (5, 0), (6, 0), (7, 0), (8, 3), (9, 0), (10, 0), (11, 0), (12, 0), (13, 0), (14, 3), (15, 0), (16, 0), (17, 0), (18, 3), (19, 0), (20, 0), (21, 0), (22, 3), (23, 0), (24, 0), (25, 2)], [[], [], [1], [1, 2], [1, 2, 3], [], [5], [5, 6], [5, 6, 7], [0, 1, 2, 3, 4, 5, 6, 7, 8], [], [0, 1, 2, 3, 4, 5, 6, 7, 8, 9, 10], [], [0, 1, 2, 3, 4, 5, 6, 7, 8, 9, 10, 11, 12], [], [], [15], [15, 16], [15, 16, 17], [], [19], [19, 20], [19, 20, 21], [14, 15, 16, 17, 18, 19, 20, 21, 22], [0, 1, 2, 3, 4, 5, 6, 7, 8, 9, 10, 11, 12, 13, 14, 15, 16, 17, 18, 19, 20, 21, 22, 23], [0, 1, 2, 3, 4, 5, 6, 7, 8, 9, 10, 11, 12, 13, 14, 15, 16, 17, 18, 19, 20, 21, 22, 23, 24]]), (9, [(0, 0), (1, 0), (2, 0), (3, 3), (4, 0), (5, 0), (6, 0), (7, 3), (8, 4), (9, 2)], [[], [0], [0, 1], [0, 1, 2], [], [4], [4, 5], [4, 5, 6], [0, 1, 2, 3], [0, 1, 2, 3, 4, 5, 6, 7, 8]]), (10, [(0, 3), (1, 3), (2, 0), (3, 3), (4, 0), (5, 3), (6, 3), (7, 0), (8, 0), (9, 0)], [[], [], [0, 1], [], [0, 1, 2, 3], [], [], [5, 6], [0, 1, 2, 3, 4, 5, 6, 7], [0, 1, 2, 3, 4, 5, 6, 7, 8]])] [(ResultVar.tmp 8)] cd440 cd441 cd442 (Operand.tmp 26) 27 28 cd44G cd44D cd44C := ⟨by kernel_rfl, ⟨Try.f44, Try.func44, ⟨_, _, _, _, _, _, _, rfl, by kernel_rfl, by kernel_rfl, by kernel_rfl, by kernel_rfl, by kernel_rfl, by kernel_rfl, by kernel_rfl, by kernel_rfl⟩, by rfl, Try.ntmps44, congrArg Array.toList Try.results44⟩, by decide, by decide⟩
end Cd
end Go.Proofs.Ytmjjfdppaomcfaa

/- For each function the facts on types that a walk through it needs, by program. -/
namespace Go.Proofs.Ytmjjfdppaomcfaa
open Go Go.Proofs.Ytmjjfdppaomcfaa.Ab
namespace Tk
theorem aI {a b : Prop} (x : a) (y : b) : a ∧ b := ⟨x, y⟩
def tkd8 := (aI @Ty.ag1 (aI @Ty.by1 (aI @Ty.if1 (aI @Ty.sz1 (aI @Ty.un1 (aI @Ty.unn1 (aI @Ty.zr1 (aI @Ty.ag2 (aI @Ty.by2 (aI @Ty.if2 (aI @Ty.in2 (aI @Ty.sz2 (aI @Ty.un2 (aI @Ty.unn2 (aI @Ty.zr2 (aI @Ty.ag3 (aI @Ty.by3 (aI @Ty.if3 (aI @Ty.in3 (aI @Ty.sz3 (aI @Ty.un3 (aI @Ty.unn3 (aI @Ty.zr3 (aI @Ty.ag4 (aI @Ty.bo4 (aI @Ty.by4 (aI @Ty.if4 (aI @Ty.sz4 (aI @Ty.un4 (aI @Ty.unn4 (aI @Ty.zr4 (aI @Ty.ag5 (aI @Ty.by5 (aI @Ty.if5 (aI @Ty.in5 (aI @Ty.sz5 (aI @Ty.un5 (aI @Ty.unn5 (aI @Ty.zr5 (aI @Ty.ag6 (aI @Ty.by6 (aI @Ty.if6 (aI @Ty.in6 (aI @Ty.sz6 (aI @Ty.un6 (aI @Ty.unn6 (aI @Ty.zr6 (aI @Ty.ag7 (aI @Ty.by7 (aI @Ty.fo7_0 (aI @Ty.fo7_1 (aI @Ty.fo7_2 (aI @Ty.fo7_3 (aI @Ty.ft7_0 (aI @Ty.ft7_1 (aI @Ty.ft7_2 (aI @Ty.ft7_3 (aI @Ty.if7 (aI @Ty.pl7 (aI @Ty.sz7 (aI @Ty.un7 (aI @Ty.unn7 (aI @Ty.zr7 (aI @Ty.ag9 (aI @Ty.by9 (aI @Ty.if9 (aI @Ty.ins9 (aI @Ty.ni9 (aI @Ty.st9 (aI @Ty.sz9 (aI @Ty.un9 (aI @Ty.unn9 (aI @Ty.zr9 (aI @Ty.ag24 (aI @Ty.by24 (aI @Ty.el24 (aI @Ty.if24 (aI @Ty.ni24 (aI @Ty.sz24 (aI @Ty.un24 (aI @Ty.unn24 (aI @Ty.zr24 (aI @Ty.ag25 (aI @Ty.by25 (aI @Ty.if25 (aI @Ty.in25 (aI @Ty.sz25 (aI @Ty.un25 (aI @Ty.unn25 (aI @Ty.zr25 (aI @Ty.ag33 (aI @Ty.by33 (aI @Ty.el33 (aI @Ty.if33 (aI @Ty.ni33 (aI @Ty.sz33 (aI @Ty.un33 (aI @Ty.unn33 (aI @Ty.zr33 (aI @Ty.ag55 (aI @Ty.by55 (aI @Ty.ef55 (aI @Ty.fo55_0 (aI @Ty.fo55_1 (aI @Ty.fo55_2 (aI @Ty.fo55_3 (aI @Ty.fo55_4 (aI @Ty.fo55_5 (aI @Ty.fo55_6 (aI @Ty.fo55_7 (aI @Ty.ft55_0 (aI @Ty.ft55_1 (aI @Ty.ft55_2 (aI @Ty.ft55_3 (aI @Ty.ft55_4 (aI @Ty.ft55_5 (aI @Ty.ft55_6 (aI @Ty.ft55_7 (aI @Ty.if55 (aI @Ty.pl55 (aI @Ty.sz55 (aI @Ty.un55 (aI @Ty.unn55 (@Ty.zr55))))))))))))))))))))))))))))))))))))))))))))))))))))))))))))))))))))))))))))))))))))))))))))))))))))))))))))))))))))))))))))
theorem t8 : type_of% tkd8 := tkd8
def tkd11 := (aI @Ty.ag2 (aI @Ty.by2 (aI @Ty.if2 (aI @Ty.in2 (aI @Ty.sz2 (aI @Ty.un2 (aI @Ty.unn2 (aI @Ty.zr2 (aI @Ty.ag3 (aI @Ty.by3 (aI @Ty.if3 (aI @Ty.in3 (aI @Ty.sz3 (aI @Ty.un3 (aI @Ty.unn3 (aI @Ty.zr3 (aI @Ty.ag9 (aI @Ty.by9 (aI @Ty.if9 (aI @Ty.ins9 (aI @Ty.ni9 (aI @Ty.st9 (aI @Ty.sz9 (aI @Ty.un9 (aI @Ty.unn9 (aI @Ty.zr9 (aI @Ty.ag24 (aI @Ty.by24 (aI @Ty.el24 (aI @Ty.if24 (aI @Ty.ni24 (aI @Ty.sz24 (aI @Ty.un24 (aI @Ty.unn24 (aI @Ty.zr24 (aI @Ty.ag25 (aI @Ty.by25 (aI @Ty.if25 (aI @Ty.in25 (aI @Ty.sz25 (aI @Ty.un25 (aI @Ty.unn25 (aI @Ty.zr25 (aI @Ty.ag33 (aI @Ty.by33 (aI @Ty.el33 (aI @Ty.if33 (aI @Ty.ni33 (aI @Ty.sz33 (aI @Ty.un33 (aI @Ty.unn33 (aI @Ty.zr33 (aI @Ty.ag55 (aI @Ty.by55 (aI @Ty.ef55 (aI @Ty.fo55_0 (aI @Ty.fo55_1 (aI @Ty.fo55_2 (aI @Ty.fo55_3 (aI @Ty.fo55_4 (aI @Ty.fo55_5 (aI @Ty.fo55_6 (aI @Ty.fo55_7 (aI @Ty.ft55_0 (aI @Ty.ft55_1 (aI @Ty.ft55_2 (aI @Ty.ft55_3 (aI @Ty.ft55_4 (aI @Ty.ft55_5 (aI @Ty.ft55_6 (aI @Ty.ft55_7 (aI @Ty.if55 (aI @Ty.pl55 (aI @Ty.sz55 (aI @Ty.un55 (aI @Ty.unn55 (@Ty.zr55)))))))))))))))))))))))))))))))))))))))))))))))))))))))))))))))))))))))))))))
theorem t11 : type_of% tkd11 := tkd11
def tkd12 := (aI @Ty.ag3 (aI @Ty.by3 (aI @Ty.if3 (aI @Ty.in3 (aI @Ty.sz3 (aI @Ty.un3 (aI @Ty.unn3 (aI @Ty.zr3 (aI @Ty.ag9 (aI @Ty.by9 (aI @Ty.if9 (aI @Ty.ins9 (aI @Ty.ni9 (aI @Ty.st9 (aI @Ty.sz9 (aI @Ty.un9 (aI @Ty.unn9 (@Ty.zr9))))))))))))))))))
theorem t12 : type_of% tkd12 := tkd12
def tkd13 := (aI @Ty.ag9 (aI @Ty.by9 (aI @Ty.if9 (aI @Ty.ins9 (aI @Ty.ni9 (aI @Ty.st9 (aI @Ty.sz9 (aI @Ty.un9 (aI @Ty.unn9 (aI @Ty.zr9 (aI @Ty.ag24 (aI @Ty.by24 (aI @Ty.el24 (aI @Ty.if24 (aI @Ty.ni24 (aI @Ty.sz24 (aI @Ty.un24 (aI @Ty.unn24 (aI @Ty.zr24 (aI @Ty.ag25 (aI @Ty.by25 (aI @Ty.if25 (aI @Ty.in25 (aI @Ty.sz25 (aI @Ty.un25 (aI @Ty.unn25 (aI @Ty.zr25 (aI @Ty.ag55 (aI @Ty.by55 (aI @Ty.ef55 (aI @Ty.fo55_0 (aI @Ty.fo55_1 (aI @Ty.fo55_2 (aI @Ty.fo55_3 (aI @Ty.fo55_4 (aI @Ty.fo55_5 (aI @Ty.fo55_6 (aI @Ty.fo55_7 (aI @Ty.ft55_0 (aI @Ty.ft55_1 (aI @Ty.ft55_2 (aI @Ty.ft55_3 (aI @Ty.ft55_4 (aI @Ty.ft55_5 (aI @Ty.ft55_6 (aI @Ty.ft55_7 (aI @Ty.if55 (aI @Ty.pl55 (aI @Ty.sz55 (aI @Ty.un55 (aI @Ty.unn55 (aI @Ty.zr55 (aI @Ty.ag70 (aI @Ty.by70 (aI @Ty.el70 (aI @Ty.if70 (aI @Ty.ni70 (aI @Ty.sz70 (aI @Ty.un70 (aI @Ty.unn70 (aI @Ty.zr70 (aI @Ty.ag74 (aI @Ty.by74 (aI @Ty.if74 (aI @Ty.po74 (aI @Ty.sz74 (aI @Ty.un74 (aI @Ty.unn74 (aI @Ty.zr74 (aI @Ty.ag76 (aI @Ty.by76 (aI @Ty.if76 (aI @Ty.sz76 (aI @Ty.un76 (aI @Ty.unn76 (@Ty.zr76))))))))))))))))))))))))))))))))))))))))))))))))))))))))))))))))))))))))))))
theorem t13 : type_of% tkd13 := tkd13
def tkd16 := (aI @Ty.ag3 (aI @Ty.by3 (aI @Ty.if3 (aI @Ty.in3 (aI @Ty.sz3 (aI @Ty.un3 (aI @Ty.unn3 (aI @Ty.zr3 (aI @Ty.ag9 (aI @Ty.by9 (aI @Ty.if9 (aI @Ty.ins9 (aI @Ty.ni9 (aI @Ty.st9 (aI @Ty.sz9 (aI @Ty.un9 (aI @Ty.unn9 (aI @Ty.zr9 (aI @Ty.ag25 (aI @Ty.by25 (aI @Ty.if25 (aI @Ty.in25 (aI @Ty.sz25 (aI @Ty.un25 (aI @Ty.unn25 (aI @Ty.zr25 (aI @Ty.ag33 (aI @Ty.by33 (aI @Ty.el33 (aI @Ty.if33 (aI @Ty.ni33 (aI @Ty.sz33 (aI @Ty.un33 (aI @Ty.unn33 (aI @Ty.zr33 (aI @Ty.ag70 (aI @Ty.by70 (aI @Ty.el70 (aI @Ty.if70 (aI @Ty.ni70 (aI @Ty.sz70 (aI @Ty.un70 (aI @Ty.unn70 (aI @Ty.zr70 (aI @Ty.ag74 (aI @Ty.by74 (aI @Ty.if74 (aI @Ty.po74 (aI @Ty.sz74 (aI @Ty.un74 (aI @Ty.unn74 (@Ty.zr74))))))))))))))))))))))))))))))))))))))))))))))))))))
theorem t16 : type_of% tkd16 := tkd16
def tkd17 := (aI @Ty.ag3 (aI @Ty.by3 (aI @Ty.if3 (aI @Ty.in3 (aI @Ty.sz3 (aI @Ty.un3 (aI @Ty.unn3 (aI @Ty.zr3 (aI @Ty.ag33 (aI @Ty.by33 (aI @Ty.el33 (aI @Ty.if33 (aI @Ty.ni33 (aI @Ty.sz33 (aI @Ty.un33 (aI @Ty.unn33 (@Ty.zr33)))))))))))))))))
theorem t17 : type_of% tkd17 := tkd17
def tkd27 := (aI @Ty.ag3 (aI @Ty.by3 (aI @Ty.if3 (aI @Ty.in3 (aI @Ty.sz3 (aI @Ty.un3 (aI @Ty.unn3 (aI @Ty.zr3 (aI @Ty.ag9 (aI @Ty.by9 (aI @Ty.if9 (aI @Ty.ins9 (aI @Ty.ni9 (aI @Ty.st9 (aI @Ty.sz9 (aI @Ty.un9 (aI @Ty.unn9 (aI @Ty.zr9 (aI @Ty.ag25 (aI @Ty.by25 (aI @Ty.if25 (aI @Ty.in25 (aI @Ty.sz25 (aI @Ty.un25 (aI @Ty.unn25 (aI @Ty.zr25 (aI @Ty.ag33 (aI @Ty.by33 (aI @Ty.el33 (aI @Ty.if33 (aI @Ty.ni33 (aI @Ty.sz33 (aI @Ty.un33 (aI @Ty.unn33 (aI @Ty.zr33 (aI @Ty.ag55 (aI @Ty.by55 (aI @Ty.ef55 (aI @Ty.fo55_0 (aI @Ty.fo55_1 (aI @Ty.fo55_2 (aI @Ty.fo55_3 (aI @Ty.fo55_4 (aI @Ty.fo55_5 (aI @Ty.fo55_6 (aI @Ty.fo55_7 (aI @Ty.ft55_0 (aI @Ty.ft55_1 (aI @Ty.ft55_2 (aI @Ty.ft55_3 (aI @Ty.ft55_4 (aI @Ty.ft55_5 (aI @Ty.ft55_6 (aI @Ty.ft55_7 (aI @Ty.if55 (aI @Ty.pl55 (aI @Ty.sz55 (aI @Ty.un55 (aI @Ty.unn55 (aI @Ty.zr55 (aI @Ty.ag70 (aI @Ty.by70 (aI @Ty.el70 (aI @Ty.if70 (aI @Ty.ni70 (aI @Ty.sz70 (aI @Ty.un70 (aI @Ty.unn70 (aI @Ty.zr70 (aI @Ty.ag74 (aI @Ty.by74 (aI @Ty.if74 (aI @Ty.po74 (aI @Ty.sz74 (aI @Ty.un74 (aI @Ty.unn74 (@Ty.zr74)))))))))))))))))))))))))))))))))))))))))))))))))))))))))))))))))))))))))))))
theorem t27 : type_of% tkd27 := tkd27
def tkd28 := (aI @Ty.ag1 (aI @Ty.by1 (aI @Ty.if1 (aI @Ty.sz1 (aI @Ty.un1 (aI @Ty.unn1 (aI @Ty.zr1 (aI @Ty.ag3 (aI @Ty.by3 (aI @Ty.if3 (aI @Ty.in3 (aI @Ty.sz3 (aI @Ty.un3 (aI @Ty.unn3 (aI @Ty.zr3 (aI @Ty.ag9 (aI @Ty.by9 (aI @Ty.if9 (aI @Ty.ins9 (aI @Ty.ni9 (aI @Ty.st9 (aI @Ty.sz9 (aI @Ty.un9 (aI @Ty.unn9 (aI @Ty.zr9 (aI @Ty.ag25 (aI @Ty.by25 (aI @Ty.if25 (aI @Ty.in25 (aI @Ty.sz25 (aI @Ty.un25 (aI @Ty.unn25 (aI @Ty.zr25 (aI @Ty.ag33 (aI @Ty.by33 (aI @Ty.el33 (aI @Ty.if33 (aI @Ty.ni33 (aI @Ty.sz33 (aI @Ty.un33 (aI @Ty.unn33 (aI @Ty.zr33 (aI @Ty.ag70 (aI @Ty.by70 (aI @Ty.el70 (aI @Ty.if70 (aI @Ty.ni70 (aI @Ty.sz70 (aI @Ty.un70 (aI @Ty.unn70 (aI @Ty.zr70 (aI @Ty.ag74 (aI @Ty.by74 (aI @Ty.if74 (aI @Ty.po74 (aI @Ty.sz74 (aI @Ty.un74 (aI @Ty.unn74 (aI @Ty.zr74 (aI @Ty.ag92 (aI @Ty.by92 (aI @Ty.fo92_0 (aI @Ty.fo92_1 (aI @Ty.fo92_2 (aI @Ty.fo92_3 (aI @Ty.fo92_4 (aI @Ty.fo92_5 (aI @Ty.fo92_6 (aI @Ty.fo92_7 (aI @Ty.fo92_8 (aI @Ty.fo92_9 (aI @Ty.ft92_0 (aI @Ty.ft92_1 (aI @Ty.ft92_2 (aI @Ty.ft92_3 (aI @Ty.ft92_4 (aI @Ty.ft92_5 (aI @Ty.ft92_6 (aI @Ty.ft92_7 (aI @Ty.ft92_8 (aI @Ty.ft92_9 (aI @Ty.if92 (aI @Ty.pl92 (aI @Ty.sz92 (aI @Ty.un92 (aI @Ty.unn92 (aI @Ty.zr92 (aI @Ty.ag93 (aI @Ty.by93 (aI @Ty.if93 (aI @Ty.sz93 (aI @Ty.un93 (aI @Ty.unn93 (@Ty.zr93))))))))))))))))))))))))))))))))))))))))))))))))))))))))))))))))))))))))))))))))))))))))))))))
theorem t28 : type_of% tkd28 := tkd28
def tkd31 := (aI @Ty.ag3 (aI @Ty.by3 (aI @Ty.if3 (aI @Ty.in3 (aI @Ty.sz3 (aI @Ty.un3 (aI @Ty.unn3 (aI @Ty.zr3 (aI @Ty.ag7 (aI @Ty.by7 (aI @Ty.fo7_0 (aI @Ty.fo7_1 (aI @Ty.fo7_2 (aI @Ty.fo7_3 (aI @Ty.ft7_0 (aI @Ty.ft7_1 (aI @Ty.ft7_2 (aI @Ty.ft7_3 (aI @Ty.if7 (aI @Ty.pl7 (aI @Ty.sz7 (aI @Ty.un7 (aI @Ty.unn7 (aI @Ty.zr7 (aI @Ty.ag24 (aI @Ty.by24 (aI @Ty.el24 (aI @Ty.if24 (aI @Ty.ni24 (aI @Ty.sz24 (aI @Ty.un24 (aI @Ty.unn24 (aI @Ty.zr24 (aI @Ty.ag55 (aI @Ty.by55 (aI @Ty.ef55 (aI @Ty.fo55_0 (aI @Ty.fo55_1 (aI @Ty.fo55_2 (aI @Ty.fo55_3 (aI @Ty.fo55_4 (aI @Ty.fo55_5 (aI @Ty.fo55_6 (aI @Ty.fo55_7 (aI @Ty.ft55_0 (aI @Ty.ft55_1 (aI @Ty.ft55_2 (aI @Ty.ft55_3 (aI @Ty.ft55_4 (aI @Ty.ft55_5 (aI @Ty.ft55_6 (aI @Ty.ft55_7 (aI @Ty.if55 (aI @Ty.pl55 (aI @Ty.sz55 (aI @Ty.un55 (aI @Ty.unn55 (@Ty.zr55))))))))))))))))))))))))))))))))))))))))))))))))))))))))))
theorem t31 : type_of% tkd31 := tkd31
def tkd32 := @Nat.zero_add
theorem t32 : type_of% tkd32 := tkd32
def tkd36 := @Nat.zero_add
theorem t36 : type_of% tkd36 := tkd36
def tkd37 := (aI @Ty.ag1 (aI @Ty.by1 (aI @Ty.if1 (aI @Ty.sz1 (aI @Ty.un1 (aI @Ty.unn1 (aI @Ty.zr1 (aI @Ty.ag3 (aI @Ty.by3 (aI @Ty.if3 (aI @Ty.in3 (aI @Ty.sz3 (aI @Ty.un3 (aI @Ty.unn3 (aI @Ty.zr3 (aI @Ty.ag7 (aI @Ty.by7 (aI @Ty.fo7_0 (aI @Ty.fo7_1 (aI @Ty.fo7_2 (aI @Ty.fo7_3 (aI @Ty.ft7_0 (aI @Ty.ft7_1 (aI @Ty.ft7_2 (aI @Ty.ft7_3 (aI @Ty.if7 (aI @Ty.pl7 (aI @Ty.sz7 (aI @Ty.un7 (aI @Ty.unn7 (aI @Ty.zr7 (aI @Ty.ag9 (aI @Ty.by9 (aI @Ty.if9 (aI @Ty.ins9 (aI @Ty.ni9 (aI @Ty.st9 (aI @Ty.sz9 (aI @Ty.un9 (aI @Ty.unn9 (aI @Ty.zr9 (aI @Ty.ag25 (aI @Ty.by25 (aI @Ty.if25 (aI @Ty.in25 (aI @Ty.sz25 (aI @Ty.un25 (aI @Ty.unn25 (aI @Ty.zr25 (aI @Ty.ag70 (aI @Ty.by70 (aI @Ty.el70 (aI @Ty.if70 (aI @Ty.ni70 (aI @Ty.sz70 (aI @Ty.un70 (aI @Ty.unn70 (aI @Ty.zr70 (aI @Ty.ag74 (aI @Ty.by74 (aI @Ty.if74 (aI @Ty.po74 (aI @Ty.sz74 (aI @Ty.un74 (aI @Ty.unn74 (aI @Ty.zr74 (aI @Ty.ag92 (aI @Ty.by92 (aI @Ty.fo92_0 (aI @Ty.fo92_1 (aI @Ty.fo92_2 (aI @Ty.fo92_3 (aI @Ty.fo92_4 (aI @Ty.fo92_5 (aI @Ty.fo92_6 (aI @Ty.fo92_7 (aI @Ty.fo92_8 (aI @Ty.fo92_9 (aI @Ty.ft92_0 (aI @Ty.ft92_1 (aI @Ty.ft92_2 (aI @Ty.ft92_3 (aI @Ty.ft92_4 (aI @Ty.ft92_5 (aI @Ty.ft92_6 (aI @Ty.ft92_7 (aI @Ty.ft92_8 (aI @Ty.ft92_9 (aI @Ty.if92 (aI @Ty.pl92 (aI @Ty.sz92 (aI @Ty.un92 (aI @Ty.unn92 (aI @Ty.zr92 (aI @Ty.ag98 (aI @Ty.by98 (aI @Ty.if98 (aI @Ty.po98 (aI @Ty.sz98 (aI @Ty.un98 (aI @Ty.unn98 (aI @Ty.zr98 (aI @Ty.ag100 (aI @Ty.by100 (aI @Ty.ef100 (aI @Ty.fo100_0 (aI @Ty.fo100_1 (aI @Ty.ft100_0 (aI @Ty.ft100_1 (aI @Ty.if100 (aI @Ty.pl100 (aI @Ty.sz100 (aI @Ty.un100 (aI @Ty.unn100 (@Ty.zr100)))))))))))))))))))))))))))))))))))))))))))))))))))))))))))))))))))))))))))))))))))))))))))))))))))))))))))))))))))
theorem t37 : type_of% tkd37 := tkd37
def tkd38 := (aI @Ty.ag3 (aI @Ty.by3 (aI @Ty.if3 (aI @Ty.in3 (aI @Ty.sz3 (aI @Ty.un3 (aI @Ty.unn3 (aI @Ty.zr3 (aI @Ty.ag9 (aI @Ty.by9 (aI @Ty.if9 (aI @Ty.ins9 (aI @Ty.ni9 (aI @Ty.st9 (aI @Ty.sz9 (aI @Ty.un9 (aI @Ty.unn9 (aI @Ty.zr9 (aI @Ty.ag70 (aI @Ty.by70 (aI @Ty.el70 (aI @Ty.if70 (aI @Ty.ni70 (aI @Ty.sz70 (aI @Ty.un70 (aI @Ty.unn70 (aI @Ty.zr70 (aI @Ty.ag74 (aI @Ty.by74 (aI @Ty.if74 (aI @Ty.po74 (aI @Ty.sz74 (aI @Ty.un74 (aI @Ty.unn74 (aI @Ty.zr74 (aI @Ty.ag76 (aI @Ty.by76 (aI @Ty.if76 (aI @Ty.sz76 (aI @Ty.un76 (aI @Ty.unn76 (aI @Ty.zr76 (aI @Ty.ag92 (aI @Ty.by92 (aI @Ty.fo92_0 (aI @Ty.fo92_1 (aI @Ty.fo92_2 (aI @Ty.fo92_3 (aI @Ty.fo92_4 (aI @Ty.fo92_5 (aI @Ty.fo92_6 (aI @Ty.fo92_7 (aI @Ty.fo92_8 (aI @Ty.fo92_9 (aI @Ty.ft92_0 (aI @Ty.ft92_1 (aI @Ty.ft92_2 (aI @Ty.ft92_3 (aI @Ty.ft92_4 (aI @Ty.ft92_5 (aI @Ty.ft92_6 (aI @Ty.ft92_7 (aI @Ty.ft92_8 (aI @Ty.ft92_9 (aI @Ty.if92 (aI @Ty.pl92 (aI @Ty.sz92 (aI @Ty.un92 (aI @Ty.unn92 (@Ty.zr92))))))))))))))))))))))))))))))))))))))))))))))))))))))))))))))))))))))
theorem t38 : type_of% tkd38 := tkd38
def tkd39 := (aI @Ty.ag1 (aI @Ty.by1 (aI @Ty.if1 (aI @Ty.sz1 (aI @Ty.un1 (aI @Ty.unn1 (aI @Ty.zr1 (aI @Ty.ag24 (aI @Ty.by24 (aI @Ty.el24 (aI @Ty.if24 (aI @Ty.ni24 (aI @Ty.sz24 (aI @Ty.un24 (aI @Ty.unn24 (aI @Ty.zr24 (aI @Ty.ag55 (aI @Ty.by55 (aI @Ty.ef55 (aI @Ty.fo55_0 (aI @Ty.fo55_1 (aI @Ty.fo55_2 (aI @Ty.fo55_3 (aI @Ty.fo55_4 (aI @Ty.fo55_5 (aI @Ty.fo55_6 (aI @Ty.fo55_7 (aI @Ty.ft55_0 (aI @Ty.ft55_1 (aI @Ty.ft55_2 (aI @Ty.ft55_3 (aI @Ty.ft55_4 (aI @Ty.ft55_5 (aI @Ty.ft55_6 (aI @Ty.ft55_7 (aI @Ty.if55 (aI @Ty.pl55 (aI @Ty.sz55 (aI @Ty.un55 (aI @Ty.unn55 (aI @Ty.zr55 (aI @Ty.ag74 (aI @Ty.by74 (aI @Ty.if74 (aI @Ty.po74 (aI @Ty.sz74 (aI @Ty.un74 (aI @Ty.unn74 (@Ty.zr74)))))))))))))))))))))))))))))))))))))))))))))))))
theorem t39 : type_of% tkd39 := tkd39
def tkd40 := (aI @Ty.ag1 (aI @Ty.by1 (aI @Ty.if1 (aI @Ty.sz1 (aI @Ty.un1 (aI @Ty.unn1 (aI @Ty.zr1 (aI @Ty.ag2 (aI @Ty.by2 (aI @Ty.if2 (aI @Ty.in2 (aI @Ty.sz2 (aI @Ty.un2 (aI @Ty.unn2 (aI @Ty.zr2 (aI @Ty.ag3 (aI @Ty.by3 (aI @Ty.if3 (aI @Ty.in3 (aI @Ty.sz3 (aI @Ty.un3 (aI @Ty.unn3 (aI @Ty.zr3 (aI @Ty.ag4 (aI @Ty.bo4 (aI @Ty.by4 (aI @Ty.if4 (aI @Ty.sz4 (aI @Ty.un4 (aI @Ty.unn4 (aI @Ty.zr4 (aI @Ty.ag5 (aI @Ty.by5 (aI @Ty.if5 (aI @Ty.in5 (aI @Ty.sz5 (aI @Ty.un5 (aI @Ty.unn5 (aI @Ty.zr5 (aI @Ty.ag6 (aI @Ty.by6 (aI @Ty.if6 (aI @Ty.in6 (aI @Ty.sz6 (aI @Ty.un6 (aI @Ty.unn6 (aI @Ty.zr6 (aI @Ty.ag7 (aI @Ty.by7 (aI @Ty.fo7_0 (aI @Ty.fo7_1 (aI @Ty.fo7_2 (aI @Ty.fo7_3 (aI @Ty.ft7_0 (aI @Ty.ft7_1 (aI @Ty.ft7_2 (aI @Ty.ft7_3 (aI @Ty.if7 (aI @Ty.pl7 (aI @Ty.sz7 (aI @Ty.un7 (aI @Ty.unn7 (aI @Ty.zr7 (aI @Ty.ag8 (aI @Ty.by8 (aI @Ty.fo8_0 (aI @Ty.fo8_1 (aI @Ty.fo8_2 (aI @Ty.fo8_3 (aI @Ty.ft8_0 (aI @Ty.ft8_1 (aI @Ty.ft8_2 (aI @Ty.ft8_3 (aI @Ty.if8 (aI @Ty.pl8 (aI @Ty.sz8 (aI @Ty.un8 (aI @Ty.unn8 (aI @Ty.zr8 (aI @Ty.ag41 (aI @Ty.by41 (aI @Ty.ef41 (aI @Ty.fo41_0 (aI @Ty.fo41_1 (aI @Ty.ft41_0 (aI @Ty.ft41_1 (aI @Ty.if41 (aI @Ty.pl41 (aI @Ty.sz41 (aI @Ty.un41 (aI @Ty.unn41 (aI @Ty.zr41 (aI @Ty.ag55 (aI @Ty.by55 (aI @Ty.ef55 (aI @Ty.fo55_0 (aI @Ty.fo55_1 (aI @Ty.fo55_2 (aI @Ty.fo55_3 (aI @Ty.fo55_4 (aI @Ty.fo55_5 (aI @Ty.fo55_6 (aI @Ty.fo55_7 (aI @Ty.ft55_0 (aI @Ty.ft55_1 (aI @Ty.ft55_2 (aI @Ty.ft55_3 (aI @Ty.ft55_4 (aI @Ty.ft55_5 (aI @Ty.ft55_6 (aI @Ty.ft55_7 (aI @Ty.if55 (aI @Ty.pl55 (aI @Ty.sz55 (aI @Ty.un55 (aI @Ty.unn55 (aI @Ty.zr55 (aI @Ty.ag92 (aI @Ty.by92 (aI @Ty.fo92_0 (aI @Ty.fo92_1 (aI @Ty.fo92_2 (aI @Ty.fo92_3 (aI @Ty.fo92_4 (aI @Ty.fo92_5 (aI @Ty.fo92_6 (aI @Ty.fo92_7 (aI @Ty.fo92_8 (aI @Ty.fo92_9 (aI @Ty.ft92_0 (aI @Ty.ft92_1 (aI @Ty.ft92_2 (aI @Ty.ft92_3 (aI @Ty.ft92_4 (aI @Ty.ft92_5 (aI @Ty.ft92_6 (aI @Ty.ft92_7 (aI @Ty.ft92_8 (aI @Ty.ft92_9 (aI @Ty.if92 (aI @Ty.pl92 (aI @Ty.sz92 (aI @Ty.un92 (aI @Ty.unn92 (@Ty.zr92)))))))))))))))))))))))))))))))))))))))))))))))))))))))))))))))))))))))))))))))))))))))))))))))))))))))))))))))))))))))))))))))))))))))))))))))))
theorem t40 : type_of% tkd40 := tkd40
def tkd43 := (aI @Ty.ag1 (aI @Ty.by1 (aI @Ty.if1 (aI @Ty.sz1 (aI @Ty.un1 (aI @Ty.unn1 (aI @Ty.zr1 (aI @Ty.ag3 (aI @Ty.by3 (aI @Ty.if3 (aI @Ty.in3 (aI @Ty.sz3 (aI @Ty.un3 (aI @Ty.unn3 (aI @Ty.zr3 (aI @Ty.ag9 (aI @Ty.by9 (aI @Ty.if9 (aI @Ty.ins9 (aI @Ty.ni9 (aI @Ty.st9 (aI @Ty.sz9 (aI @Ty.un9 (aI @Ty.unn9 (aI @Ty.zr9 (aI @Ty.ag33 (aI @Ty.by33 (aI @Ty.el33 (aI @Ty.if33 (aI @Ty.ni33 (aI @Ty.sz33 (aI @Ty.un33 (aI @Ty.unn33 (aI @Ty.zr33 (aI @Ty.ag70 (aI @Ty.by70 (aI @Ty.el70 (aI @Ty.if70 (aI @Ty.ni70 (aI @Ty.sz70 (aI @Ty.un70 (aI @Ty.unn70 (aI @Ty.zr70 (aI @Ty.ag74 (aI @Ty.by74 (aI @Ty.if74 (aI @Ty.po74 (aI @Ty.sz74 (aI @Ty.un74 (aI @Ty.unn74 (aI @Ty.zr74 (aI @Ty.ag92 (aI @Ty.by92 (aI @Ty.fo92_0 (aI @Ty.fo92_1 (aI @Ty.fo92_2 (aI @Ty.fo92_3 (aI @Ty.fo92_4 (aI @Ty.fo92_5 (aI @Ty.fo92_6 (aI @Ty.fo92_7 (aI @Ty.fo92_8 (aI @Ty.fo92_9 (aI @Ty.ft92_0 (aI @Ty.ft92_1 (aI @Ty.ft92_2 (aI @Ty.ft92_3 (aI @Ty.ft92_4 (aI @Ty.ft92_5 (aI @Ty.ft92_6 (aI @Ty.ft92_7 (aI @Ty.ft92_8 (aI @Ty.ft92_9 (aI @Ty.if92 (aI @Ty.pl92 (aI @Ty.sz92 (aI @Ty.un92 (aI @Ty.unn92 (@Ty.zr92)))))))))))))))))))))))))))))))))))))))))))))))))))))))))))))))))))))))))))))))
theorem t43 : type_of% tkd43 := tkd43
def tkd44 := (aI @Ty.ag2 (aI @Ty.by2 (aI @Ty.if2 (aI @Ty.in2 (aI @Ty.sz2 (aI @Ty.un2 (aI @Ty.unn2 (aI @Ty.zr2 (aI @Ty.ag3 (aI @Ty.by3 (aI @Ty.if3 (aI @Ty.in3 (aI @Ty.sz3 (aI @Ty.un3 (aI @Ty.unn3 (aI @Ty.zr3 (aI @Ty.ag4 (aI @Ty.bo4 (aI @Ty.by4 (aI @Ty.if4 (aI @Ty.sz4 (aI @Ty.un4 (aI @Ty.unn4 (aI @Ty.zr4 (aI @Ty.ag5 (aI @Ty.by5 (aI @Ty.if5 (aI @Ty.in5 (aI @Ty.sz5 (aI @Ty.un5 (aI @Ty.unn5 (aI @Ty.zr5 (aI @Ty.ag6 (aI @Ty.by6 (aI @Ty.if6 (aI @Ty.in6 (aI @Ty.sz6 (aI @Ty.un6 (aI @Ty.unn6 (aI @Ty.zr6 (aI @Ty.ag7 (aI @Ty.by7 (aI @Ty.fo7_0 (aI @Ty.fo7_1 (aI @Ty.fo7_2 (aI @Ty.fo7_3 (aI @Ty.ft7_0 (aI @Ty.ft7_1 (aI @Ty.ft7_2 (aI @Ty.ft7_3 (aI @Ty.if7 (aI @Ty.pl7 (aI @Ty.sz7 (aI @Ty.un7 (aI @Ty.unn7 (aI @Ty.zr7 (aI @Ty.ag9 (aI @Ty.by9 (aI @Ty.if9 (aI @Ty.ins9 (aI @Ty.ni9 (aI @Ty.st9 (aI @Ty.sz9 (aI @Ty.un9 (aI @Ty.unn9 (aI @Ty.zr9 (aI @Ty.ag70 (aI @Ty.by70 (aI @Ty.el70 (aI @Ty.if70 (aI @Ty.ni70 (aI @Ty.sz70 (aI @Ty.un70 (aI @Ty.unn70 (aI @Ty.zr70 (aI @Ty.ag74 (aI @Ty.by74 (aI @Ty.if74 (aI @Ty.po74 (aI @Ty.sz74 (aI @Ty.un74 (aI @Ty.unn74 (aI @Ty.zr74 (aI @Ty.ag92 (aI @Ty.by92 (aI @Ty.fo92_0 (aI @Ty.fo92_1 (aI @Ty.fo92_2 (aI @Ty.fo92_3 (aI @Ty.fo92_4 (aI @Ty.fo92_5 (aI @Ty.fo92_6 (aI @Ty.fo92_7 (aI @Ty.fo92_8 (aI @Ty.fo92_9 (aI @Ty.ft92_0 (aI @Ty.ft92_1 (aI @Ty.ft92_2 (aI @Ty.ft92_3 (aI @Ty.ft92_4 (aI @Ty.ft92_5 (aI @Ty.ft92_6 (aI @Ty.ft92_7 (aI @Ty.ft92_8 (aI @Ty.ft92_9 (aI @Ty.if92 (aI @Ty.pl92 (aI @Ty.sz92 (aI @Ty.un92 (aI @Ty.unn92 (@Ty.zr92)))))))))))))))))))))))))))))))))))))))))))))))))))))))))))))))))))))))))))))))))))))))))))))))))))))))))))))))
theorem t44 : type_of% tkd44 := tkd44
def tkd48 := (aI @Ty.ag1 (aI @Ty.by1 (aI @Ty.if1 (aI @Ty.sz1 (aI @Ty.un1 (aI @Ty.unn1 (aI @Ty.zr1 (aI @Ty.ag3 (aI @Ty.by3 (aI @Ty.if3 (aI @Ty.in3 (aI @Ty.sz3 (aI @Ty.un3 (aI @Ty.unn3 (aI @Ty.zr3 (aI @Ty.ag5 (aI @Ty.by5 (aI @Ty.if5 (aI @Ty.in5 (aI @Ty.sz5 (aI @Ty.un5 (aI @Ty.unn5 (aI @Ty.zr5 (aI @Ty.ag9 (aI @Ty.by9 (aI @Ty.if9 (aI @Ty.ins9 (aI @Ty.ni9 (aI @Ty.st9 (aI @Ty.sz9 (aI @Ty.un9 (aI @Ty.unn9 (aI @Ty.zr9 (aI @Ty.ag83 (aI @Ty.by83 (aI @Ty.if83 (aI @Ty.in83 (aI @Ty.sz83 (aI @Ty.un83 (aI @Ty.unn83 (aI @Ty.zr83 (aI @Ty.ag84 (aI @Ty.by84 (aI @Ty.el84 (aI @Ty.if84 (aI @Ty.ni84 (aI @Ty.sz84 (aI @Ty.un84 (aI @Ty.unn84 (@Ty.zr84))))))))))))))))))))))))))))))))))))))))))))))))))
theorem t48 : type_of% tkd48 := tkd48
def tkd51 := (aI @Ty.ag3 (aI @Ty.by3 (aI @Ty.if3 (aI @Ty.in3 (aI @Ty.sz3 (aI @Ty.un3 (aI @Ty.unn3 (aI @Ty.zr3 (aI @Ty.ag70 (aI @Ty.by70 (aI @Ty.el70 (aI @Ty.if70 (aI @Ty.ni70 (aI @Ty.sz70 (aI @Ty.un70 (aI @Ty.unn70 (aI @Ty.zr70 (aI @Ty.ag74 (aI @Ty.by74 (aI @Ty.if74 (aI @Ty.po74 (aI @Ty.sz74 (aI @Ty.un74 (aI @Ty.unn74 (@Ty.zr74)))))))))))))))))))))))))
theorem t51 : type_of% tkd51 := tkd51
def tkd52 := (aI @Ty.ag3 (aI @Ty.by3 (aI @Ty.if3 (aI @Ty.in3 (aI @Ty.sz3 (aI @Ty.un3 (aI @Ty.unn3 (aI @Ty.zr3 (aI @Ty.ag7 (aI @Ty.by7 (aI @Ty.fo7_0 (aI @Ty.fo7_1 (aI @Ty.fo7_2 (aI @Ty.fo7_3 (aI @Ty.ft7_0 (aI @Ty.ft7_1 (aI @Ty.ft7_2 (aI @Ty.ft7_3 (aI @Ty.if7 (aI @Ty.pl7 (aI @Ty.sz7 (aI @Ty.un7 (aI @Ty.unn7 (aI @Ty.zr7 (aI @Ty.ag92 (aI @Ty.by92 (aI @Ty.fo92_0 (aI @Ty.fo92_1 (aI @Ty.fo92_2 (aI @Ty.fo92_3 (aI @Ty.fo92_4 (aI @Ty.fo92_5 (aI @Ty.fo92_6 (aI @Ty.fo92_7 (aI @Ty.fo92_8 (aI @Ty.fo92_9 (aI @Ty.ft92_0 (aI @Ty.ft92_1 (aI @Ty.ft92_2 (aI @Ty.ft92_3 (aI @Ty.ft92_4 (aI @Ty.ft92_5 (aI @Ty.ft92_6 (aI @Ty.ft92_7 (aI @Ty.ft92_8 (aI @Ty.ft92_9 (aI @Ty.if92 (aI @Ty.pl92 (aI @Ty.sz92 (aI @Ty.un92 (aI @Ty.unn92 (@Ty.zr92))))))))))))))))))))))))))))))))))))))))))))))))))))
theorem t52 : type_of% tkd52 := tkd52
def tkd55 := (aI @Ty.ag1 (aI @Ty.by1 (aI @Ty.if1 (aI @Ty.sz1 (aI @Ty.un1 (aI @Ty.unn1 (aI @Ty.zr1 (aI @Ty.ag3 (aI @Ty.by3 (aI @Ty.if3 (aI @Ty.in3 (aI @Ty.sz3 (aI @Ty.un3 (aI @Ty.unn3 (aI @Ty.zr3 (aI @Ty.ag4 (aI @Ty.bo4 (aI @Ty.by4 (aI @Ty.if4 (aI @Ty.sz4 (aI @Ty.un4 (aI @Ty.unn4 (aI @Ty.zr4 (aI @Ty.ag20 (aI @Ty.by20 (aI @Ty.if20 (aI @Ty.sz20 (aI @Ty.un20 (aI @Ty.unn20 (aI @Ty.zr20 (aI @Ty.ag25 (aI @Ty.by25 (aI @Ty.if25 (aI @Ty.in25 (aI @Ty.sz25 (aI @Ty.un25 (aI @Ty.unn25 (aI @Ty.zr25 (aI @Ty.ag70 (aI @Ty.by70 (aI @Ty.el70 (aI @Ty.if70 (aI @Ty.ni70 (aI @Ty.sz70 (aI @Ty.un70 (aI @Ty.unn70 (aI @Ty.zr70 (aI @Ty.ag74 (aI @Ty.by74 (aI @Ty.if74 (aI @Ty.po74 (aI @Ty.sz74 (aI @Ty.un74 (aI @Ty.unn74 (aI @Ty.zr74 (aI @Ty.ag96 (aI @Ty.by96 (aI @Ty.ef96 (aI @Ty.fo96_0 (aI @Ty.fo96_1 (aI @Ty.ft96_0 (aI @Ty.ft96_1 (aI @Ty.if96 (aI @Ty.pl96 (aI @Ty.sz96 (aI @Ty.un96 (aI @Ty.unn96 (@Ty.zr96))))))))))))))))))))))))))))))))))))))))))))))))))))))))))))))))))))
theorem t55 : type_of% tkd55 := tkd55
def tkd56 := (aI @Ty.ag1 (aI @Ty.by1 (aI @Ty.if1 (aI @Ty.sz1 (aI @Ty.un1 (aI @Ty.unn1 (aI @Ty.zr1 (aI @Ty.ag2 (aI @Ty.by2 (aI @Ty.if2 (aI @Ty.in2 (aI @Ty.sz2 (aI @Ty.un2 (aI @Ty.unn2 (aI @Ty.zr2 (aI @Ty.ag3 (aI @Ty.by3 (aI @Ty.if3 (aI @Ty.in3 (aI @Ty.sz3 (aI @Ty.un3 (aI @Ty.unn3 (aI @Ty.zr3 (aI @Ty.ag4 (aI @Ty.bo4 (aI @Ty.by4 (aI @Ty.if4 (aI @Ty.sz4 (aI @Ty.un4 (aI @Ty.unn4 (aI @Ty.zr4 (aI @Ty.ag5 (aI @Ty.by5 (aI @Ty.if5 (aI @Ty.in5 (aI @Ty.sz5 (aI @Ty.un5 (aI @Ty.unn5 (aI @Ty.zr5 (aI @Ty.ag6 (aI @Ty.by6 (aI @Ty.if6 (aI @Ty.in6 (aI @Ty.sz6 (aI @Ty.un6 (aI @Ty.unn6 (aI @Ty.zr6 (aI @Ty.ag7 (aI @Ty.by7 (aI @Ty.fo7_0 (aI @Ty.fo7_1 (aI @Ty.fo7_2 (aI @Ty.fo7_3 (aI @Ty.ft7_0 (aI @Ty.ft7_1 (aI @Ty.ft7_2 (aI @Ty.ft7_3 (aI @Ty.if7 (aI @Ty.pl7 (aI @Ty.sz7 (aI @Ty.un7 (aI @Ty.unn7 (aI @Ty.zr7 (aI @Ty.ag9 (aI @Ty.by9 (aI @Ty.if9 (aI @Ty.ins9 (aI @Ty.ni9 (aI @Ty.st9 (aI @Ty.sz9 (aI @Ty.un9 (aI @Ty.unn9 (aI @Ty.zr9 (aI @Ty.ag25 (aI @Ty.by25 (aI @Ty.if25 (aI @Ty.in25 (aI @Ty.sz25 (aI @Ty.un25 (aI @Ty.unn25 (aI @Ty.zr25 (aI @Ty.ag41 (aI @Ty.by41 (aI @Ty.ef41 (aI @Ty.fo41_0 (aI @Ty.fo41_1 (aI @Ty.ft41_0 (aI @Ty.ft41_1 (aI @Ty.if41 (aI @Ty.pl41 (aI @Ty.sz41 (aI @Ty.un41 (aI @Ty.unn41 (aI @Ty.zr41 (aI @Ty.ag70 (aI @Ty.by70 (aI @Ty.el70 (aI @Ty.if70 (aI @Ty.ni70 (aI @Ty.sz70 (aI @Ty.un70 (aI @Ty.unn70 (aI @Ty.zr70 (aI @Ty.ag74 (aI @Ty.by74 (aI @Ty.if74 (aI @Ty.po74 (aI @Ty.sz74 (aI @Ty.un74 (aI @Ty.unn74 (aI @Ty.zr74 (aI @Ty.ag92 (aI @Ty.by92 (aI @Ty.fo92_0 (aI @Ty.fo92_1 (aI @Ty.fo92_2 (aI @Ty.fo92_3 (aI @Ty.fo92_4 (aI @Ty.fo92_5 (aI @Ty.fo92_6 (aI @Ty.fo92_7 (aI @Ty.fo92_8 (aI @Ty.fo92_9 (aI @Ty.ft92_0 (aI @Ty.ft92_1 (aI @Ty.ft92_2 (aI @Ty.ft92_3 (aI @Ty.ft92_4 (aI @Ty.ft92_5 (aI @Ty.ft92_6 (aI @Ty.ft92_7 (aI @Ty.ft92_8 (aI @Ty.ft92_9 (aI @Ty.if92 (aI @Ty.pl92 (aI @Ty.sz92 (aI @Ty.un92 (aI @Ty.unn92 (aI @Ty.zr92 (aI @Ty.ag98 (aI @Ty.by98 (aI @Ty.if98 (aI @Ty.po98 (aI @Ty.sz98 (aI @Ty.un98 (aI @Ty.unn98 (aI @Ty.zr98 (aI @Ty.ag100 (aI @Ty.by100 (aI @Ty.ef100 (aI @Ty.fo100_0 (aI @Ty.fo100_1 (aI @Ty.ft100_0 (aI @Ty.ft100_1 (aI @Ty.if100 (aI @Ty.pl100 (aI @Ty.sz100 (aI @Ty.un100 (aI @Ty.unn100 (@Ty.zr100))))))))))))))))))))))))))))))))))))))))))))))))))))))))))))))))))))))))))))))))))))))))))))))))))))))))))))))))))))))))))))))))))))))))))))))))))))))))))))))))
theorem t56 : type_of% tkd56 := tkd56
def tkd60 := (aI @Ty.ag70 (aI @Ty.by70 (aI @Ty.el70 (aI @Ty.if70 (aI @Ty.ni70 (aI @Ty.sz70 (aI @Ty.un70 (aI @Ty.unn70 (aI @Ty.zr70 (aI @Ty.ag74 (aI @Ty.by74 (aI @Ty.if74 (aI @Ty.po74 (aI @Ty.sz74 (aI @Ty.un74 (aI @Ty.unn74 (@Ty.zr74)))))))))))))))))
theorem t60 : type_of% tkd60 := tkd60
def tkd62 := (aI @Ty.ag3 (aI @Ty.by3 (aI @Ty.if3 (aI @Ty.in3 (aI @Ty.sz3 (aI @Ty.un3 (aI @Ty.unn3 (aI @Ty.zr3 (aI @Ty.ag5 (aI @Ty.by5 (aI @Ty.if5 (aI @Ty.in5 (aI @Ty.sz5 (aI @Ty.un5 (aI @Ty.unn5 (aI @Ty.zr5 (aI @Ty.ag84 (aI @Ty.by84 (aI @Ty.el84 (aI @Ty.if84 (aI @Ty.ni84 (aI @Ty.sz84 (aI @Ty.un84 (aI @Ty.unn84 (@Ty.zr84)))))))))))))))))))))))))
theorem t62 : type_of% tkd62 := tkd62
def tkd64 := (aI @Ty.ag1 (aI @Ty.by1 (aI @Ty.if1 (aI @Ty.sz1 (aI @Ty.un1 (aI @Ty.unn1 (aI @Ty.zr1 (aI @Ty.ag3 (aI @Ty.by3 (aI @Ty.if3 (aI @Ty.in3 (aI @Ty.sz3 (aI @Ty.un3 (aI @Ty.unn3 (aI @Ty.zr3 (aI @Ty.ag5 (aI @Ty.by5 (aI @Ty.if5 (aI @Ty.in5 (aI @Ty.sz5 (aI @Ty.un5 (aI @Ty.unn5 (aI @Ty.zr5 (aI @Ty.ag9 (aI @Ty.by9 (aI @Ty.if9 (aI @Ty.ins9 (aI @Ty.ni9 (aI @Ty.st9 (aI @Ty.sz9 (aI @Ty.un9 (aI @Ty.unn9 (aI @Ty.zr9 (aI @Ty.ag25 (aI @Ty.by25 (aI @Ty.if25 (aI @Ty.in25 (aI @Ty.sz25 (aI @Ty.un25 (aI @Ty.unn25 (aI @Ty.zr25 (aI @Ty.ag41 (aI @Ty.by41 (aI @Ty.ef41 (aI @Ty.fo41_0 (aI @Ty.fo41_1 (aI @Ty.ft41_0 (aI @Ty.ft41_1 (aI @Ty.if41 (aI @Ty.pl41 (aI @Ty.sz41 (aI @Ty.un41 (aI @Ty.unn41 (aI @Ty.zr41 (aI @Ty.ag83 (aI @Ty.by83 (aI @Ty.if83 (aI @Ty.in83 (aI @Ty.sz83 (aI @Ty.un83 (aI @Ty.unn83 (aI @Ty.zr83 (aI @Ty.ag100 (aI @Ty.by100 (aI @Ty.ef100 (aI @Ty.fo100_0 (aI @Ty.fo100_1 (aI @Ty.ft100_0 (aI @Ty.ft100_1 (aI @Ty.if100 (aI @Ty.pl100 (aI @Ty.sz100 (aI @Ty.un100 (aI @Ty.unn100 (@Ty.zr100)))))))))))))))))))))))))))))))))))))))))))))))))))))))))))))))))))))))))))
theorem t64 : type_of% tkd64 := tkd64
def tkd65 := (aI @Ty.ag3 (aI @Ty.by3 (aI @Ty.if3 (aI @Ty.in3 (aI @Ty.sz3 (aI @Ty.un3 (aI @Ty.unn3 (aI @Ty.zr3 (aI @Ty.ag4 (aI @Ty.bo4 (aI @Ty.by4 (aI @Ty.if4 (aI @Ty.sz4 (aI @Ty.un4 (aI @Ty.unn4 (aI @Ty.zr4 (aI @Ty.ag5 (aI @Ty.by5 (aI @Ty.if5 (aI @Ty.in5 (aI @Ty.sz5 (aI @Ty.un5 (aI @Ty.unn5 (aI @Ty.zr5 (aI @Ty.ag9 (aI @Ty.by9 (aI @Ty.if9 (aI @Ty.ins9 (aI @Ty.ni9 (aI @Ty.st9 (aI @Ty.sz9 (aI @Ty.un9 (aI @Ty.unn9 (aI @Ty.zr9 (aI @Ty.ag25 (aI @Ty.by25 (aI @Ty.if25 (aI @Ty.in25 (aI @Ty.sz25 (aI @Ty.un25 (aI @Ty.unn25 (aI @Ty.zr25 (aI @Ty.ag83 (aI @Ty.by83 (aI @Ty.if83 (aI @Ty.in83 (aI @Ty.sz83 (aI @Ty.un83 (aI @Ty.unn83 (aI @Ty.zr83 (aI @Ty.ag100 (aI @Ty.by100 (aI @Ty.ef100 (aI @Ty.fo100_0 (aI @Ty.fo100_1 (aI @Ty.ft100_0 (aI @Ty.ft100_1 (aI @Ty.if100 (aI @Ty.pl100 (aI @Ty.sz100 (aI @Ty.un100 (aI @Ty.unn100 (@Ty.zr100)))))))))))))))))))))))))))))))))))))))))))))))))))))))))))))))
theorem t65 : type_of% tkd65 := tkd65
def tkd66 := (aI @Ty.ag96 (aI @Ty.by96 (aI @Ty.ef96 (aI @Ty.fo96_0 (aI @Ty.fo96_1 (aI @Ty.ft96_0 (aI @Ty.ft96_1 (aI @Ty.if96 (aI @Ty.pl96 (aI @Ty.sz96 (aI @Ty.un96 (aI @Ty.unn96 (@Ty.zr96)))))))))))))
theorem t66 : type_of% tkd66 := tkd66
def tkd67 := (aI @Ty.ag1 (aI @Ty.by1 (aI @Ty.if1 (aI @Ty.sz1 (aI @Ty.un1 (aI @Ty.unn1 (aI @Ty.zr1 (aI @Ty.ag3 (aI @Ty.by3 (aI @Ty.if3 (aI @Ty.in3 (aI @Ty.sz3 (aI @Ty.un3 (aI @Ty.unn3 (aI @Ty.zr3 (aI @Ty.ag5 (aI @Ty.by5 (aI @Ty.if5 (aI @Ty.in5 (aI @Ty.sz5 (aI @Ty.un5 (aI @Ty.unn5 (aI @Ty.zr5 (aI @Ty.ag7 (aI @Ty.by7 (aI @Ty.fo7_0 (aI @Ty.fo7_1 (aI @Ty.fo7_2 (aI @Ty.fo7_3 (aI @Ty.ft7_0 (aI @Ty.ft7_1 (aI @Ty.ft7_2 (aI @Ty.ft7_3 (aI @Ty.if7 (aI @Ty.pl7 (aI @Ty.sz7 (aI @Ty.un7 (aI @Ty.unn7 (aI @Ty.zr7 (aI @Ty.ag8 (aI @Ty.by8 (aI @Ty.fo8_0 (aI @Ty.fo8_1 (aI @Ty.fo8_2 (aI @Ty.fo8_3 (aI @Ty.ft8_0 (aI @Ty.ft8_1 (aI @Ty.ft8_2 (aI @Ty.ft8_3 (aI @Ty.if8 (aI @Ty.pl8 (aI @Ty.sz8 (aI @Ty.un8 (aI @Ty.unn8 (aI @Ty.zr8 (aI @Ty.ag9 (aI @Ty.by9 (aI @Ty.if9 (aI @Ty.ins9 (aI @Ty.ni9 (aI @Ty.st9 (aI @Ty.sz9 (aI @Ty.un9 (aI @Ty.unn9 (aI @Ty.zr9 (aI @Ty.ag25 (aI @Ty.by25 (aI @Ty.if25 (aI @Ty.in25 (aI @Ty.sz25 (aI @Ty.un25 (aI @Ty.unn25 (aI @Ty.zr25 (aI @Ty.ag70 (aI @Ty.by70 (aI @Ty.el70 (aI @Ty.if70 (aI @Ty.ni70 (aI @Ty.sz70 (aI @Ty.un70 (aI @Ty.unn70 (aI @Ty.zr70 (aI @Ty.ag74 (aI @Ty.by74 (aI @Ty.if74 (aI @Ty.po74 (aI @Ty.sz74 (aI @Ty.un74 (aI @Ty.unn74 (aI @Ty.zr74 (aI @Ty.ag92 (aI @Ty.by92 (aI @Ty.fo92_0 (aI @Ty.fo92_1 (aI @Ty.fo92_2 (aI @Ty.fo92_3 (aI @Ty.fo92_4 (aI @Ty.fo92_5 (aI @Ty.fo92_6 (aI @Ty.fo92_7 (aI @Ty.fo92_8 (aI @Ty.fo92_9 (aI @Ty.ft92_0 (aI @Ty.ft92_1 (aI @Ty.ft92_2 (aI @Ty.ft92_3 (aI @Ty.ft92_4 (aI @Ty.ft92_5 (aI @Ty.ft92_6 (aI @Ty.ft92_7 (aI @Ty.ft92_8 (aI @Ty.ft92_9 (aI @Ty.if92 (aI @Ty.pl92 (aI @Ty.sz92 (aI @Ty.un92 (aI @Ty.unn92 (aI @Ty.zr92 (aI @Ty.ag98 (aI @Ty.by98 (aI @Ty.if98 (aI @Ty.po98 (aI @Ty.sz98 (aI @Ty.un98 (aI @Ty.unn98 (aI @Ty.zr98 (aI @Ty.ag100 (aI @Ty.by100 (aI @Ty.ef100 (aI @Ty.fo100_0 (aI @Ty.fo100_1 (aI @Ty.ft100_0 (aI @Ty.ft100_1 (aI @Ty.if100 (aI @Ty.pl100 (aI @Ty.sz100 (aI @Ty.un100 (aI @Ty.unn100 (@Ty.zr100)))))))))))))))))))))))))))))))))))))))))))))))))))))))))))))))))))))))))))))))))))))))))))))))))))))))))))))))))))))))))))))))))))))))))))
theorem t67 : type_of% tkd67 := tkd67
def tkd70 := (aI @Ty.ag3 (aI @Ty.by3 (aI @Ty.if3 (aI @Ty.in3 (aI @Ty.sz3 (aI @Ty.un3 (aI @Ty.unn3 (aI @Ty.zr3 (aI @Ty.ag25 (aI @Ty.by25 (aI @Ty.if25 (aI @Ty.in25 (aI @Ty.sz25 (aI @Ty.un25 (aI @Ty.unn25 (@Ty.zr25))))))))))))))))
theorem t70 : type_of% tkd70 := tkd70
end Tk
end Go.Proofs.Ytmjjfdppaomcfaa

/- Plain: bytes read as nodes. -/
namespace Go.Proofs.Ytmjjfdppaomcfaa
open Go Go.Proofs.Ytmjjfdppaomcfaa.Ab

def bt (s : ByteArray) (i : Nat) : Nat := match s[i]? with | some x => x.toNat | none => 0
theorem bt_lt (s : ByteArray) (i : Nat) : bt s i < 256 := by
  unfold bt; split
  · rename_i x _; exact x.toNat_lt
  · decide
theorem sget {s : ByteArray} {i : Nat} (h : i < s.size) : (s[i]?).map (fun b => AV.v (.int .u8 (b.toNat : Nat))) = some (.v (.int .u8 (bt s i : Nat))) := by
  unfold bt
  rw [getElem?_pos s i h]; rfl

abbrev Flt := Nat × Int
/-- the number of an identifier in further octets -/
def tagL (b : ByteArray) (lim : Nat) : Nat → Nat → Nat → Except Flt (Nat × Nat)
  | 0, _, _ => .error (lim, 9)
  | n + 1, at_, num => if at_ < lim then
      if num * 128 + bt b at_ % 128 > 268435456 then .error (at_, 25)
      else if bt b at_ < 128 then .ok (num * 128 + bt b at_ % 128, at_ + 1) else tagL b lim n (at_ + 1) (num * 128 + bt b at_ % 128)
    else .error (lim, 9)
/-- class, number, constructed?, behind it -/
def ident (b : ByteArray) (at_ lim : Nat) : Except Flt (Nat × Nat × Bool × Nat) :=
  if at_ < lim then
    if bt b at_ % 32 < 31 then .ok (bt b at_ / 64, bt b at_ % 32, bt b at_ / 32 % 2 == 1, at_ + 1)
    else match tagL b lim (lim - (at_ + 1)) (at_ + 1) 0 with
      | .ok (m, p) => .ok (bt b at_ / 64, m, bt b at_ / 32 % 2 == 1, p)
      | .error e => .error e
  else .error (lim, 9)
def lenL (b : ByteArray) (lim : Nat) : Nat → Nat → Nat → Except Flt Nat
  | 0, _, n => .ok n
  | k + 1, p, n => if p < lim then (if n * 256 + bt b p > 4000 then .error (p, 25) else lenL b lim k (p + 1) (n * 256 + bt b p)) else .error (lim, 9)
/-- the length (none: indefinite), behind it -/
def lenOf (b : ByteArray) (at_ lim : Nat) (built : Bool) : Except Flt (Option Nat × Nat) :=
  if at_ < lim then
    if bt b at_ < 128 then .ok (some (bt b at_), at_ + 1)
    else if bt b at_ = 255 ∨ (bt b at_ = 128 ∧ built = false) then .error (at_, 19)
    else if bt b at_ = 128 then .ok (none, at_ + 1)
    else match lenL b lim (bt b at_ - 128) (at_ + 1) 0 with
      | .ok n => .ok (some n, at_ + 1 + (bt b at_ - 128))
      | .error e => .error e
  else .error (lim, 9)

structure Hd where
  cls : Nat
  num : Nat
  built : Bool
  opn : Bool
  frm : Nat
  len : Nat
  body : Nat
  stop : Nat
  fin : Nat
  deep : Nat
deriving DecidableEq, Inhabited
inductive Tree where
  | mk (h : Hd) (kids : List Tree)
def Tree.h : Tree → Hd | .mk h _ => h
def Tree.kids : Tree → List Tree | .mk _ k => k
instance : Inhabited Tree := ⟨.mk default []⟩

def kidsC (node : Nat → Nat → Except Flt (Tree × Nat)) (stop : Nat) : Nat → Nat → Nat → List Tree → Except Flt (List Tree × Nat)
  | 0, _, cnt, acc => .ok (acc, cnt)
  | n + 1, at_, cnt, acc => if at_ < stop then (match node at_ cnt with
      | .error e => .error e
      | .ok (t, c) => kidsC node stop n t.h.fin c (acc ++ [t])) else .ok (acc, cnt)
def openC (node : Nat → Nat → Except Flt (Tree × Nat)) (b : ByteArray) (lim : Nat) : Nat → Nat → Nat → List Tree → Except Flt (List Tree × Nat × Nat)
  | 0, _, _, _ => .error (lim, 39)
  | n + 1, at_, cnt, acc => if at_ + 1 < lim ∧ bt b at_ = 0 ∧ bt b (at_ + 1) = 0 then .ok (acc, at_, cnt) else if lim ≤ at_ then .error (lim, 39) else
      match node at_ cnt with
      | .error e => .error e
      | .ok (t, c) => openC node b lim n t.h.fin c (acc ++ [t])
/-- a node, d levels above the deepest ones -/
def rd (b : ByteArray) : Nat → Nat → Nat → Nat → Except Flt (Tree × Nat)
  | d, at_, lim, cnt => match ident b at_ lim with
    | .error e => .error e
    | .ok (cls, num, built, p1) => match lenOf b p1 lim built with
      | .error e => .error e
      | .ok (on, p2) => if on.any (fun n => decide (lim - p2 < n)) then .error (p1, 19) else if 300 < cnt + 1 then .error (at_, 34) else
        match d with
        | 0 => .error (at_, 2)
        | d + 1 => match on with
          | none => (match openC (fun a c => rd b d a lim c) b lim (lim - p2 + 1) p2 (cnt + 1) [] with
            | .error e => .error e
            | .ok (kids, stop, c) => .ok (.mk ⟨cls, num, built, true, at_, p1, p2, stop, stop + 2, 15 - d⟩ kids, c))
          | some n => if built = true then (match kidsC (fun a c => rd b d a (p2 + n) c) (p2 + n) n p2 (cnt + 1) [] with
              | .error e => .error e
              | .ok (kids, c) => .ok (.mk ⟨cls, num, built, false, at_, p1, p2, p2 + n, p2 + n, 15 - d⟩ kids, c))
            else .ok (.mk ⟨cls, num, built, false, at_, p1, p2, p2 + n, p2 + n, 15 - d⟩ [], cnt + 1)
def readB (b : ByteArray) : Except Flt (List Tree) :=
  if 4000 < b.size then .error (0, 2) else if b.size = 0 then .error (0, 1) else
    match kidsC (fun a c => rd b 16 a b.size c) b.size b.size 0 0 [] with
    | .error e => .error e
    | .ok (l, _) => .ok l
end Go.Proofs.Ytmjjfdppaomcfaa

/- Plain: what nodes are bounded by. -/
namespace Go.Proofs.Ytmjjfdppaomcfaa
open Go Go.Proofs.Ytmjjfdppaomcfaa.Ab

theorem tagL_ok {b : ByteArray} {lim : Nat} : ∀ {k p num m q : Nat}, tagL b lim k p num = .ok (m, q) → p < q ∧ q ≤ lim ∧ m ≤ 268435456
  | 0, p, num, m, q, h => by simp [tagL] at h
  | k + 1, p, num, m, q, h => by
    simp only [tagL] at h
    split at h
    · split at h
      · cases h
      · split at h
        · cases h; omega
        · have := tagL_ok h; omega
    · cases h
theorem ident_ok {b : ByteArray} {at_ lim c n p : Nat} {bl : Bool} (h : ident b at_ lim = .ok (c, n, bl, p)) : at_ < p ∧ p ≤ lim ∧ n ≤ 268435456 ∧ c < 4 := by
  have hc := bt_lt b at_
  unfold ident at h
  split at h
  · split at h
    · cases h; omega
    · split at h
      · rename_i m q hq; cases h; have := tagL_ok hq; omega
      · cases h
  · cases h
theorem lenL_ok {b : ByteArray} {lim : Nat} : ∀ {k p n m : Nat}, lenL b lim k p n = .ok m → n ≤ 4000 → p ≤ lim → m ≤ 4000 ∧ p + k ≤ lim
  | 0, p, n, m, h, hn, hp => by simp only [lenL] at h; cases h; omega
  | k + 1, p, n, m, h, hn, hp => by
    simp only [lenL] at h
    split at h
    · split at h
      · cases h
      · have := lenL_ok h (by omega) (by omega); omega
    · cases h
theorem lenOf_ok {b : ByteArray} {at_ lim p : Nat} {bl : Bool} {o : Option Nat} (h : lenOf b at_ lim bl = .ok (o, p)) : at_ < p ∧ p ≤ lim ∧ ∀ n, o = some n → n ≤ 4000 := by
  unfold lenOf at h
  split at h
  · split at h
    · cases h; exact ⟨by omega, by omega, fun n hn => by cases hn; omega⟩
    · split at h
      · cases h
      · split at h
        · cases h; exact ⟨by omega, by omega, fun n hn => by cases hn⟩
        · split at h
          · rename_i n hn; cases h; have := lenL_ok hn (by omega) (by omega); exact ⟨by omega, by omega, fun n hn => by cases hn; omega⟩
          · cases h
  · cases h

/-- what a reader of nodes keeps to -/
def NodeOk (lim : Nat) (node : Nat → Nat → Except Flt (Tree × Nat)) : Prop := ∀ a c t c', node a c = .ok (t, c') → a < t.h.fin ∧ t.h.fin ≤ lim ∧ c < c' ∧ c' ≤ 300
theorem kidsC_ok {node : Nat → Nat → Except Flt (Tree × Nat)} {stop : Nat} (hn : NodeOk stop node) : ∀ {n p c : Nat} {acc l : List Tree} {c' : Nat}, kidsC node stop n p c acc = .ok (l, c') → c ≤ 300 → c ≤ c' ∧ c' ≤ 300
  | 0, p, c, acc, l, c', h, hc => by simp only [kidsC] at h; cases h; omega
  | n + 1, p, c, acc, l, c', h, hc => by
    simp only [kidsC] at h
    split at h
    · split at h
      · cases h
      · rename_i t c1 h1
        have q := hn _ _ _ _ h1
        have := kidsC_ok hn h (by omega); omega
    · cases h; omega
theorem openC_ok {node : Nat → Nat → Except Flt (Tree × Nat)} {b : ByteArray} {lim : Nat} (hn : NodeOk lim node) : ∀ {n p c : Nat} {acc l : List Tree} {s c' : Nat}, openC node b lim n p c acc = .ok (l, s, c') → c ≤ 300 → p ≤ s ∧ s + 2 ≤ lim ∧ c ≤ c' ∧ c' ≤ 300
  | 0, p, c, acc, l, s, c', h, hc => by simp only [openC] at h; cases h
  | n + 1, p, c, acc, l, s, c', h, hc => by
    simp only [openC] at h
    split at h
    · cases h; omega
    · split at h
      · cases h
      · split at h
        · cases h
        · rename_i t c1 h1
          have q := hn _ _ _ _ h1
          have := openC_ok hn h (by omega); omega
section
variable {b : ByteArray} {d at_ lim cnt cls num p1 p2 : Nat} {bl : Bool} {on : Option Nat} {e : Flt}
theorem rd_e1 (h : ident b at_ lim = .error e) : rd b d at_ lim cnt = .error e := by
  rw [rd.eq_def]; simp only [h]
theorem rd_e2 (h : ident b at_ lim = .ok (cls, num, bl, p1)) (h2 : lenOf b p1 lim bl = .error e) : rd b d at_ lim cnt = .error e := by
  rw [rd.eq_def]; simp only [h, h2]
theorem rd_e3 (h : ident b at_ lim = .ok (cls, num, bl, p1)) (h2 : lenOf b p1 lim bl = .ok (on, p2)) (h3 : on.any (fun n => decide (lim - p2 < n)) = true) : rd b d at_ lim cnt = .error (p1, 19) := by
  rw [rd.eq_def]; simp only [h, h2, h3, if_true]
theorem rd_e4 (h : ident b at_ lim = .ok (cls, num, bl, p1)) (h2 : lenOf b p1 lim bl = .ok (on, p2)) (h3 : on.any (fun n => decide (lim - p2 < n)) = false) (h4 : 300 < cnt + 1) : rd b d at_ lim cnt = .error (at_, 34) := by
  rw [rd.eq_def]; simp only [h, h2, h3, h4, if_true, Bool.false_eq_true, if_false]
theorem rd_e5 (h : ident b at_ lim = .ok (cls, num, bl, p1)) (h2 : lenOf b p1 lim bl = .ok (on, p2)) (h3 : on.any (fun n => decide (lim - p2 < n)) = false) (h4 : ¬ 300 < cnt + 1) : rd b 0 at_ lim cnt = .error (at_, 2) := by
  rw [rd.eq_def]; simp only [h, h2, h3, h4, Bool.false_eq_true, if_false]
theorem rd_open (h : ident b at_ lim = .ok (cls, num, bl, p1)) (h2 : lenOf b p1 lim bl = .ok (none, p2)) (h4 : ¬ 300 < cnt + 1) : rd b (d + 1) at_ lim cnt =
    (match openC (fun a c => rd b d a lim c) b lim (lim - p2 + 1) p2 (cnt + 1) [] with
            | .error e => .error e
            | .ok (kids, stop, c) => .ok (.mk ⟨cls, num, bl, true, at_, p1, p2, stop, stop + 2, 15 - d⟩ kids, c)) := by
  rw [rd.eq_def]; simp only [h, h2, h4, Option.any_none, Bool.false_eq_true, if_false] <;> rfl
theorem rd_kids {n : Nat} (h : ident b at_ lim = .ok (cls, num, true, p1)) (h2 : lenOf b p1 lim true = .ok (some n, p2)) (h3 : ¬ lim - p2 < n) (h4 : ¬ 300 < cnt + 1) : rd b (d + 1) at_ lim cnt =
    (match kidsC (fun a c => rd b d a (p2 + n) c) (p2 + n) n p2 (cnt + 1) [] with
              | .error e => .error e
              | .ok (kids, c) => .ok (.mk ⟨cls, num, true, false, at_, p1, p2, p2 + n, p2 + n, 15 - d⟩ kids, c)) := by
  rw [rd.eq_def]; simp only [h, h2, h3, h4, Option.any_some, decide_false, Bool.false_eq_true, if_false, if_true] <;> rfl
theorem rd_leaf {n : Nat} (h : ident b at_ lim = .ok (cls, num, false, p1)) (h2 : lenOf b p1 lim false = .ok (some n, p2)) (h3 : ¬ lim - p2 < n) (h4 : ¬ 300 < cnt + 1) : rd b (d + 1) at_ lim cnt =
    .ok (.mk ⟨cls, num, false, false, at_, p1, p2, p2 + n, p2 + n, 15 - d⟩ [], cnt + 1) := by
  rw [rd.eq_def]; simp only [h, h2, h3, h4, Option.any_some, decide_false, Bool.false_eq_true, if_false]
end
theorem rd_ok (b : ByteArray) : ∀ (d lim : Nat), NodeOk lim (fun a c => rd b d a lim c)
  | d, lim, a, c, t, c', h => by
    simp only at h
    cases hid : ident b a lim with
    | error e => rw [rd_e1 hid] at h; cases h
    | ok x =>
      obtain ⟨cls, num, bl, p1⟩ := x
      have q1 := ident_ok hid
      cases hlen : lenOf b p1 lim bl with
      | error e => rw [rd_e2 hid hlen] at h; cases h
      | ok x =>
        obtain ⟨on, p2⟩ := x
        have q2 := lenOf_ok hlen
        cases hany : on.any (fun n => decide (lim - p2 < n)) with
        | true => rw [rd_e3 hid hlen hany] at h; cases h
        | false =>
          by_cases hcnt : 300 < c + 1
          · rw [rd_e4 hid hlen hany hcnt] at h; cases h
          · cases d with
            | zero => rw [rd_e5 hid hlen hany hcnt] at h; cases h
            | succ d =>
              cases on with
              | none =>
                rw [rd_open hid hlen hcnt] at h
                cases ho : openC (fun a c => rd b d a lim c) b lim (lim - p2 + 1) p2 (c + 1) [] with
                | error e => rw [ho] at h; cases h
                | ok x =>
                  obtain ⟨l, s, c1⟩ := x
                  rw [ho] at h; cases h
                  have := openC_ok (rd_ok b d lim) ho (by omega)
                  simp only [Tree.h]; omega
              | some n =>
                have hn : ¬ lim - p2 < n := by simpa using hany
                cases bl with
                | false => rw [rd_leaf hid hlen hn hcnt] at h; cases h; simp only [Tree.h]; omega
                | true =>
                  rw [rd_kids hid hlen hn hcnt] at h
                  cases ho : kidsC (fun a c => rd b d a (p2 + n) c) (p2 + n) n p2 (c + 1) [] with
                  | error e => rw [ho] at h; cases h
                  | ok x =>
                    obtain ⟨l, c1⟩ := x
                    rw [ho] at h; cases h
                    have := kidsC_ok (rd_ok b d (p2 + n)) ho (by omega)
                    simp only [Tree.h]; omega
end Go.Proofs.Ytmjjfdppaomcfaa

/- Walks: the program reads identifiers and lengths. -/
namespace Go.Proofs.Ytmjjfdppaomcfaa
open Go Go.Proofs.Ytmjjfdppaomcfaa.Ab
set_option maxRecDepth 100000
set_option linter.unusedSimpArgs false

theorem wrapI {x : Int} (h : -(2 ^ 63) ≤ x) (h' : x < 2 ^ 63) : IntKind.i64.wrap x = x := by
  unfold IntKind.wrap; simp [IntKind.bits, IntKind.signed]; omega
theorem wrapS {i : Nat} (h : i < 2 ^ 62) : IntKind.i64.wrap ((i : Int) + 1) = ((i + 1 : Nat) : Int) := by
  rw [wrapI (by omega) (by omega)]; omega
theorem wrapN {n : Nat} (h : n < 2 ^ 62) : IntKind.i64.wrap (n : Int) = (n : Int) := wrapI (by omega) (by omega)
theorem lt60 : ((6 : Int) < 0) = False := by decide
theorem lt80 : ((8 : Int) < 0) = False := by decide
theorem and31 : ∀ {c : Nat}, c < 256 → IntKind.u8.wrap ((BitVec.ofInt IntKind.u8.bits (c : Int) &&& BitVec.ofInt IntKind.u8.bits 31).toNat : Nat) = ((c % 32 : Nat) : Int) := by decide +kernel
theorem and127 : ∀ {c : Nat}, c < 256 → IntKind.u8.wrap ((BitVec.ofInt IntKind.u8.bits (c : Int) &&& BitVec.ofInt IntKind.u8.bits 127).toNat : Nat) = ((c % 128 : Nat) : Int) := by decide +kernel
theorem and32 : ∀ {c : Nat}, c < 256 → (IntKind.u8.wrap ((BitVec.ofInt IntKind.u8.bits (c : Int) &&& BitVec.ofInt IntKind.u8.bits 32).toNat : Nat) != 0) = (c / 32 % 2 == 1) := by decide +kernel
theorem and128 : ∀ {c : Nat}, c < 256 → (IntKind.u8.wrap ((BitVec.ofInt IntKind.u8.bits (c : Int) &&& BitVec.ofInt IntKind.u8.bits 128).toNat : Nat) == 0) = decide (c < 128) := by decide +kernel
theorem shr6 : ∀ {c : Nat}, c < 256 → Int.fdiv (c : Int) (2 ^ min (6 : Int).toNat IntKind.u8.bits) = ((c / 64 : Nat) : Int) := by decide +kernel

def iv (n : Nat) : AV := .v (.int .i64 (n : Int))
def fltV (p : Flt) : AV := .ifc 96 (.agg [.v (.int .i64 (p.1 : Int)), .v (.int .i64 p.2)])
/-- all of the caller's stays, but for one block -/
structure Kp (H H' : AH) (r : Nat → Prop) : Prop where
  next : H.next ≤ H'.next
  own : ∀ n, n < H.next → ¬ r n → H'.own n = H.own n
  tip : ∀ t, t < H.next → H'.tip t = H.tip t
theorem Kp.refl (H : AH) (r : Nat → Prop) : Kp H H r := ⟨Nat.le_refl _, fun _ _ _ => rfl, fun _ _ => rfl⟩

theorem fail66 (a e : Int) (H : AH) : ACall Try.prog 66 [.v (.int .i64 a), .v (.int .i64 e)] H (fun out H' => out = .pan (.ifc 96 (.agg [.v (.int .i64 a), .v (.int .i64 e)])) ∧ H' = H) := by
  refine ACall.enter [] Cd.fn66 (by simp) ?_
  simp only [Cd.cd66, Tk.t66, base0, base1, base2, base3, Option.isNone_none, Option.isNone_some, Nat.reduceBEq, true_or, or_true, false_or, or_false, Nat.reduceLT, Nat.reduceMod, Nat.reducePow, rmaps, nsucc, List.flatten_cons, List.flatten_nil, Nat.reduceEqDiff, Nat.reduceLeDiff, Nat.reduceAdd, Nat.reduceMul, Nat.reduceSub, ↓reduceIte, reduceCtorEq, decide_true, decide_false]
section
variable {P : Program} {mu : List Nat} {K : Kont} {f : AF} {H : AH} {m : FuncId} {args : List AV} {v : AV}
theorem Ab.ACall.pan {dst : Option Nat} {os : List COp} (h : ACall P m args H fun o H1 => o = .pan v ∧ H1 = H) (h' : K.run (.panic v) f H) : ACall P m args H (callK P mu K dst os f) :=
  h.mono fun o H1 => by rintro ⟨rfl, rfl⟩; exact h'
end
theorem need70 (a l : Int) (H : AH) : ACall Try.prog 70 [.v (.int .i64 a), .v (.int .i64 l)] H (fun out H' => out = (if a < l then .ret (.tup []) else .pan (.ifc 96 (.agg [.v (.int .i64 l), .v (.int .i64 9)]))) ∧ H' = H) := by
  refine ACall.enter [] Cd.fn70 (by simp) ?_
  by_cases h : a < l
  · rw [if_pos h]
    simp only [show decide (a ≥ l) = false from decide_eq_false (by omega), Cd.cd70, Tk.t70, base0, base1, base2, base3, Option.isNone_none, Option.isNone_some, Nat.reduceBEq, true_or, or_true, false_or, or_false, Nat.reduceLT, Nat.reduceMod, Nat.reducePow, rmaps, nsucc, List.flatten_cons, List.flatten_nil, Nat.reduceEqDiff, Nat.reduceLeDiff, Nat.reduceAdd, Nat.reduceMul, Nat.reduceSub, ↓reduceIte, reduceCtorEq, decide_true, decide_false]
  · rw [if_neg h]
    simp only [show decide (a ≥ l) = true from decide_eq_true (by omega), Cd.cd70, Tk.t70, base0, base1, base2, base3, Option.isNone_none, Option.isNone_some, Nat.reduceBEq, true_or, or_true, false_or, or_false, Nat.reduceLT, Nat.reduceMod, Nat.reducePow, rmaps, nsucc, List.flatten_cons, List.flatten_nil, Nat.reduceEqDiff, Nat.reduceLeDiff, Nat.reduceAdd, Nat.reduceMul, Nat.reduceSub, ↓reduceIte, reduceCtorEq, decide_true, decide_false]
    refine (fail66 _ _ _).pan ?_
    simp only [Cd.cd70, Tk.t70, base0, base1, base2, base3, Option.isNone_none, Option.isNone_some, Nat.reduceBEq, true_or, or_true, false_or, or_false, Nat.reduceLT, Nat.reduceMod, Nat.reducePow, rmaps, nsucc, List.flatten_cons, List.flatten_nil, Nat.reduceEqDiff, Nat.reduceLeDiff, Nat.reduceAdd, Nat.reduceMul, Nat.reduceSub, ↓reduceIte, reduceCtorEq, decide_true, decide_false]
theorem need_ok {a l : Nat} (h : a < l) {H : AH} : ACall Try.prog 70 [.v (.int .i64 (a : Int)), .v (.int .i64 (l : Int))] H (fun out H' => out = .ret (.tup []) ∧ H' = H) := by
  have := need70 a l H; rw [if_pos (by omega)] at this; exact this
theorem need_no {a l : Nat} (h : ¬ a < l) {H : AH} : ACall Try.prog 70 [.v (.int .i64 (a : Int)), .v (.int .i64 (l : Int))] H (fun out H' => out = .pan (fltV (l, 9)) ∧ H' = H) := by
  have := need70 a l H; rw [if_neg (by omega)] at this; exact this

def idOut : Except Flt (Nat × Nat × Bool × Nat) → AOut
  | .ok (c, n, bl, p) => .ret (.tup [.agg [.v (.int .i64 (c : Int)), .v (.int .i64 (n : Int))], .v (.bool bl), .v (.int .i64 (p : Int))])
  | .error e => .pan (fltV e)
theorem tagL_end {b : ByteArray} {lim k p num : Nat} (h : ¬ p < lim) : tagL b lim k p num = .error (lim, 9) := by cases k <;> simp [tagL, h]
set_option maxHeartbeats 1000000 in
theorem ident64 (b : ByteArray) (hb : b.size ≤ 4000) (r at_ lim : Nat) (cnt : AV) (hl : lim ≤ b.size) (H : AH) (hr : r < H.next) (hro : H.own r = some (.cells [.v (.string b), cnt])) :
    ACall Try.prog 64 [.ptr r 0, .v (.int .i64 (at_ : Int)), .v (.int .i64 (lim : Int))] H (fun out H' => out = idOut (ident b at_ lim) ∧ Kp H H' (fun _ => False)) := by
  have hrn : (r = H.next) = False := eq_false (by omega)
  have hrn1 : (r = H.next + 1) = False := eq_false (by omega)
  refine ACall.enter [] Cd.fn64 (by simp) ?_
  simp only [Cd.cd64, Tk.t64, base0, base1, base2, base3, Option.isNone_none, Option.isNone_some, Nat.reduceBEq, true_or, or_true, false_or, or_false, Nat.reduceLT, Nat.reduceMod, Nat.reducePow, rmaps, nsucc, List.flatten_cons, List.flatten_nil, Nat.reduceEqDiff, Nat.reduceLeDiff, Nat.reduceAdd, Nat.reduceMul, Nat.reduceSub, ↓reduceIte, reduceCtorEq, decide_true, decide_false]
  by_cases h : at_ < lim
  rotate_left
  · refine (need_no h).pan ?_
    simp only [Cd.cd64, Tk.t64, base0, base1, base2, base3, Option.isNone_none, Option.isNone_some, Nat.reduceBEq, true_or, or_true, false_or, or_false, Nat.reduceLT, Nat.reduceMod, Nat.reducePow, rmaps, nsucc, List.flatten_cons, List.flatten_nil, Nat.reduceEqDiff, Nat.reduceLeDiff, Nat.reduceAdd, Nat.reduceMul, Nat.reduceSub, ↓reduceIte, reduceCtorEq, decide_true, decide_false]
    unfold ident; rw [if_neg h]
    exact ⟨rfl, ⟨by simp, fun n hn _ => by simp [show n ≠ H.next by omega], fun _ _ => rfl⟩⟩
  · refine (need_ok h).one ?_
    have hc := bt_lt b at_
    simp only [hro, hrn, hrn1, Int.toNat_natCast, sget (s := b) (i := at_) (by omega), Int.natCast_nonneg, lt60, shr6 hc, and31 hc, wrapN (show bt b at_ / 64 < 2 ^ 62 by omega), wrapN (show bt b at_ % 32 < 2 ^ 62 by omega), wrapS (show at_ < 2 ^ 62 by omega), Cd.cd64, Tk.t64, base0, base1, base2, base3, Option.isNone_none, Option.isNone_some, Nat.reduceBEq, true_or, or_true, false_or, or_false, Nat.reduceLT, Nat.reduceMod, Nat.reducePow, rmaps, nsucc, List.flatten_cons, List.flatten_nil, Nat.reduceEqDiff, Nat.reduceLeDiff, Nat.reduceAdd, Nat.reduceMul, Nat.reduceSub, ↓reduceIte, reduceCtorEq, decide_true, decide_false]
    by_cases h31 : bt b at_ % 32 < 31
    · simp only [show decide (((bt b at_ % 32 : Nat) : Int) < 31) = true from decide_eq_true (by omega), and32 hc, Cd.cd64, Tk.t64, base0, base1, base2, base3, Option.isNone_none, Option.isNone_some, Nat.reduceBEq, true_or, or_true, false_or, or_false, Nat.reduceLT, Nat.reduceMod, Nat.reducePow, rmaps, nsucc, List.flatten_cons, List.flatten_nil, Nat.reduceEqDiff, Nat.reduceLeDiff, Nat.reduceAdd, Nat.reduceMul, Nat.reduceSub, ↓reduceIte, reduceCtorEq, decide_true, decide_false]
      unfold ident; rw [if_pos h, if_pos h31]
      refine ⟨rfl, ⟨by simp <;> omega, fun n hn _ => by simp [show n ≠ H.next by omega, show n ≠ H.next + 1 by omega], fun _ _ => rfl⟩⟩
    · simp only [show decide (((bt b at_ % 32 : Nat) : Int) < 31) = false from decide_eq_false (by omega), Cd.cd64, Tk.t64, base0, base1, base2, base3, Option.isNone_none, Option.isNone_some, Nat.reduceBEq, true_or, or_true, false_or, or_false, Nat.reduceLT, Nat.reduceMod, Nat.reducePow, rmaps, nsucc, List.flatten_cons, List.flatten_nil, Nat.reduceEqDiff, Nat.reduceLeDiff, Nat.reduceAdd, Nat.reduceMul, Nat.reduceSub, ↓reduceIte, reduceCtorEq, decide_true, decide_false]
      have hid : ident b at_ lim = match tagL b lim (lim - (at_ + 1)) (at_ + 1) 0 with
        | .ok (m, p) => .ok (bt b at_ / 64, m, bt b at_ / 32 % 2 == 1, p)
        | .error e => .error e := by
        unfold ident; rw [if_pos h, if_neg h31] <;> rfl
      rw [hid]
      generalize hT : tagL b lim (lim - (at_ + 1)) (at_ + 1) 0 = T
      obtain ⟨n1, hn1⟩ : ∃ n1, n1 = H.next := ⟨_, rfl⟩
      refine LWP.loop [] (fun m f H' => ∃ p k num, m = lim - p ∧ (lim - p ≤ k) ∧ (p ≤ lim) ∧ (num ≤ 268435456) ∧ (tagL b lim k p num = T) ∧ f.t 0 = .ptr r 0 ∧ f.t 1 = .v (.int .i64 (p : Nat)) ∧ f.t 2 = .v (.int .i64 (lim : Nat)) ∧ f.t 6 = .ptr n1 0 ∧ f.t 9 = .v (.int .u8 (bt b at_ : Nat)) ∧ f.t 10 = .ptr (n1 + 1) 0 ∧ f.ds = [] ∧ H'.own (n1 + 1) = some (.cells [.v (.int .i64 (bt b at_ / 64 : Nat)), .v (.int .i64 (num : Nat))]) ∧ H'.own n1 = some (.cells [.v (.int .i64 0), .v (.int .i64 0)]) ∧ n1 + 1 < H'.next ∧ (∀ n, n < H.next → H'.own n = H.own n) ∧ H'.tip = H.tip) ?_ ?_ (m := lim - (at_ + 1))
      · exact ⟨at_ + 1, lim - (at_ + 1), 0, rfl, (by omega), (by omega), (by omega), (hT), rfl, rfl, rfl, by rw [hn1]; rfl, rfl, by rw [hn1]; rfl, rfl, ⟨by simp [hn1], by simp [hn1], by simp [hn1], fun n hn => by simp [show n ≠ H.next by omega, show n ≠ H.next + 1 by omega], rfl⟩⟩
      · rintro m f H' ⟨p, k, num, rfl, hk, hp, hnum, hT, f0, f1, f2, f6, f9, f10, hds, ⟨h2,h1,hx,hk2,ht2⟩⟩
        have hro' : H'.own r = some (.cells [.v (.string b), cnt]) := (hk2 r hr).trans hro
        have m1 : (r = n1 + 1) = False := eq_false (by omega)
        have m2 : (n1 = n1 + 1) = False := eq_false (by omega)
        have m3 : (n1 + 1 = n1) = False := eq_false (by omega)
        simp only [f0, f1, f2, f6, f9, f10, hds, Cd.cd64, Tk.t64, base0, base1, base2, base3, Option.isNone_none, Option.isNone_some, Nat.reduceBEq, true_or, or_true, false_or, or_false, Nat.reduceLT, Nat.reduceMod, Nat.reducePow, rmaps, nsucc, List.flatten_cons, List.flatten_nil, Nat.reduceEqDiff, Nat.reduceLeDiff, Nat.reduceAdd, Nat.reduceMul, Nat.reduceSub, ↓reduceIte, reduceCtorEq, decide_true, decide_false]
        by_cases hpl : p < lim
        rotate_left
        · refine (need_no hpl).pan ?_
          simp only [f0, f1, f2, f6, f9, f10, hds, Cd.cd64, Tk.t64, base0, base1, base2, base3, Option.isNone_none, Option.isNone_some, Nat.reduceBEq, true_or, or_true, false_or, or_false, Nat.reduceLT, Nat.reduceMod, Nat.reducePow, rmaps, nsucc, List.flatten_cons, List.flatten_nil, Nat.reduceEqDiff, Nat.reduceLeDiff, Nat.reduceAdd, Nat.reduceMul, Nat.reduceSub, ↓reduceIte, reduceCtorEq, decide_true, decide_false]
          rw [tagL_end hpl] at hT
          rw [← hT]
          exact ⟨rfl, ⟨by omega, fun n hn _ => hk2 n hn, fun _ _ => by rw [ht2]⟩⟩
        · refine (need_ok hpl).one ?_
          have hcp := bt_lt b p
          obtain ⟨k, rfl⟩ : ∃ k', k = k' + 1 := ⟨k - 1, by omega⟩
          simp only [tagL, if_pos hpl] at hT
          simp only [h2, hro', m1, m2, m3, Int.toNat_natCast, sget (s := b) (i := p) (by omega), Int.natCast_nonneg, and127 hcp, wrapN (show bt b p % 128 < 2 ^ 62 by omega), show IntKind.i64.wrap (IntKind.i64.wrap ((num : Int) * 128) + ((bt b p % 128 : Nat) : Int)) = ((num * 128 + bt b p % 128 : Nat) : Int) from by rw [wrapI (x := (num : Int) * 128) (by omega) (by omega), wrapI (by omega) (by omega)]; omega, f0, f1, f2, f6, f9, f10, hds, Cd.cd64, Tk.t64, base0, base1, base2, base3, Option.isNone_none, Option.isNone_some, Nat.reduceBEq, true_or, or_true, false_or, or_false, Nat.reduceLT, Nat.reduceMod, Nat.reducePow, rmaps, nsucc, List.flatten_cons, List.flatten_nil, Nat.reduceEqDiff, Nat.reduceLeDiff, Nat.reduceAdd, Nat.reduceMul, Nat.reduceSub, ↓reduceIte, reduceCtorEq, decide_true, decide_false]
          generalize hM : num * 128 + bt b p % 128 = M at hT
          by_cases hov : 268435456 < M
          · simp only [show decide (((M : Nat) : Int) > 268435456) = true from decide_eq_true (by omega), f0, f1, f2, f6, f9, f10, hds, Cd.cd64, Tk.t64, base0, base1, base2, base3, Option.isNone_none, Option.isNone_some, Nat.reduceBEq, true_or, or_true, false_or, or_false, Nat.reduceLT, Nat.reduceMod, Nat.reducePow, rmaps, nsucc, List.flatten_cons, List.flatten_nil, Nat.reduceEqDiff, Nat.reduceLeDiff, Nat.reduceAdd, Nat.reduceMul, Nat.reduceSub, ↓reduceIte, reduceCtorEq, decide_true, decide_false]
            refine (fail66 _ _ _).pan ?_
            simp only [f0, f1, f2, f6, f9, f10, hds, Cd.cd64, Tk.t64, base0, base1, base2, base3, Option.isNone_none, Option.isNone_some, Nat.reduceBEq, true_or, or_true, false_or, or_false, Nat.reduceLT, Nat.reduceMod, Nat.reducePow, rmaps, nsucc, List.flatten_cons, List.flatten_nil, Nat.reduceEqDiff, Nat.reduceLeDiff, Nat.reduceAdd, Nat.reduceMul, Nat.reduceSub, ↓reduceIte, reduceCtorEq, decide_true, decide_false]
            rw [if_pos hov] at hT
            rw [← hT]
            exact ⟨rfl, ⟨by simp; omega, fun n hn _ => by simp [show n ≠ n1 + 1 by omega]; exact hk2 n hn, fun _ _ => by simp [ht2]⟩⟩
          rw [if_neg hov] at hT
          simp only [show decide (((M : Nat) : Int) > 268435456) = false from decide_eq_false (by omega), hro', m1, m2, m3, Int.toNat_natCast, sget (s := b) (i := p) (by omega), Int.natCast_nonneg, and128 hcp, f0, f1, f2, f6, f9, f10, hds, Cd.cd64, Tk.t64, base0, base1, base2, base3, Option.isNone_none, Option.isNone_some, Nat.reduceBEq, true_or, or_true, false_or, or_false, Nat.reduceLT, Nat.reduceMod, Nat.reducePow, rmaps, nsucc, List.flatten_cons, List.flatten_nil, Nat.reduceEqDiff, Nat.reduceLeDiff, Nat.reduceAdd, Nat.reduceMul, Nat.reduceSub, ↓reduceIte, reduceCtorEq, decide_true, decide_false]
          by_cases h128 : bt b p < 128
          · rw [if_pos h128] at hT
            simp only [h1, m1, m2, m3, decide_eq_true h128, and32 hc, wrapS (show p < 2 ^ 62 by omega), f0, f1, f2, f6, f9, f10, hds, Cd.cd64, Tk.t64, base0, base1, base2, base3, Option.isNone_none, Option.isNone_some, Nat.reduceBEq, true_or, or_true, false_or, or_false, Nat.reduceLT, Nat.reduceMod, Nat.reducePow, rmaps, nsucc, List.flatten_cons, List.flatten_nil, Nat.reduceEqDiff, Nat.reduceLeDiff, Nat.reduceAdd, Nat.reduceMul, Nat.reduceSub, ↓reduceIte, reduceCtorEq, decide_true, decide_false]
            rw [← hT]
            exact ⟨rfl, ⟨by simp; omega, fun n hn _ => by simp [show n ≠ n1 + 1 by omega, show n ≠ n1 by omega]; exact hk2 n hn, fun _ _ => by simp [ht2]⟩⟩
          · rw [if_neg h128] at hT
            simp only [decide_eq_false h128, wrapS (show p < 2 ^ 62 by omega), f0, f1, f2, f6, f9, f10, hds, Cd.cd64, Tk.t64, base0, base1, base2, base3, Option.isNone_none, Option.isNone_some, Nat.reduceBEq, true_or, or_true, false_or, or_false, Nat.reduceLT, Nat.reduceMod, Nat.reducePow, rmaps, nsucc, List.flatten_cons, List.flatten_nil, Nat.reduceEqDiff, Nat.reduceLeDiff, Nat.reduceAdd, Nat.reduceMul, Nat.reduceSub, ↓reduceIte, reduceCtorEq, decide_true, decide_false]
            exact ⟨_, by omega, p + 1, k, M, rfl, by omega, by omega, by omega, hT, rfl, by simp [m3, h1, hx, ht2]; exact fun n hn => by simp [show n ≠ n1 + 1 by omega]; exact hk2 n hn⟩
end Go.Proofs.Ytmjjfdppaomcfaa
