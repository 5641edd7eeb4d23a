/- Part 2 of a proof: conformRelations holds for every input; no condition. -/
import Derived.Test.YtchpcjmgifnmdaaDoorProg
import Derived.KernelRfl
import Derived.DeepKeys3
import Derived.Test.YtchpcjmgifnmdaaDoorCards
import Derived.Test.YtchpcjmgifnmdaaDoorTie
import Derived.ProofKit
import Derived.OpenShut
import Derived.SizedLaws
import Derived.Deep.DeepHandedRow
import Derived.Lib.LaidTab
import Derived.Test.YtchpcjmgifnmdaaDoorGl
import Derived.Test.YtchpcjmgifnmdaaDoorAb0
import Derived.Test.YtchpcjmgifnmdaaDoorAb1
import Derived.Test.YtchpcjmgifnmdaaDoorAb2
import Derived.Test.YtchpcjmgifnmdaaDoorAb3
import Derived.Test.YtchpcjmgifnmdaaDoorAb4
import Derived.Test.YtchpcjmgifnmdaaDoorAb5
import Derived.Test.YtchpcjmgifnmdaaDoorAb6
import Derived.Test.YtchpcjmgifnmdaaDoorAb7
import Derived.Test.YtchpcjmgifnmdaaDoorAb8
import Derived.Test.YtchpcjmgifnmdaaDoorAb8a
import Derived.Test.YtchpcjmgifnmdaaDoorAb8b
import Derived.Test.YtchpcjmgifnmdaaDoorAb8c
import Derived.Test.YtchpcjmgifnmdaaDoorAb8m
import Derived.Test.YtchpcjmgifnmdaaDoorAb8d
import Derived.Test.YtchpcjmgifnmdaaDoorAb9
import Derived.Test.YtchpcjmgifnmdaaDoorAb10
import Derived.Test.YtchpcjmgifnmdaaDoorAb11
import Derived.Test.YtchpcjmgifnmdaaDoorAb12
import Derived.Test.YtchpcjmgifnmdaaDoorAb13
import Derived.Test.YtchpcjmgifnmdaaDoorAb14
import Derived.Test.YtchpcjmgifnmdaaDoorAb15
import Derived.Test.YtchpcjmgifnmdaaDoorAb16
import Derived.Test.YtchpcjmgifnmdaaDoorAb17
import Derived.Test.YtchpcjmgifnmdaaDoorAb18
import Derived.Test.YtchpcjmgifnmdaaDoorAb19
import Derived.Test.YtchpcjmgifnmdaaDoorAb20
import Derived.Test.YtchpcjmgifnmdaaDoorAb23
import Derived.Test.YtchpcjmgifnmdaaDoorQf1
set_option linter.unusedSimpArgs false
set_option linter.unusedVariables false
set_option linter.defProp false
/- For each function the facts on types that a walk through it needs, by program. -/
namespace Go.Proofs.YtchpcjmgifnmdaaDoor
open Go Go.Proofs.YtchpcjmgifnmdaaDoor.Ab
namespace Tk
theorem aI {a b : Prop} (x : a) (y : b) : a ∧ b := ⟨x, y⟩
def tkd2 := @Nat.zero_add
theorem t2 : type_of% tkd2 := tkd2
def tkd3 := (aI @Ty.ag1 (aI @Ty.by1 (aI @Ty.if1 (aI @Ty.sz1 (aI @Ty.un1 (aI @Ty.unn1 (aI @Ty.zr1 (aI @Ty.ag3 (aI @Ty.by3 (aI @Ty.if3 (aI @Ty.in3 (aI @Ty.sz3 (aI @Ty.un3 (aI @Ty.unn3 (aI @Ty.zr3 (aI @Ty.ag4 (aI @Ty.bo4 (aI @Ty.by4 (aI @Ty.if4 (aI @Ty.sz4 (aI @Ty.un4 (aI @Ty.unn4 (aI @Ty.zr4 (aI @Ty.ag24 (aI @Ty.by24 (aI @Ty.fo24_0 (aI @Ty.fo24_1 (aI @Ty.fo24_2 (aI @Ty.fo24_3 (aI @Ty.fo24_4 (aI @Ty.ft24_0 (aI @Ty.ft24_1 (aI @Ty.ft24_2 (aI @Ty.ft24_3 (aI @Ty.ft24_4 (aI @Ty.if24 (aI @Ty.pl24 (aI @Ty.sz24 (aI @Ty.un24 (aI @Ty.unn24 (aI @Ty.zr24 (aI @Ty.ag27 (aI @Ty.by27 (aI @Ty.el27 (aI @Ty.if27 (aI @Ty.ni27 (aI @Ty.sz27 (aI @Ty.un27 (aI @Ty.unn27 (aI @Ty.zr27 (aI @Ty.ag28 (aI @Ty.by28 (aI @Ty.if28 (aI @Ty.in28 (aI @Ty.sz28 (aI @Ty.un28 (aI @Ty.unn28 (aI @Ty.zr28 (aI @Ty.ag32 (aI @Ty.by32 (aI @Ty.el32 (aI @Ty.if32 (aI @Ty.ni32 (aI @Ty.sz32 (aI @Ty.un32 (aI @Ty.unn32 (aI @Ty.zr32 (aI @Ty.ag36 (aI @Ty.by36 (aI @Ty.el36 (aI @Ty.if36 (aI @Ty.ni36 (aI @Ty.sz36 (aI @Ty.un36 (aI @Ty.unn36 (aI @Ty.zr36 (aI @Ty.ag41 (aI @Ty.by41 (aI @Ty.fo41_0 (aI @Ty.fo41_1 (aI @Ty.ft41_0 (aI @Ty.ft41_1 (aI @Ty.if41 (aI @Ty.pl41 (aI @Ty.sz41 (aI @Ty.un41 (aI @Ty.unn41 (aI @Ty.zr41 (aI @Ty.ag43 (aI @Ty.by43 (aI @Ty.fo43_0 (aI @Ty.fo43_1 (aI @Ty.fo43_2 (aI @Ty.ft43_0 (aI @Ty.ft43_1 (aI @Ty.ft43_2 (aI @Ty.if43 (aI @Ty.pl43 (aI @Ty.sz43 (aI @Ty.un43 (aI @Ty.unn43 (@Ty.zr43))))))))))))))))))))))))))))))))))))))))))))))))))))))))))))))))))))))))))))))))))))))))))))))))))))))
theorem t3 : type_of% tkd3 := tkd3
def tkd4 := (aI @Ty.ag3 (aI @Ty.by3 (aI @Ty.if3 (aI @Ty.in3 (aI @Ty.sz3 (aI @Ty.un3 (aI @Ty.unn3 (aI @Ty.zr3 (aI @Ty.ag4 (aI @Ty.bo4 (aI @Ty.by4 (aI @Ty.if4 (aI @Ty.sz4 (aI @Ty.un4 (aI @Ty.unn4 (aI @Ty.zr4 (aI @Ty.ag24 (aI @Ty.by24 (aI @Ty.fo24_0 (aI @Ty.fo24_1 (aI @Ty.fo24_2 (aI @Ty.fo24_3 (aI @Ty.fo24_4 (aI @Ty.ft24_0 (aI @Ty.ft24_1 (aI @Ty.ft24_2 (aI @Ty.ft24_3 (aI @Ty.ft24_4 (aI @Ty.if24 (aI @Ty.pl24 (aI @Ty.sz24 (aI @Ty.un24 (aI @Ty.unn24 (aI @Ty.zr24 (aI @Ty.ag28 (aI @Ty.by28 (aI @Ty.if28 (aI @Ty.in28 (aI @Ty.sz28 (aI @Ty.un28 (aI @Ty.unn28 (@Ty.zr28))))))))))))))))))))))))))))))))))))))))))
theorem t4 : type_of% tkd4 := tkd4
def tkd9 := (aI @Ty.ag1 (aI @Ty.by1 (aI @Ty.if1 (aI @Ty.sz1 (aI @Ty.un1 (aI @Ty.unn1 (aI @Ty.zr1 (aI @Ty.ag3 (aI @Ty.by3 (aI @Ty.if3 (aI @Ty.in3 (aI @Ty.sz3 (aI @Ty.un3 (aI @Ty.unn3 (aI @Ty.zr3 (aI @Ty.ag4 (aI @Ty.bo4 (aI @Ty.by4 (aI @Ty.if4 (aI @Ty.sz4 (aI @Ty.un4 (aI @Ty.unn4 (aI @Ty.zr4 (aI @Ty.ag24 (aI @Ty.by24 (aI @Ty.fo24_0 (aI @Ty.fo24_1 (aI @Ty.fo24_2 (aI @Ty.fo24_3 (aI @Ty.fo24_4 (aI @Ty.ft24_0 (aI @Ty.ft24_1 (aI @Ty.ft24_2 (aI @Ty.ft24_3 (aI @Ty.ft24_4 (aI @Ty.if24 (aI @Ty.pl24 (aI @Ty.sz24 (aI @Ty.un24 (aI @Ty.unn24 (aI @Ty.zr24 (aI @Ty.ag27 (aI @Ty.by27 (aI @Ty.el27 (aI @Ty.if27 (aI @Ty.ni27 (aI @Ty.sz27 (aI @Ty.un27 (aI @Ty.unn27 (aI @Ty.zr27 (aI @Ty.ag32 (aI @Ty.by32 (aI @Ty.el32 (aI @Ty.if32 (aI @Ty.ni32 (aI @Ty.sz32 (aI @Ty.un32 (aI @Ty.unn32 (aI @Ty.zr32 (aI @Ty.ag41 (aI @Ty.by41 (aI @Ty.fo41_0 (aI @Ty.fo41_1 (aI @Ty.ft41_0 (aI @Ty.ft41_1 (aI @Ty.if41 (aI @Ty.pl41 (aI @Ty.sz41 (aI @Ty.un41 (aI @Ty.unn41 (@Ty.zr41)))))))))))))))))))))))))))))))))))))))))))))))))))))))))))))))))))))))
theorem t9 : type_of% tkd9 := tkd9
def tkd15 := (aI @Ty.ag1 (aI @Ty.by1 (aI @Ty.if1 (aI @Ty.sz1 (aI @Ty.un1 (aI @Ty.unn1 (aI @Ty.zr1 (aI @Ty.ag2 (aI @Ty.by2 (aI @Ty.if2 (aI @Ty.in2 (aI @Ty.sz2 (aI @Ty.un2 (aI @Ty.unn2 (aI @Ty.zr2 (aI @Ty.ag3 (aI @Ty.by3 (aI @Ty.if3 (aI @Ty.in3 (aI @Ty.sz3 (aI @Ty.un3 (aI @Ty.unn3 (aI @Ty.zr3 (aI @Ty.ag24 (aI @Ty.by24 (aI @Ty.fo24_0 (aI @Ty.fo24_1 (aI @Ty.fo24_2 (aI @Ty.fo24_3 (aI @Ty.fo24_4 (aI @Ty.ft24_0 (aI @Ty.ft24_1 (aI @Ty.ft24_2 (aI @Ty.ft24_3 (aI @Ty.ft24_4 (aI @Ty.if24 (aI @Ty.pl24 (aI @Ty.sz24 (aI @Ty.un24 (aI @Ty.unn24 (aI @Ty.zr24 (aI @Ty.ag27 (aI @Ty.by27 (aI @Ty.el27 (aI @Ty.if27 (aI @Ty.ni27 (aI @Ty.sz27 (aI @Ty.un27 (aI @Ty.unn27 (aI @Ty.zr27 (aI @Ty.ag28 (aI @Ty.by28 (aI @Ty.if28 (aI @Ty.in28 (aI @Ty.sz28 (aI @Ty.un28 (aI @Ty.unn28 (@Ty.zr28))))))))))))))))))))))))))))))))))))))))))))))))))))))))))
theorem t15 : type_of% tkd15 := tkd15
def tkd17 := (aI @Ty.ag4 (aI @Ty.bo4 (aI @Ty.by4 (aI @Ty.if4 (aI @Ty.sz4 (aI @Ty.un4 (aI @Ty.unn4 (aI @Ty.zr4 (aI @Ty.ag24 (aI @Ty.by24 (aI @Ty.fo24_0 (aI @Ty.fo24_1 (aI @Ty.fo24_2 (aI @Ty.fo24_3 (aI @Ty.fo24_4 (aI @Ty.ft24_0 (aI @Ty.ft24_1 (aI @Ty.ft24_2 (aI @Ty.ft24_3 (aI @Ty.ft24_4 (aI @Ty.if24 (aI @Ty.pl24 (aI @Ty.sz24 (aI @Ty.un24 (aI @Ty.unn24 (aI @Ty.zr24 (aI @Ty.ag28 (aI @Ty.by28 (aI @Ty.if28 (aI @Ty.in28 (aI @Ty.sz28 (aI @Ty.un28 (aI @Ty.unn28 (aI @Ty.zr28 (aI @Ty.ag95 (aI @Ty.by95 (aI @Ty.if95 (aI @Ty.po95 (aI @Ty.sz95 (aI @Ty.un95 (aI @Ty.unn95 (@Ty.zr95))))))))))))))))))))))))))))))))))))))))))
theorem t17 : type_of% tkd17 := tkd17
def tkd18 := (aI @Ty.ag4 (aI @Ty.bo4 (aI @Ty.by4 (aI @Ty.if4 (aI @Ty.sz4 (aI @Ty.un4 (aI @Ty.unn4 (aI @Ty.zr4 (aI @Ty.ag22 (aI @Ty.by22 (aI @Ty.el22 (aI @Ty.if22 (aI @Ty.ni22 (aI @Ty.sz22 (aI @Ty.un22 (aI @Ty.unn22 (aI @Ty.zr22 (aI @Ty.ag24 (aI @Ty.by24 (aI @Ty.fo24_0 (aI @Ty.fo24_1 (aI @Ty.fo24_2 (aI @Ty.fo24_3 (aI @Ty.fo24_4 (aI @Ty.ft24_0 (aI @Ty.ft24_1 (aI @Ty.ft24_2 (aI @Ty.ft24_3 (aI @Ty.ft24_4 (aI @Ty.if24 (aI @Ty.pl24 (aI @Ty.sz24 (aI @Ty.un24 (aI @Ty.unn24 (aI @Ty.zr24 (aI @Ty.ag113 (aI @Ty.by113 (aI @Ty.ef113 (aI @Ty.fo113_0 (aI @Ty.fo113_1 (aI @Ty.fo113_2 (aI @Ty.fo113_3 (aI @Ty.ft113_0 (aI @Ty.ft113_1 (aI @Ty.ft113_2 (aI @Ty.ft113_3 (aI @Ty.if113 (aI @Ty.pl113 (aI @Ty.sz113 (aI @Ty.un113 (aI @Ty.unn113 (@Ty.zr113))))))))))))))))))))))))))))))))))))))))))))))))))))
theorem t18 : type_of% tkd18 := tkd18
def tkd20 := (aI @Ty.ag2 (aI @Ty.by2 (aI @Ty.if2 (aI @Ty.in2 (aI @Ty.sz2 (aI @Ty.un2 (aI @Ty.unn2 (aI @Ty.zr2 (aI @Ty.ag3 (aI @Ty.by3 (aI @Ty.if3 (aI @Ty.in3 (aI @Ty.sz3 (aI @Ty.un3 (aI @Ty.unn3 (aI @Ty.zr3 (aI @Ty.ag24 (aI @Ty.by24 (aI @Ty.fo24_0 (aI @Ty.fo24_1 (aI @Ty.fo24_2 (aI @Ty.fo24_3 (aI @Ty.fo24_4 (aI @Ty.ft24_0 (aI @Ty.ft24_1 (aI @Ty.ft24_2 (aI @Ty.ft24_3 (aI @Ty.ft24_4 (aI @Ty.if24 (aI @Ty.pl24 (aI @Ty.sz24 (aI @Ty.un24 (aI @Ty.unn24 (@Ty.zr24))))))))))))))))))))))))))))))))))
theorem t20 : type_of% tkd20 := tkd20
def tkd22 := (aI @Ty.ag3 (aI @Ty.by3 (aI @Ty.if3 (aI @Ty.in3 (aI @Ty.sz3 (aI @Ty.un3 (aI @Ty.unn3 (aI @Ty.zr3 (aI @Ty.ag27 (aI @Ty.by27 (aI @Ty.el27 (aI @Ty.if27 (aI @Ty.ni27 (aI @Ty.sz27 (aI @Ty.un27 (aI @Ty.unn27 (@Ty.zr27)))))))))))))))))
theorem t22 : type_of% tkd22 := tkd22
def tkd23 := (aI @Ty.ag1 (aI @Ty.by1 (aI @Ty.if1 (aI @Ty.sz1 (aI @Ty.un1 (aI @Ty.unn1 (aI @Ty.zr1 (aI @Ty.ag2 (aI @Ty.by2 (aI @Ty.if2 (aI @Ty.in2 (aI @Ty.sz2 (aI @Ty.un2 (aI @Ty.unn2 (aI @Ty.zr2 (aI @Ty.ag3 (aI @Ty.by3 (aI @Ty.if3 (aI @Ty.in3 (aI @Ty.sz3 (aI @Ty.un3 (aI @Ty.unn3 (aI @Ty.zr3 (aI @Ty.ag4 (aI @Ty.bo4 (aI @Ty.by4 (aI @Ty.if4 (aI @Ty.sz4 (aI @Ty.un4 (aI @Ty.unn4 (aI @Ty.zr4 (aI @Ty.ag22 (aI @Ty.by22 (aI @Ty.el22 (aI @Ty.if22 (aI @Ty.ni22 (aI @Ty.sz22 (aI @Ty.un22 (aI @Ty.unn22 (aI @Ty.zr22 (aI @Ty.ag24 (aI @Ty.by24 (aI @Ty.fo24_0 (aI @Ty.fo24_1 (aI @Ty.fo24_2 (aI @Ty.fo24_3 (aI @Ty.fo24_4 (aI @Ty.ft24_0 (aI @Ty.ft24_1 (aI @Ty.ft24_2 (aI @Ty.ft24_3 (aI @Ty.ft24_4 (aI @Ty.if24 (aI @Ty.pl24 (aI @Ty.sz24 (aI @Ty.un24 (aI @Ty.unn24 (aI @Ty.zr24 (aI @Ty.ag113 (aI @Ty.by113 (aI @Ty.ef113 (aI @Ty.fo113_0 (aI @Ty.fo113_1 (aI @Ty.fo113_2 (aI @Ty.fo113_3 (aI @Ty.ft113_0 (aI @Ty.ft113_1 (aI @Ty.ft113_2 (aI @Ty.ft113_3 (aI @Ty.if113 (aI @Ty.pl113 (aI @Ty.sz113 (aI @Ty.un113 (aI @Ty.unn113 (@Ty.zr113)))))))))))))))))))))))))))))))))))))))))))))))))))))))))))))))))))))))))))
theorem t23 : type_of% tkd23 := tkd23
def tkd24 := (aI @Ty.ag1 (aI @Ty.by1 (aI @Ty.if1 (aI @Ty.sz1 (aI @Ty.un1 (aI @Ty.unn1 (aI @Ty.zr1 (aI @Ty.ag2 (aI @Ty.by2 (aI @Ty.if2 (aI @Ty.in2 (aI @Ty.sz2 (aI @Ty.un2 (aI @Ty.unn2 (aI @Ty.zr2 (aI @Ty.ag3 (aI @Ty.by3 (aI @Ty.if3 (aI @Ty.in3 (aI @Ty.sz3 (aI @Ty.un3 (aI @Ty.unn3 (aI @Ty.zr3 (aI @Ty.ag4 (aI @Ty.bo4 (aI @Ty.by4 (aI @Ty.if4 (aI @Ty.sz4 (aI @Ty.un4 (aI @Ty.unn4 (aI @Ty.zr4 (aI @Ty.ag22 (aI @Ty.by22 (aI @Ty.el22 (aI @Ty.if22 (aI @Ty.ni22 (aI @Ty.sz22 (aI @Ty.un22 (aI @Ty.unn22 (aI @Ty.zr22 (aI @Ty.ag24 (aI @Ty.by24 (aI @Ty.fo24_0 (aI @Ty.fo24_1 (aI @Ty.fo24_2 (aI @Ty.fo24_3 (aI @Ty.fo24_4 (aI @Ty.ft24_0 (aI @Ty.ft24_1 (aI @Ty.ft24_2 (aI @Ty.ft24_3 (aI @Ty.ft24_4 (aI @Ty.if24 (aI @Ty.pl24 (aI @Ty.sz24 (aI @Ty.un24 (aI @Ty.unn24 (aI @Ty.zr24 (aI @Ty.ag27 (aI @Ty.by27 (aI @Ty.el27 (aI @Ty.if27 (aI @Ty.ni27 (aI @Ty.sz27 (aI @Ty.un27 (aI @Ty.unn27 (aI @Ty.zr27 (aI @Ty.ag113 (aI @Ty.by113 (aI @Ty.ef113 (aI @Ty.fo113_0 (aI @Ty.fo113_1 (aI @Ty.fo113_2 (aI @Ty.fo113_3 (aI @Ty.ft113_0 (aI @Ty.ft113_1 (aI @Ty.ft113_2 (aI @Ty.ft113_3 (aI @Ty.if113 (aI @Ty.pl113 (aI @Ty.sz113 (aI @Ty.un113 (aI @Ty.unn113 (@Ty.zr113))))))))))))))))))))))))))))))))))))))))))))))))))))))))))))))))))))))))))))))))))))
theorem t24 : type_of% tkd24 := tkd24
def tkd27 := (aI @Ty.ag24 (aI @Ty.by24 (aI @Ty.fo24_0 (aI @Ty.fo24_1 (aI @Ty.fo24_2 (aI @Ty.fo24_3 (aI @Ty.fo24_4 (aI @Ty.ft24_0 (aI @Ty.ft24_1 (aI @Ty.ft24_2 (aI @Ty.ft24_3 (aI @Ty.ft24_4 (aI @Ty.if24 (aI @Ty.pl24 (aI @Ty.sz24 (aI @Ty.un24 (aI @Ty.unn24 (@Ty.zr24))))))))))))))))))
theorem t27 : type_of% tkd27 := tkd27
def tkd29 := (aI @Ty.ag3 (aI @Ty.by3 (aI @Ty.if3 (aI @Ty.in3 (aI @Ty.sz3 (aI @Ty.un3 (aI @Ty.unn3 (aI @Ty.zr3 (aI @Ty.ag24 (aI @Ty.by24 (aI @Ty.fo24_0 (aI @Ty.fo24_1 (aI @Ty.fo24_2 (aI @Ty.fo24_3 (aI @Ty.fo24_4 (aI @Ty.ft24_0 (aI @Ty.ft24_1 (aI @Ty.ft24_2 (aI @Ty.ft24_3 (aI @Ty.ft24_4 (aI @Ty.if24 (aI @Ty.pl24 (aI @Ty.sz24 (aI @Ty.un24 (aI @Ty.unn24 (aI @Ty.zr24 (aI @Ty.ag27 (aI @Ty.by27 (aI @Ty.el27 (aI @Ty.if27 (aI @Ty.ni27 (aI @Ty.sz27 (aI @Ty.un27 (aI @Ty.unn27 (aI @Ty.zr27 (aI @Ty.ag28 (aI @Ty.by28 (aI @Ty.if28 (aI @Ty.in28 (aI @Ty.sz28 (aI @Ty.un28 (aI @Ty.unn28 (aI @Ty.zr28 (aI @Ty.ag99 (aI @Ty.by99 (aI @Ty.if99 (aI @Ty.po99 (aI @Ty.sz99 (aI @Ty.un99 (aI @Ty.unn99 (aI @Ty.zr99 (aI @Ty.ag105 (aI @Ty.by105 (aI @Ty.if105 (aI @Ty.in105 (aI @Ty.sz105 (aI @Ty.un105 (aI @Ty.unn105 (@Ty.zr105)))))))))))))))))))))))))))))))))))))))))))))))))))))))))))
theorem t29 : type_of% tkd29 := tkd29
def tkd30 := (aI @Ty.ag3 (aI @Ty.by3 (aI @Ty.if3 (aI @Ty.in3 (aI @Ty.sz3 (aI @Ty.un3 (aI @Ty.unn3 (aI @Ty.zr3 (aI @Ty.ag27 (aI @Ty.by27 (aI @Ty.el27 (aI @Ty.if27 (aI @Ty.ni27 (aI @Ty.sz27 (aI @Ty.un27 (aI @Ty.unn27 (@Ty.zr27)))))))))))))))))
theorem t30 : type_of% tkd30 := tkd30
def tkd32 := (aI @Ty.ag3 (aI @Ty.by3 (aI @Ty.if3 (aI @Ty.in3 (aI @Ty.sz3 (aI @Ty.un3 (aI @Ty.unn3 (aI @Ty.zr3 (aI @Ty.ag4 (aI @Ty.bo4 (aI @Ty.by4 (aI @Ty.if4 (aI @Ty.sz4 (aI @Ty.un4 (aI @Ty.unn4 (aI @Ty.zr4 (aI @Ty.ag24 (aI @Ty.by24 (aI @Ty.fo24_0 (aI @Ty.fo24_1 (aI @Ty.fo24_2 (aI @Ty.fo24_3 (aI @Ty.fo24_4 (aI @Ty.ft24_0 (aI @Ty.ft24_1 (aI @Ty.ft24_2 (aI @Ty.ft24_3 (aI @Ty.ft24_4 (aI @Ty.if24 (aI @Ty.pl24 (aI @Ty.sz24 (aI @Ty.un24 (aI @Ty.unn24 (aI @Ty.zr24 (aI @Ty.ag27 (aI @Ty.by27 (aI @Ty.el27 (aI @Ty.if27 (aI @Ty.ni27 (aI @Ty.sz27 (aI @Ty.un27 (aI @Ty.unn27 (@Ty.zr27)))))))))))))))))))))))))))))))))))))))))))
theorem t32 : type_of% tkd32 := tkd32
def tkd35 := (aI @Ty.ag1 (aI @Ty.by1 (aI @Ty.if1 (aI @Ty.sz1 (aI @Ty.un1 (aI @Ty.unn1 (aI @Ty.zr1 (aI @Ty.ag3 (aI @Ty.by3 (aI @Ty.if3 (aI @Ty.in3 (aI @Ty.sz3 (aI @Ty.un3 (aI @Ty.unn3 (aI @Ty.zr3 (aI @Ty.ag4 (aI @Ty.bo4 (aI @Ty.by4 (aI @Ty.if4 (aI @Ty.sz4 (aI @Ty.un4 (aI @Ty.unn4 (aI @Ty.zr4 (aI @Ty.ag22 (aI @Ty.by22 (aI @Ty.el22 (aI @Ty.if22 (aI @Ty.ni22 (aI @Ty.sz22 (aI @Ty.un22 (aI @Ty.unn22 (aI @Ty.zr22 (aI @Ty.ag24 (aI @Ty.by24 (aI @Ty.fo24_0 (aI @Ty.fo24_1 (aI @Ty.fo24_2 (aI @Ty.fo24_3 (aI @Ty.fo24_4 (aI @Ty.ft24_0 (aI @Ty.ft24_1 (aI @Ty.ft24_2 (aI @Ty.ft24_3 (aI @Ty.ft24_4 (aI @Ty.if24 (aI @Ty.pl24 (aI @Ty.sz24 (aI @Ty.un24 (aI @Ty.unn24 (aI @Ty.zr24 (aI @Ty.ag27 (aI @Ty.by27 (aI @Ty.el27 (aI @Ty.if27 (aI @Ty.ni27 (aI @Ty.sz27 (aI @Ty.un27 (aI @Ty.unn27 (aI @Ty.zr27 (aI @Ty.ag113 (aI @Ty.by113 (aI @Ty.ef113 (aI @Ty.fo113_0 (aI @Ty.fo113_1 (aI @Ty.fo113_2 (aI @Ty.fo113_3 (aI @Ty.ft113_0 (aI @Ty.ft113_1 (aI @Ty.ft113_2 (aI @Ty.ft113_3 (aI @Ty.if113 (aI @Ty.pl113 (aI @Ty.sz113 (aI @Ty.un113 (aI @Ty.unn113 (aI @Ty.zr113 (aI @Ty.ag133 (aI @Ty.by133 (aI @Ty.el133 (aI @Ty.if133 (aI @Ty.ni133 (aI @Ty.sz133 (aI @Ty.un133 (aI @Ty.unn133 (@Ty.zr133)))))))))))))))))))))))))))))))))))))))))))))))))))))))))))))))))))))))))))))))))))))
theorem t35 : type_of% tkd35 := tkd35
def tkd36 := (aI @Ty.ag3 (aI @Ty.by3 (aI @Ty.if3 (aI @Ty.in3 (aI @Ty.sz3 (aI @Ty.un3 (aI @Ty.unn3 (@Ty.zr3))))))))
theorem t36 : type_of% tkd36 := tkd36
def tkd41 := (aI @Ty.ag2 (aI @Ty.by2 (aI @Ty.if2 (aI @Ty.in2 (aI @Ty.sz2 (aI @Ty.un2 (aI @Ty.unn2 (aI @Ty.zr2 (aI @Ty.ag3 (aI @Ty.by3 (aI @Ty.if3 (aI @Ty.in3 (aI @Ty.sz3 (aI @Ty.un3 (aI @Ty.unn3 (aI @Ty.zr3 (aI @Ty.ag24 (aI @Ty.by24 (aI @Ty.fo24_0 (aI @Ty.fo24_1 (aI @Ty.fo24_2 (aI @Ty.fo24_3 (aI @Ty.fo24_4 (aI @Ty.ft24_0 (aI @Ty.ft24_1 (aI @Ty.ft24_2 (aI @Ty.ft24_3 (aI @Ty.ft24_4 (aI @Ty.if24 (aI @Ty.pl24 (aI @Ty.sz24 (aI @Ty.un24 (aI @Ty.unn24 (@Ty.zr24))))))))))))))))))))))))))))))))))
theorem t41 : type_of% tkd41 := tkd41
def tkd43 := (aI @Ty.ag1 (aI @Ty.by1 (aI @Ty.if1 (aI @Ty.sz1 (aI @Ty.un1 (aI @Ty.unn1 (aI @Ty.zr1 (aI @Ty.ag2 (aI @Ty.by2 (aI @Ty.if2 (aI @Ty.in2 (aI @Ty.sz2 (aI @Ty.un2 (aI @Ty.unn2 (aI @Ty.zr2 (aI @Ty.ag3 (aI @Ty.by3 (aI @Ty.if3 (aI @Ty.in3 (aI @Ty.sz3 (aI @Ty.un3 (aI @Ty.unn3 (aI @Ty.zr3 (aI @Ty.ag4 (aI @Ty.bo4 (aI @Ty.by4 (aI @Ty.if4 (aI @Ty.sz4 (aI @Ty.un4 (aI @Ty.unn4 (aI @Ty.zr4 (aI @Ty.ag24 (aI @Ty.by24 (aI @Ty.fo24_0 (aI @Ty.fo24_1 (aI @Ty.fo24_2 (aI @Ty.fo24_3 (aI @Ty.fo24_4 (aI @Ty.ft24_0 (aI @Ty.ft24_1 (aI @Ty.ft24_2 (aI @Ty.ft24_3 (aI @Ty.ft24_4 (aI @Ty.if24 (aI @Ty.pl24 (aI @Ty.sz24 (aI @Ty.un24 (aI @Ty.unn24 (aI @Ty.zr24 (aI @Ty.ag27 (aI @Ty.by27 (aI @Ty.el27 (aI @Ty.if27 (aI @Ty.ni27 (aI @Ty.sz27 (aI @Ty.un27 (aI @Ty.unn27 (aI @Ty.zr27 (aI @Ty.ag28 (aI @Ty.by28 (aI @Ty.if28 (aI @Ty.in28 (aI @Ty.sz28 (aI @Ty.un28 (aI @Ty.unn28 (aI @Ty.zr28 (aI @Ty.ag32 (aI @Ty.by32 (aI @Ty.el32 (aI @Ty.if32 (aI @Ty.ni32 (aI @Ty.sz32 (aI @Ty.un32 (aI @Ty.unn32 (aI @Ty.zr32 (aI @Ty.ag41 (aI @Ty.by41 (aI @Ty.fo41_0 (aI @Ty.fo41_1 (aI @Ty.ft41_0 (aI @Ty.ft41_1 (aI @Ty.if41 (aI @Ty.pl41 (aI @Ty.sz41 (aI @Ty.un41 (aI @Ty.unn41 (aI @Ty.zr41 (aI @Ty.ag95 (aI @Ty.by95 (aI @Ty.if95 (aI @Ty.po95 (aI @Ty.sz95 (aI @Ty.un95 (aI @Ty.unn95 (aI @Ty.zr95 (aI @Ty.ag99 (aI @Ty.by99 (aI @Ty.if99 (aI @Ty.po99 (aI @Ty.sz99 (aI @Ty.un99 (aI @Ty.unn99 (aI @Ty.zr99 (aI @Ty.ag100 (aI @Ty.by100 (aI @Ty.el100 (aI @Ty.if100 (aI @Ty.ni100 (aI @Ty.sz100 (aI @Ty.un100 (aI @Ty.unn100 (aI @Ty.zr100 (aI @Ty.ag101 (aI @Ty.by101 (aI @Ty.if101 (aI @Ty.sz101 (aI @Ty.un101 (aI @Ty.unn101 (aI @Ty.zr101 (aI @Ty.ag103 (aI @Ty.by103 (aI @Ty.fo103_0 (aI @Ty.fo103_1 (aI @Ty.fo103_2 (aI @Ty.fo103_3 (aI @Ty.fo103_4 (aI @Ty.fo103_5 (aI @Ty.ft103_0 (aI @Ty.ft103_1 (aI @Ty.ft103_2 (aI @Ty.ft103_3 (aI @Ty.ft103_4 (aI @Ty.ft103_5 (aI @Ty.if103 (aI @Ty.pl103 (aI @Ty.sz103 (aI @Ty.un103 (aI @Ty.unn103 (aI @Ty.zr103 (aI @Ty.ag105 (aI @Ty.by105 (aI @Ty.if105 (aI @Ty.in105 (aI @Ty.sz105 (aI @Ty.un105 (aI @Ty.unn105 (aI @Ty.zr105 (aI @Ty.ag107 (aI @Ty.by107 (aI @Ty.ef107 (aI @Ty.fo107_0 (aI @Ty.fo107_1 (aI @Ty.ft107_0 (aI @Ty.ft107_1 (aI @Ty.if107 (aI @Ty.pl107 (aI @Ty.sz107 (aI @Ty.un107 (aI @Ty.unn107 (aI @Ty.zr107 (aI @Ty.ag165 (aI @Ty.by165 (aI @Ty.el165 (aI @Ty.if165 (aI @Ty.ni165 (aI @Ty.sz165 (aI @Ty.un165 (aI @Ty.unn165 (@Ty.zr165)))))))))))))))))))))))))))))))))))))))))))))))))))))))))))))))))))))))))))))))))))))))))))))))))))))))))))))))))))))))))))))))))))))))))))))))))))))))))))))))))))))))))
theorem t43 : type_of% tkd43 := tkd43
def tkd44 := (aI @Ty.ag1 (aI @Ty.by1 (aI @Ty.if1 (aI @Ty.sz1 (aI @Ty.un1 (aI @Ty.unn1 (aI @Ty.zr1 (aI @Ty.ag3 (aI @Ty.by3 (aI @Ty.if3 (aI @Ty.in3 (aI @Ty.sz3 (aI @Ty.un3 (aI @Ty.unn3 (aI @Ty.zr3 (aI @Ty.ag27 (aI @Ty.by27 (aI @Ty.el27 (aI @Ty.if27 (aI @Ty.ni27 (aI @Ty.sz27 (aI @Ty.un27 (aI @Ty.unn27 (aI @Ty.zr27 (aI @Ty.ag32 (aI @Ty.by32 (aI @Ty.el32 (aI @Ty.if32 (aI @Ty.ni32 (aI @Ty.sz32 (aI @Ty.un32 (aI @Ty.unn32 (aI @Ty.zr32 (aI @Ty.ag41 (aI @Ty.by41 (aI @Ty.fo41_0 (aI @Ty.fo41_1 (aI @Ty.ft41_0 (aI @Ty.ft41_1 (aI @Ty.if41 (aI @Ty.pl41 (aI @Ty.sz41 (aI @Ty.un41 (aI @Ty.unn41 (@Ty.zr41)))))))))))))))))))))))))))))))))))))))))))))
theorem t44 : type_of% tkd44 := tkd44
def tkd45 := (aI @Ty.ag1 (aI @Ty.by1 (aI @Ty.if1 (aI @Ty.sz1 (aI @Ty.un1 (aI @Ty.unn1 (aI @Ty.zr1 (aI @Ty.ag2 (aI @Ty.by2 (aI @Ty.if2 (aI @Ty.in2 (aI @Ty.sz2 (aI @Ty.un2 (aI @Ty.unn2 (aI @Ty.zr2 (aI @Ty.ag3 (aI @Ty.by3 (aI @Ty.if3 (aI @Ty.in3 (aI @Ty.sz3 (aI @Ty.un3 (aI @Ty.unn3 (aI @Ty.zr3 (aI @Ty.ag4 (aI @Ty.bo4 (aI @Ty.by4 (aI @Ty.if4 (aI @Ty.sz4 (aI @Ty.un4 (aI @Ty.unn4 (aI @Ty.zr4 (aI @Ty.ag24 (aI @Ty.by24 (aI @Ty.fo24_0 (aI @Ty.fo24_1 (aI @Ty.fo24_2 (aI @Ty.fo24_3 (aI @Ty.fo24_4 (aI @Ty.ft24_0 (aI @Ty.ft24_1 (aI @Ty.ft24_2 (aI @Ty.ft24_3 (aI @Ty.ft24_4 (aI @Ty.if24 (aI @Ty.pl24 (aI @Ty.sz24 (aI @Ty.un24 (aI @Ty.unn24 (aI @Ty.zr24 (aI @Ty.ag27 (aI @Ty.by27 (aI @Ty.el27 (aI @Ty.if27 (aI @Ty.ni27 (aI @Ty.sz27 (aI @Ty.un27 (aI @Ty.unn27 (aI @Ty.zr27 (aI @Ty.ag32 (aI @Ty.by32 (aI @Ty.el32 (aI @Ty.if32 (aI @Ty.ni32 (aI @Ty.sz32 (aI @Ty.un32 (aI @Ty.unn32 (aI @Ty.zr32 (aI @Ty.ag41 (aI @Ty.by41 (aI @Ty.fo41_0 (aI @Ty.fo41_1 (aI @Ty.ft41_0 (aI @Ty.ft41_1 (aI @Ty.if41 (aI @Ty.pl41 (aI @Ty.sz41 (aI @Ty.un41 (aI @Ty.unn41 (@Ty.zr41)))))))))))))))))))))))))))))))))))))))))))))))))))))))))))))))))))))))))))))))
theorem t45 : type_of% tkd45 := tkd45
def tkd56 := (aI @Ty.ag2 (aI @Ty.by2 (aI @Ty.if2 (aI @Ty.in2 (aI @Ty.sz2 (aI @Ty.un2 (aI @Ty.unn2 (aI @Ty.zr2 (aI @Ty.ag3 (aI @Ty.by3 (aI @Ty.if3 (aI @Ty.in3 (aI @Ty.sz3 (aI @Ty.un3 (aI @Ty.unn3 (aI @Ty.zr3 (aI @Ty.ag4 (aI @Ty.bo4 (aI @Ty.by4 (aI @Ty.if4 (aI @Ty.sz4 (aI @Ty.un4 (aI @Ty.unn4 (aI @Ty.zr4 (aI @Ty.ag22 (aI @Ty.by22 (aI @Ty.el22 (aI @Ty.if22 (aI @Ty.ni22 (aI @Ty.sz22 (aI @Ty.un22 (aI @Ty.unn22 (aI @Ty.zr22 (aI @Ty.ag24 (aI @Ty.by24 (aI @Ty.fo24_0 (aI @Ty.fo24_1 (aI @Ty.fo24_2 (aI @Ty.fo24_3 (aI @Ty.fo24_4 (aI @Ty.ft24_0 (aI @Ty.ft24_1 (aI @Ty.ft24_2 (aI @Ty.ft24_3 (aI @Ty.ft24_4 (aI @Ty.if24 (aI @Ty.pl24 (aI @Ty.sz24 (aI @Ty.un24 (aI @Ty.unn24 (aI @Ty.zr24 (aI @Ty.ag113 (aI @Ty.by113 (aI @Ty.ef113 (aI @Ty.fo113_0 (aI @Ty.fo113_1 (aI @Ty.fo113_2 (aI @Ty.fo113_3 (aI @Ty.ft113_0 (aI @Ty.ft113_1 (aI @Ty.ft113_2 (aI @Ty.ft113_3 (aI @Ty.if113 (aI @Ty.pl113 (aI @Ty.sz113 (aI @Ty.un113 (aI @Ty.unn113 (@Ty.zr113))))))))))))))))))))))))))))))))))))))))))))))))))))))))))))))))))))
theorem t56 : type_of% tkd56 := tkd56
def tkd57 := (aI @Ty.ag3 (aI @Ty.by3 (aI @Ty.if3 (aI @Ty.in3 (aI @Ty.sz3 (aI @Ty.un3 (aI @Ty.unn3 (aI @Ty.zr3 (aI @Ty.ag22 (aI @Ty.by22 (aI @Ty.el22 (aI @Ty.if22 (aI @Ty.ni22 (aI @Ty.sz22 (aI @Ty.un22 (aI @Ty.unn22 (aI @Ty.zr22 (aI @Ty.ag24 (aI @Ty.by24 (aI @Ty.fo24_0 (aI @Ty.fo24_1 (aI @Ty.fo24_2 (aI @Ty.fo24_3 (aI @Ty.fo24_4 (aI @Ty.ft24_0 (aI @Ty.ft24_1 (aI @Ty.ft24_2 (aI @Ty.ft24_3 (aI @Ty.ft24_4 (aI @Ty.if24 (aI @Ty.pl24 (aI @Ty.sz24 (aI @Ty.un24 (aI @Ty.unn24 (aI @Ty.zr24 (aI @Ty.ag113 (aI @Ty.by113 (aI @Ty.ef113 (aI @Ty.fo113_0 (aI @Ty.fo113_1 (aI @Ty.fo113_2 (aI @Ty.fo113_3 (aI @Ty.ft113_0 (aI @Ty.ft113_1 (aI @Ty.ft113_2 (aI @Ty.ft113_3 (aI @Ty.if113 (aI @Ty.pl113 (aI @Ty.sz113 (aI @Ty.un113 (aI @Ty.unn113 (@Ty.zr113))))))))))))))))))))))))))))))))))))))))))))))))))))
theorem t57 : type_of% tkd57 := tkd57
def tkd58 := (aI @Ty.ag2 (aI @Ty.by2 (aI @Ty.if2 (aI @Ty.in2 (aI @Ty.sz2 (aI @Ty.un2 (aI @Ty.unn2 (aI @Ty.zr2 (aI @Ty.ag3 (aI @Ty.by3 (aI @Ty.if3 (aI @Ty.in3 (aI @Ty.sz3 (aI @Ty.un3 (aI @Ty.unn3 (aI @Ty.zr3 (aI @Ty.ag4 (aI @Ty.bo4 (aI @Ty.by4 (aI @Ty.if4 (aI @Ty.sz4 (aI @Ty.un4 (aI @Ty.unn4 (aI @Ty.zr4 (aI @Ty.ag24 (aI @Ty.by24 (aI @Ty.fo24_0 (aI @Ty.fo24_1 (aI @Ty.fo24_2 (aI @Ty.fo24_3 (aI @Ty.fo24_4 (aI @Ty.ft24_0 (aI @Ty.ft24_1 (aI @Ty.ft24_2 (aI @Ty.ft24_3 (aI @Ty.ft24_4 (aI @Ty.if24 (aI @Ty.pl24 (aI @Ty.sz24 (aI @Ty.un24 (aI @Ty.unn24 (aI @Ty.zr24 (aI @Ty.ag28 (aI @Ty.by28 (aI @Ty.if28 (aI @Ty.in28 (aI @Ty.sz28 (aI @Ty.un28 (aI @Ty.unn28 (aI @Ty.zr28 (aI @Ty.ag165 (aI @Ty.by165 (aI @Ty.el165 (aI @Ty.if165 (aI @Ty.ni165 (aI @Ty.sz165 (aI @Ty.un165 (aI @Ty.unn165 (@Ty.zr165)))))))))))))))))))))))))))))))))))))))))))))))))))))))))))
theorem t58 : type_of% tkd58 := tkd58
def tkd59 := (aI @Ty.ag1 (aI @Ty.by1 (aI @Ty.if1 (aI @Ty.sz1 (aI @Ty.un1 (aI @Ty.unn1 (aI @Ty.zr1 (aI @Ty.ag3 (aI @Ty.by3 (aI @Ty.if3 (aI @Ty.in3 (aI @Ty.sz3 (aI @Ty.un3 (aI @Ty.unn3 (aI @Ty.zr3 (aI @Ty.ag24 (aI @Ty.by24 (aI @Ty.fo24_0 (aI @Ty.fo24_1 (aI @Ty.fo24_2 (aI @Ty.fo24_3 (aI @Ty.fo24_4 (aI @Ty.ft24_0 (aI @Ty.ft24_1 (aI @Ty.ft24_2 (aI @Ty.ft24_3 (aI @Ty.ft24_4 (aI @Ty.if24 (aI @Ty.pl24 (aI @Ty.sz24 (aI @Ty.un24 (aI @Ty.unn24 (aI @Ty.zr24 (aI @Ty.ag95 (aI @Ty.by95 (aI @Ty.if95 (aI @Ty.po95 (aI @Ty.sz95 (aI @Ty.un95 (aI @Ty.unn95 (aI @Ty.zr95 (aI @Ty.ag99 (aI @Ty.by99 (aI @Ty.if99 (aI @Ty.po99 (aI @Ty.sz99 (aI @Ty.un99 (aI @Ty.unn99 (aI @Ty.zr99 (aI @Ty.ag101 (aI @Ty.by101 (aI @Ty.if101 (aI @Ty.sz101 (aI @Ty.un101 (aI @Ty.unn101 (aI @Ty.zr101 (aI @Ty.ag103 (aI @Ty.by103 (aI @Ty.fo103_0 (aI @Ty.fo103_1 (aI @Ty.fo103_2 (aI @Ty.fo103_3 (aI @Ty.fo103_4 (aI @Ty.fo103_5 (aI @Ty.ft103_0 (aI @Ty.ft103_1 (aI @Ty.ft103_2 (aI @Ty.ft103_3 (aI @Ty.ft103_4 (aI @Ty.ft103_5 (aI @Ty.if103 (aI @Ty.pl103 (aI @Ty.sz103 (aI @Ty.un103 (aI @Ty.unn103 (aI @Ty.zr103 (aI @Ty.ag107 (aI @Ty.by107 (aI @Ty.ef107 (aI @Ty.fo107_0 (aI @Ty.fo107_1 (aI @Ty.ft107_0 (aI @Ty.ft107_1 (aI @Ty.if107 (aI @Ty.pl107 (aI @Ty.sz107 (aI @Ty.un107 (aI @Ty.unn107 (@Ty.zr107)))))))))))))))))))))))))))))))))))))))))))))))))))))))))))))))))))))))))))))))))))))))))
theorem t59 : type_of% tkd59 := tkd59
def tkd60 := (aI @Ty.ag1 (aI @Ty.by1 (aI @Ty.if1 (aI @Ty.sz1 (aI @Ty.un1 (aI @Ty.unn1 (aI @Ty.zr1 (aI @Ty.ag2 (aI @Ty.by2 (aI @Ty.if2 (aI @Ty.in2 (aI @Ty.sz2 (aI @Ty.un2 (aI @Ty.unn2 (aI @Ty.zr2 (aI @Ty.ag3 (aI @Ty.by3 (aI @Ty.if3 (aI @Ty.in3 (aI @Ty.sz3 (aI @Ty.un3 (aI @Ty.unn3 (aI @Ty.zr3 (aI @Ty.ag4 (aI @Ty.bo4 (aI @Ty.by4 (aI @Ty.if4 (aI @Ty.sz4 (aI @Ty.un4 (aI @Ty.unn4 (aI @Ty.zr4 (aI @Ty.ag27 (aI @Ty.by27 (aI @Ty.el27 (aI @Ty.if27 (aI @Ty.ni27 (aI @Ty.sz27 (aI @Ty.un27 (aI @Ty.unn27 (aI @Ty.zr27 (aI @Ty.ag95 (aI @Ty.by95 (aI @Ty.if95 (aI @Ty.po95 (aI @Ty.sz95 (aI @Ty.un95 (aI @Ty.unn95 (aI @Ty.zr95 (aI @Ty.ag99 (aI @Ty.by99 (aI @Ty.if99 (aI @Ty.po99 (aI @Ty.sz99 (aI @Ty.un99 (aI @Ty.unn99 (aI @Ty.zr99 (aI @Ty.ag100 (aI @Ty.by100 (aI @Ty.el100 (aI @Ty.if100 (aI @Ty.ni100 (aI @Ty.sz100 (aI @Ty.un100 (aI @Ty.unn100 (aI @Ty.zr100 (aI @Ty.ag103 (aI @Ty.by103 (aI @Ty.fo103_0 (aI @Ty.fo103_1 (aI @Ty.fo103_2 (aI @Ty.fo103_3 (aI @Ty.fo103_4 (aI @Ty.fo103_5 (aI @Ty.ft103_0 (aI @Ty.ft103_1 (aI @Ty.ft103_2 (aI @Ty.ft103_3 (aI @Ty.ft103_4 (aI @Ty.ft103_5 (aI @Ty.if103 (aI @Ty.pl103 (aI @Ty.sz103 (aI @Ty.un103 (aI @Ty.unn103 (aI @Ty.zr103 (aI @Ty.ag105 (aI @Ty.by105 (aI @Ty.if105 (aI @Ty.in105 (aI @Ty.sz105 (aI @Ty.un105 (aI @Ty.unn105 (aI @Ty.zr105 (aI @Ty.ag107 (aI @Ty.by107 (aI @Ty.ef107 (aI @Ty.fo107_0 (aI @Ty.fo107_1 (aI @Ty.ft107_0 (aI @Ty.ft107_1 (aI @Ty.if107 (aI @Ty.pl107 (aI @Ty.sz107 (aI @Ty.un107 (aI @Ty.unn107 (@Ty.zr107))))))))))))))))))))))))))))))))))))))))))))))))))))))))))))))))))))))))))))))))))))))))))))))))))))))))))
theorem t60 : type_of% tkd60 := tkd60
def tkd61 := @Nat.zero_add
theorem t61 : type_of% tkd61 := tkd61
def tkd62 := (aI @Ty.ag1 (aI @Ty.by1 (aI @Ty.if1 (aI @Ty.sz1 (aI @Ty.un1 (aI @Ty.unn1 (aI @Ty.zr1 (aI @Ty.ag3 (aI @Ty.by3 (aI @Ty.if3 (aI @Ty.in3 (aI @Ty.sz3 (aI @Ty.un3 (aI @Ty.unn3 (aI @Ty.zr3 (aI @Ty.ag27 (aI @Ty.by27 (aI @Ty.el27 (aI @Ty.if27 (aI @Ty.ni27 (aI @Ty.sz27 (aI @Ty.un27 (aI @Ty.unn27 (aI @Ty.zr27 (aI @Ty.ag104 (aI @Ty.by104 (aI @Ty.if104 (aI @Ty.in104 (aI @Ty.sz104 (aI @Ty.un104 (aI @Ty.unn104 (aI @Ty.zr104 (aI @Ty.ag105 (aI @Ty.by105 (aI @Ty.if105 (aI @Ty.in105 (aI @Ty.sz105 (aI @Ty.un105 (aI @Ty.unn105 (@Ty.zr105))))))))))))))))))))))))))))))))))))))))
theorem t62 : type_of% tkd62 := tkd62
def tkd63 := (aI @Ty.ag1 (aI @Ty.by1 (aI @Ty.if1 (aI @Ty.sz1 (aI @Ty.un1 (aI @Ty.unn1 (aI @Ty.zr1 (aI @Ty.ag3 (aI @Ty.by3 (aI @Ty.if3 (aI @Ty.in3 (aI @Ty.sz3 (aI @Ty.un3 (aI @Ty.unn3 (aI @Ty.zr3 (aI @Ty.ag24 (aI @Ty.by24 (aI @Ty.fo24_0 (aI @Ty.fo24_1 (aI @Ty.fo24_2 (aI @Ty.fo24_3 (aI @Ty.fo24_4 (aI @Ty.ft24_0 (aI @Ty.ft24_1 (aI @Ty.ft24_2 (aI @Ty.ft24_3 (aI @Ty.ft24_4 (aI @Ty.if24 (aI @Ty.pl24 (aI @Ty.sz24 (aI @Ty.un24 (aI @Ty.unn24 (aI @Ty.zr24 (aI @Ty.ag27 (aI @Ty.by27 (aI @Ty.el27 (aI @Ty.if27 (aI @Ty.ni27 (aI @Ty.sz27 (aI @Ty.un27 (aI @Ty.unn27 (@Ty.zr27))))))))))))))))))))))))))))))))))))))))))
theorem t63 : type_of% tkd63 := tkd63
def tkd64 := (aI @Ty.ag1 (aI @Ty.by1 (aI @Ty.if1 (aI @Ty.sz1 (aI @Ty.un1 (aI @Ty.unn1 (aI @Ty.zr1 (aI @Ty.ag2 (aI @Ty.by2 (aI @Ty.if2 (aI @Ty.in2 (aI @Ty.sz2 (aI @Ty.un2 (aI @Ty.unn2 (aI @Ty.zr2 (aI @Ty.ag3 (aI @Ty.by3 (aI @Ty.if3 (aI @Ty.in3 (aI @Ty.sz3 (aI @Ty.un3 (aI @Ty.unn3 (aI @Ty.zr3 (aI @Ty.ag4 (aI @Ty.bo4 (aI @Ty.by4 (aI @Ty.if4 (aI @Ty.sz4 (aI @Ty.un4 (aI @Ty.unn4 (aI @Ty.zr4 (aI @Ty.ag22 (aI @Ty.by22 (aI @Ty.el22 (aI @Ty.if22 (aI @Ty.ni22 (aI @Ty.sz22 (aI @Ty.un22 (aI @Ty.unn22 (aI @Ty.zr22 (aI @Ty.ag24 (aI @Ty.by24 (aI @Ty.fo24_0 (aI @Ty.fo24_1 (aI @Ty.fo24_2 (aI @Ty.fo24_3 (aI @Ty.fo24_4 (aI @Ty.ft24_0 (aI @Ty.ft24_1 (aI @Ty.ft24_2 (aI @Ty.ft24_3 (aI @Ty.ft24_4 (aI @Ty.if24 (aI @Ty.pl24 (aI @Ty.sz24 (aI @Ty.un24 (aI @Ty.unn24 (aI @Ty.zr24 (aI @Ty.ag27 (aI @Ty.by27 (aI @Ty.el27 (aI @Ty.if27 (aI @Ty.ni27 (aI @Ty.sz27 (aI @Ty.un27 (aI @Ty.unn27 (aI @Ty.zr27 (aI @Ty.ag113 (aI @Ty.by113 (aI @Ty.ef113 (aI @Ty.fo113_0 (aI @Ty.fo113_1 (aI @Ty.fo113_2 (aI @Ty.fo113_3 (aI @Ty.ft113_0 (aI @Ty.ft113_1 (aI @Ty.ft113_2 (aI @Ty.ft113_3 (aI @Ty.if113 (aI @Ty.pl113 (aI @Ty.sz113 (aI @Ty.un113 (aI @Ty.unn113 (aI @Ty.zr113 (aI @Ty.ag133 (aI @Ty.by133 (aI @Ty.el133 (aI @Ty.if133 (aI @Ty.ni133 (aI @Ty.sz133 (aI @Ty.un133 (aI @Ty.unn133 (@Ty.zr133)))))))))))))))))))))))))))))))))))))))))))))))))))))))))))))))))))))))))))))))))))))))))))))
theorem t64 : type_of% tkd64 := tkd64
def tkd66 := (aI @Ty.ag3 (aI @Ty.by3 (aI @Ty.if3 (aI @Ty.in3 (aI @Ty.sz3 (aI @Ty.un3 (aI @Ty.unn3 (@Ty.zr3))))))))
theorem t66 : type_of% tkd66 := tkd66
def tkd67 := (aI @Ty.ag1 (aI @Ty.by1 (aI @Ty.if1 (aI @Ty.sz1 (aI @Ty.un1 (aI @Ty.unn1 (aI @Ty.zr1 (aI @Ty.ag2 (aI @Ty.by2 (aI @Ty.if2 (aI @Ty.in2 (aI @Ty.sz2 (aI @Ty.un2 (aI @Ty.unn2 (aI @Ty.zr2 (aI @Ty.ag3 (aI @Ty.by3 (aI @Ty.if3 (aI @Ty.in3 (aI @Ty.sz3 (aI @Ty.un3 (aI @Ty.unn3 (aI @Ty.zr3 (aI @Ty.ag4 (aI @Ty.bo4 (aI @Ty.by4 (aI @Ty.if4 (aI @Ty.sz4 (aI @Ty.un4 (aI @Ty.unn4 (aI @Ty.zr4 (aI @Ty.ag27 (aI @Ty.by27 (aI @Ty.el27 (aI @Ty.if27 (aI @Ty.ni27 (aI @Ty.sz27 (aI @Ty.un27 (aI @Ty.unn27 (aI @Ty.zr27 (aI @Ty.ag113 (aI @Ty.by113 (aI @Ty.ef113 (aI @Ty.fo113_0 (aI @Ty.fo113_1 (aI @Ty.fo113_2 (aI @Ty.fo113_3 (aI @Ty.ft113_0 (aI @Ty.ft113_1 (aI @Ty.ft113_2 (aI @Ty.ft113_3 (aI @Ty.if113 (aI @Ty.pl113 (aI @Ty.sz113 (aI @Ty.un113 (aI @Ty.unn113 (@Ty.zr113)))))))))))))))))))))))))))))))))))))))))))))))))))))))))
theorem t67 : type_of% tkd67 := tkd67
def tkd68 := (aI @Ty.ag3 (aI @Ty.by3 (aI @Ty.if3 (aI @Ty.in3 (aI @Ty.sz3 (aI @Ty.un3 (aI @Ty.unn3 (aI @Ty.zr3 (aI @Ty.ag4 (aI @Ty.bo4 (aI @Ty.by4 (aI @Ty.if4 (aI @Ty.sz4 (aI @Ty.un4 (aI @Ty.unn4 (aI @Ty.zr4 (aI @Ty.ag27 (aI @Ty.by27 (aI @Ty.el27 (aI @Ty.if27 (aI @Ty.ni27 (aI @Ty.sz27 (aI @Ty.un27 (aI @Ty.unn27 (@Ty.zr27)))))))))))))))))))))))))
theorem t68 : type_of% tkd68 := tkd68
def tkd69 := (aI @Ty.ag1 (aI @Ty.by1 (aI @Ty.if1 (aI @Ty.sz1 (aI @Ty.un1 (aI @Ty.unn1 (aI @Ty.zr1 (aI @Ty.ag2 (aI @Ty.by2 (aI @Ty.if2 (aI @Ty.in2 (aI @Ty.sz2 (aI @Ty.un2 (aI @Ty.unn2 (aI @Ty.zr2 (aI @Ty.ag3 (aI @Ty.by3 (aI @Ty.if3 (aI @Ty.in3 (aI @Ty.sz3 (aI @Ty.un3 (aI @Ty.unn3 (aI @Ty.zr3 (aI @Ty.ag4 (aI @Ty.bo4 (aI @Ty.by4 (aI @Ty.if4 (aI @Ty.sz4 (aI @Ty.un4 (aI @Ty.unn4 (aI @Ty.zr4 (aI @Ty.ag27 (aI @Ty.by27 (aI @Ty.el27 (aI @Ty.if27 (aI @Ty.ni27 (aI @Ty.sz27 (aI @Ty.un27 (aI @Ty.unn27 (aI @Ty.zr27 (aI @Ty.ag113 (aI @Ty.by113 (aI @Ty.ef113 (aI @Ty.fo113_0 (aI @Ty.fo113_1 (aI @Ty.fo113_2 (aI @Ty.fo113_3 (aI @Ty.ft113_0 (aI @Ty.ft113_1 (aI @Ty.ft113_2 (aI @Ty.ft113_3 (aI @Ty.if113 (aI @Ty.pl113 (aI @Ty.sz113 (aI @Ty.un113 (aI @Ty.unn113 (@Ty.zr113)))))))))))))))))))))))))))))))))))))))))))))))))))))))))
theorem t69 : type_of% tkd69 := tkd69
def tkd70 := (aI @Ty.ag24 (aI @Ty.by24 (aI @Ty.fo24_0 (aI @Ty.fo24_1 (aI @Ty.fo24_2 (aI @Ty.fo24_3 (aI @Ty.fo24_4 (aI @Ty.ft24_0 (aI @Ty.ft24_1 (aI @Ty.ft24_2 (aI @Ty.ft24_3 (aI @Ty.ft24_4 (aI @Ty.if24 (aI @Ty.pl24 (aI @Ty.sz24 (aI @Ty.un24 (aI @Ty.unn24 (@Ty.zr24))))))))))))))))))
theorem t70 : type_of% tkd70 := tkd70
def tkd71 := (aI @Ty.ag1 (aI @Ty.by1 (aI @Ty.if1 (aI @Ty.sz1 (aI @Ty.un1 (aI @Ty.unn1 (aI @Ty.zr1 (aI @Ty.ag2 (aI @Ty.by2 (aI @Ty.if2 (aI @Ty.in2 (aI @Ty.sz2 (aI @Ty.un2 (aI @Ty.unn2 (aI @Ty.zr2 (aI @Ty.ag3 (aI @Ty.by3 (aI @Ty.if3 (aI @Ty.in3 (aI @Ty.sz3 (aI @Ty.un3 (aI @Ty.unn3 (aI @Ty.zr3 (aI @Ty.ag4 (aI @Ty.bo4 (aI @Ty.by4 (aI @Ty.if4 (aI @Ty.sz4 (aI @Ty.un4 (aI @Ty.unn4 (aI @Ty.zr4 (aI @Ty.ag22 (aI @Ty.by22 (aI @Ty.el22 (aI @Ty.if22 (aI @Ty.ni22 (aI @Ty.sz22 (aI @Ty.un22 (aI @Ty.unn22 (aI @Ty.zr22 (aI @Ty.ag24 (aI @Ty.by24 (aI @Ty.fo24_0 (aI @Ty.fo24_1 (aI @Ty.fo24_2 (aI @Ty.fo24_3 (aI @Ty.fo24_4 (aI @Ty.ft24_0 (aI @Ty.ft24_1 (aI @Ty.ft24_2 (aI @Ty.ft24_3 (aI @Ty.ft24_4 (aI @Ty.if24 (aI @Ty.pl24 (aI @Ty.sz24 (aI @Ty.un24 (aI @Ty.unn24 (aI @Ty.zr24 (aI @Ty.ag105 (aI @Ty.by105 (aI @Ty.if105 (aI @Ty.in105 (aI @Ty.sz105 (aI @Ty.un105 (aI @Ty.unn105 (aI @Ty.zr105 (aI @Ty.ag113 (aI @Ty.by113 (aI @Ty.ef113 (aI @Ty.fo113_0 (aI @Ty.fo113_1 (aI @Ty.fo113_2 (aI @Ty.fo113_3 (aI @Ty.ft113_0 (aI @Ty.ft113_1 (aI @Ty.ft113_2 (aI @Ty.ft113_3 (aI @Ty.if113 (aI @Ty.pl113 (aI @Ty.sz113 (aI @Ty.un113 (aI @Ty.unn113 (aI @Ty.zr113 (aI @Ty.ag122 (aI @Ty.by122 (aI @Ty.el122 (aI @Ty.if122 (aI @Ty.ni122 (aI @Ty.sz122 (aI @Ty.un122 (aI @Ty.unn122 (aI @Ty.zr122 (aI @Ty.ag123 (aI @Ty.by123 (aI @Ty.el123 (aI @Ty.if123 (aI @Ty.ni123 (aI @Ty.sz123 (aI @Ty.un123 (aI @Ty.unn123 (aI @Ty.zr123 (aI @Ty.ag125 (aI @Ty.by125 (aI @Ty.fo125_0 (aI @Ty.fo125_1 (aI @Ty.fo125_2 (aI @Ty.ft125_0 (aI @Ty.ft125_1 (aI @Ty.ft125_2 (aI @Ty.if125 (aI @Ty.pl125 (aI @Ty.sz125 (aI @Ty.un125 (aI @Ty.unn125 (@Ty.zr125)))))))))))))))))))))))))))))))))))))))))))))))))))))))))))))))))))))))))))))))))))))))))))))))))))))))))))))))))))
theorem t71 : type_of% tkd71 := tkd71
def tkd72 := (aI @Ty.ag1 (aI @Ty.by1 (aI @Ty.if1 (aI @Ty.sz1 (aI @Ty.un1 (aI @Ty.unn1 (aI @Ty.zr1 (aI @Ty.ag3 (aI @Ty.by3 (aI @Ty.if3 (aI @Ty.in3 (aI @Ty.sz3 (aI @Ty.un3 (aI @Ty.unn3 (aI @Ty.zr3 (aI @Ty.ag24 (aI @Ty.by24 (aI @Ty.fo24_0 (aI @Ty.fo24_1 (aI @Ty.fo24_2 (aI @Ty.fo24_3 (aI @Ty.fo24_4 (aI @Ty.ft24_0 (aI @Ty.ft24_1 (aI @Ty.ft24_2 (aI @Ty.ft24_3 (aI @Ty.ft24_4 (aI @Ty.if24 (aI @Ty.pl24 (aI @Ty.sz24 (aI @Ty.un24 (aI @Ty.unn24 (aI @Ty.zr24 (aI @Ty.ag99 (aI @Ty.by99 (aI @Ty.if99 (aI @Ty.po99 (aI @Ty.sz99 (aI @Ty.un99 (aI @Ty.unn99 (aI @Ty.zr99 (aI @Ty.ag105 (aI @Ty.by105 (aI @Ty.if105 (aI @Ty.in105 (aI @Ty.sz105 (aI @Ty.un105 (aI @Ty.unn105 (aI @Ty.zr105 (aI @Ty.ag125 (aI @Ty.by125 (aI @Ty.fo125_0 (aI @Ty.fo125_1 (aI @Ty.fo125_2 (aI @Ty.ft125_0 (aI @Ty.ft125_1 (aI @Ty.ft125_2 (aI @Ty.if125 (aI @Ty.pl125 (aI @Ty.sz125 (aI @Ty.un125 (aI @Ty.unn125 (@Ty.zr125)))))))))))))))))))))))))))))))))))))))))))))))))))))))))))))))
theorem t72 : type_of% tkd72 := tkd72
def tkd73 := (aI @Ty.ag2 (aI @Ty.by2 (aI @Ty.if2 (aI @Ty.in2 (aI @Ty.sz2 (aI @Ty.un2 (aI @Ty.unn2 (aI @Ty.zr2 (aI @Ty.ag3 (aI @Ty.by3 (aI @Ty.if3 (aI @Ty.in3 (aI @Ty.sz3 (aI @Ty.un3 (aI @Ty.unn3 (aI @Ty.zr3 (aI @Ty.ag24 (aI @Ty.by24 (aI @Ty.fo24_0 (aI @Ty.fo24_1 (aI @Ty.fo24_2 (aI @Ty.fo24_3 (aI @Ty.fo24_4 (aI @Ty.ft24_0 (aI @Ty.ft24_1 (aI @Ty.ft24_2 (aI @Ty.ft24_3 (aI @Ty.ft24_4 (aI @Ty.if24 (aI @Ty.pl24 (aI @Ty.sz24 (aI @Ty.un24 (aI @Ty.unn24 (aI @Ty.zr24 (aI @Ty.ag125 (aI @Ty.by125 (aI @Ty.fo125_0 (aI @Ty.fo125_1 (aI @Ty.fo125_2 (aI @Ty.ft125_0 (aI @Ty.ft125_1 (aI @Ty.ft125_2 (aI @Ty.if125 (aI @Ty.pl125 (aI @Ty.sz125 (aI @Ty.un125 (aI @Ty.unn125 (@Ty.zr125))))))))))))))))))))))))))))))))))))))))))))))))
theorem t73 : type_of% tkd73 := tkd73
def tkd74 := (aI @Ty.ag1 (aI @Ty.by1 (aI @Ty.if1 (aI @Ty.sz1 (aI @Ty.un1 (aI @Ty.unn1 (aI @Ty.zr1 (aI @Ty.ag3 (aI @Ty.by3 (aI @Ty.if3 (aI @Ty.in3 (aI @Ty.sz3 (aI @Ty.un3 (aI @Ty.unn3 (aI @Ty.zr3 (aI @Ty.ag27 (aI @Ty.by27 (aI @Ty.el27 (aI @Ty.if27 (aI @Ty.ni27 (aI @Ty.sz27 (aI @Ty.un27 (aI @Ty.unn27 (aI @Ty.zr27 (aI @Ty.ag99 (aI @Ty.by99 (aI @Ty.if99 (aI @Ty.po99 (aI @Ty.sz99 (aI @Ty.un99 (aI @Ty.unn99 (aI @Ty.zr99 (aI @Ty.ag105 (aI @Ty.by105 (aI @Ty.if105 (aI @Ty.in105 (aI @Ty.sz105 (aI @Ty.un105 (aI @Ty.unn105 (aI @Ty.zr105 (aI @Ty.ag122 (aI @Ty.by122 (aI @Ty.el122 (aI @Ty.if122 (aI @Ty.ni122 (aI @Ty.sz122 (aI @Ty.un122 (aI @Ty.unn122 (aI @Ty.zr122 (aI @Ty.ag123 (aI @Ty.by123 (aI @Ty.el123 (aI @Ty.if123 (aI @Ty.ni123 (aI @Ty.sz123 (aI @Ty.un123 (aI @Ty.unn123 (aI @Ty.zr123 (aI @Ty.ag125 (aI @Ty.by125 (aI @Ty.fo125_0 (aI @Ty.fo125_1 (aI @Ty.fo125_2 (aI @Ty.ft125_0 (aI @Ty.ft125_1 (aI @Ty.ft125_2 (aI @Ty.if125 (aI @Ty.pl125 (aI @Ty.sz125 (aI @Ty.un125 (aI @Ty.unn125 (@Ty.zr125))))))))))))))))))))))))))))))))))))))))))))))))))))))))))))))))))))))))
theorem t74 : type_of% tkd74 := tkd74
def tkd75 := (aI @Ty.ag2 (aI @Ty.by2 (aI @Ty.if2 (aI @Ty.in2 (aI @Ty.sz2 (aI @Ty.un2 (aI @Ty.unn2 (aI @Ty.zr2 (aI @Ty.ag3 (aI @Ty.by3 (aI @Ty.if3 (aI @Ty.in3 (aI @Ty.sz3 (aI @Ty.un3 (aI @Ty.unn3 (aI @Ty.zr3 (aI @Ty.ag27 (aI @Ty.by27 (aI @Ty.el27 (aI @Ty.if27 (aI @Ty.ni27 (aI @Ty.sz27 (aI @Ty.un27 (aI @Ty.unn27 (aI @Ty.zr27 (aI @Ty.ag105 (aI @Ty.by105 (aI @Ty.if105 (aI @Ty.in105 (aI @Ty.sz105 (aI @Ty.un105 (aI @Ty.unn105 (aI @Ty.zr105 (aI @Ty.ag123 (aI @Ty.by123 (aI @Ty.el123 (aI @Ty.if123 (aI @Ty.ni123 (aI @Ty.sz123 (aI @Ty.un123 (aI @Ty.unn123 (aI @Ty.zr123 (aI @Ty.ag125 (aI @Ty.by125 (aI @Ty.fo125_0 (aI @Ty.fo125_1 (aI @Ty.fo125_2 (aI @Ty.ft125_0 (aI @Ty.ft125_1 (aI @Ty.ft125_2 (aI @Ty.if125 (aI @Ty.pl125 (aI @Ty.sz125 (aI @Ty.un125 (aI @Ty.unn125 (@Ty.zr125))))))))))))))))))))))))))))))))))))))))))))))))))))))))
theorem t75 : type_of% tkd75 := tkd75
def tkd76 := (aI @Ty.ag3 (aI @Ty.by3 (aI @Ty.if3 (aI @Ty.in3 (aI @Ty.sz3 (aI @Ty.un3 (aI @Ty.unn3 (aI @Ty.zr3 (aI @Ty.ag27 (aI @Ty.by27 (aI @Ty.el27 (aI @Ty.if27 (aI @Ty.ni27 (aI @Ty.sz27 (aI @Ty.un27 (aI @Ty.unn27 (@Ty.zr27)))))))))))))))))
theorem t76 : type_of% tkd76 := tkd76
def tkd77 := (aI @Ty.ag3 (aI @Ty.by3 (aI @Ty.if3 (aI @Ty.in3 (aI @Ty.sz3 (aI @Ty.un3 (aI @Ty.unn3 (aI @Ty.zr3 (aI @Ty.ag4 (aI @Ty.bo4 (aI @Ty.by4 (aI @Ty.if4 (aI @Ty.sz4 (aI @Ty.un4 (aI @Ty.unn4 (aI @Ty.zr4 (aI @Ty.ag24 (aI @Ty.by24 (aI @Ty.fo24_0 (aI @Ty.fo24_1 (aI @Ty.fo24_2 (aI @Ty.fo24_3 (aI @Ty.fo24_4 (aI @Ty.ft24_0 (aI @Ty.ft24_1 (aI @Ty.ft24_2 (aI @Ty.ft24_3 (aI @Ty.ft24_4 (aI @Ty.if24 (aI @Ty.pl24 (aI @Ty.sz24 (aI @Ty.un24 (aI @Ty.unn24 (aI @Ty.zr24 (aI @Ty.ag27 (aI @Ty.by27 (aI @Ty.el27 (aI @Ty.if27 (aI @Ty.ni27 (aI @Ty.sz27 (aI @Ty.un27 (aI @Ty.unn27 (aI @Ty.zr27 (aI @Ty.ag28 (aI @Ty.by28 (aI @Ty.if28 (aI @Ty.in28 (aI @Ty.sz28 (aI @Ty.un28 (aI @Ty.unn28 (aI @Ty.zr28 (aI @Ty.ag156 (aI @Ty.by156 (aI @Ty.if156 (aI @Ty.sz156 (aI @Ty.un156 (aI @Ty.unn156 (@Ty.zr156))))))))))))))))))))))))))))))))))))))))))))))))))))))))))
theorem t77 : type_of% tkd77 := tkd77
def tkd78 := (aI @Ty.ag3 (aI @Ty.by3 (aI @Ty.if3 (aI @Ty.in3 (aI @Ty.sz3 (aI @Ty.un3 (aI @Ty.unn3 (aI @Ty.zr3 (aI @Ty.ag27 (aI @Ty.by27 (aI @Ty.el27 (aI @Ty.if27 (aI @Ty.ni27 (aI @Ty.sz27 (aI @Ty.un27 (aI @Ty.unn27 (aI @Ty.zr27 (aI @Ty.ag99 (aI @Ty.by99 (aI @Ty.if99 (aI @Ty.po99 (aI @Ty.sz99 (aI @Ty.un99 (aI @Ty.unn99 (aI @Ty.zr99 (aI @Ty.ag105 (aI @Ty.by105 (aI @Ty.if105 (aI @Ty.in105 (aI @Ty.sz105 (aI @Ty.un105 (aI @Ty.unn105 (@Ty.zr105)))))))))))))))))))))))))))))))))
theorem t78 : type_of% tkd78 := tkd78
def tkd79 := (aI @Ty.ag3 (aI @Ty.by3 (aI @Ty.if3 (aI @Ty.in3 (aI @Ty.sz3 (aI @Ty.un3 (aI @Ty.unn3 (aI @Ty.zr3 (aI @Ty.ag4 (aI @Ty.bo4 (aI @Ty.by4 (aI @Ty.if4 (aI @Ty.sz4 (aI @Ty.un4 (aI @Ty.unn4 (aI @Ty.zr4 (aI @Ty.ag24 (aI @Ty.by24 (aI @Ty.fo24_0 (aI @Ty.fo24_1 (aI @Ty.fo24_2 (aI @Ty.fo24_3 (aI @Ty.fo24_4 (aI @Ty.ft24_0 (aI @Ty.ft24_1 (aI @Ty.ft24_2 (aI @Ty.ft24_3 (aI @Ty.ft24_4 (aI @Ty.if24 (aI @Ty.pl24 (aI @Ty.sz24 (aI @Ty.un24 (aI @Ty.unn24 (aI @Ty.zr24 (aI @Ty.ag27 (aI @Ty.by27 (aI @Ty.el27 (aI @Ty.if27 (aI @Ty.ni27 (aI @Ty.sz27 (aI @Ty.un27 (aI @Ty.unn27 (aI @Ty.zr27 (aI @Ty.ag105 (aI @Ty.by105 (aI @Ty.if105 (aI @Ty.in105 (aI @Ty.sz105 (aI @Ty.un105 (aI @Ty.unn105 (@Ty.zr105)))))))))))))))))))))))))))))))))))))))))))))))))))
theorem t79 : type_of% tkd79 := tkd79
def tkd80 := (aI @Ty.ag2 (aI @Ty.by2 (aI @Ty.if2 (aI @Ty.in2 (aI @Ty.sz2 (aI @Ty.un2 (aI @Ty.unn2 (aI @Ty.zr2 (aI @Ty.ag3 (aI @Ty.by3 (aI @Ty.if3 (aI @Ty.in3 (aI @Ty.sz3 (aI @Ty.un3 (aI @Ty.unn3 (aI @Ty.zr3 (aI @Ty.ag24 (aI @Ty.by24 (aI @Ty.fo24_0 (aI @Ty.fo24_1 (aI @Ty.fo24_2 (aI @Ty.fo24_3 (aI @Ty.fo24_4 (aI @Ty.ft24_0 (aI @Ty.ft24_1 (aI @Ty.ft24_2 (aI @Ty.ft24_3 (aI @Ty.ft24_4 (aI @Ty.if24 (aI @Ty.pl24 (aI @Ty.sz24 (aI @Ty.un24 (aI @Ty.unn24 (aI @Ty.zr24 (aI @Ty.ag99 (aI @Ty.by99 (aI @Ty.if99 (aI @Ty.po99 (aI @Ty.sz99 (aI @Ty.un99 (aI @Ty.unn99 (aI @Ty.zr99 (aI @Ty.ag105 (aI @Ty.by105 (aI @Ty.if105 (aI @Ty.in105 (aI @Ty.sz105 (aI @Ty.un105 (aI @Ty.unn105 (aI @Ty.zr105 (aI @Ty.ag125 (aI @Ty.by125 (aI @Ty.fo125_0 (aI @Ty.fo125_1 (aI @Ty.fo125_2 (aI @Ty.ft125_0 (aI @Ty.ft125_1 (aI @Ty.ft125_2 (aI @Ty.if125 (aI @Ty.pl125 (aI @Ty.sz125 (aI @Ty.un125 (aI @Ty.unn125 (@Ty.zr125))))))))))))))))))))))))))))))))))))))))))))))))))))))))))))))))
theorem t80 : type_of% tkd80 := tkd80
def tkd81 := (aI @Ty.ag1 (aI @Ty.by1 (aI @Ty.if1 (aI @Ty.sz1 (aI @Ty.un1 (aI @Ty.unn1 (aI @Ty.zr1 (aI @Ty.ag3 (aI @Ty.by3 (aI @Ty.if3 (aI @Ty.in3 (aI @Ty.sz3 (aI @Ty.un3 (aI @Ty.unn3 (aI @Ty.zr3 (aI @Ty.ag4 (aI @Ty.bo4 (aI @Ty.by4 (aI @Ty.if4 (aI @Ty.sz4 (aI @Ty.un4 (aI @Ty.unn4 (aI @Ty.zr4 (aI @Ty.ag27 (aI @Ty.by27 (aI @Ty.el27 (aI @Ty.if27 (aI @Ty.ni27 (aI @Ty.sz27 (aI @Ty.un27 (aI @Ty.unn27 (aI @Ty.zr27 (aI @Ty.ag133 (aI @Ty.by133 (aI @Ty.el133 (aI @Ty.if133 (aI @Ty.ni133 (aI @Ty.sz133 (aI @Ty.un133 (aI @Ty.unn133 (@Ty.zr133)))))))))))))))))))))))))))))))))))))))))
theorem t81 : type_of% tkd81 := tkd81
def tkd82 := (aI @Ty.ag3 (aI @Ty.by3 (aI @Ty.if3 (aI @Ty.in3 (aI @Ty.sz3 (aI @Ty.un3 (aI @Ty.unn3 (aI @Ty.zr3 (aI @Ty.ag28 (aI @Ty.by28 (aI @Ty.if28 (aI @Ty.in28 (aI @Ty.sz28 (aI @Ty.un28 (aI @Ty.unn28 (aI @Ty.zr28 (aI @Ty.ag165 (aI @Ty.by165 (aI @Ty.el165 (aI @Ty.if165 (aI @Ty.ni165 (aI @Ty.sz165 (aI @Ty.un165 (aI @Ty.unn165 (@Ty.zr165)))))))))))))))))))))))))
theorem t82 : type_of% tkd82 := tkd82
def tkd87 := (aI @Ty.ag1 (aI @Ty.by1 (aI @Ty.if1 (aI @Ty.sz1 (aI @Ty.un1 (aI @Ty.unn1 (aI @Ty.zr1 (aI @Ty.ag2 (aI @Ty.by2 (aI @Ty.if2 (aI @Ty.in2 (aI @Ty.sz2 (aI @Ty.un2 (aI @Ty.unn2 (aI @Ty.zr2 (aI @Ty.ag3 (aI @Ty.by3 (aI @Ty.if3 (aI @Ty.in3 (aI @Ty.sz3 (aI @Ty.un3 (aI @Ty.unn3 (aI @Ty.zr3 (aI @Ty.ag4 (aI @Ty.bo4 (aI @Ty.by4 (aI @Ty.if4 (aI @Ty.sz4 (aI @Ty.un4 (aI @Ty.unn4 (aI @Ty.zr4 (aI @Ty.ag24 (aI @Ty.by24 (aI @Ty.fo24_0 (aI @Ty.fo24_1 (aI @Ty.fo24_2 (aI @Ty.fo24_3 (aI @Ty.fo24_4 (aI @Ty.ft24_0 (aI @Ty.ft24_1 (aI @Ty.ft24_2 (aI @Ty.ft24_3 (aI @Ty.ft24_4 (aI @Ty.if24 (aI @Ty.pl24 (aI @Ty.sz24 (aI @Ty.un24 (aI @Ty.unn24 (aI @Ty.zr24 (aI @Ty.ag99 (aI @Ty.by99 (aI @Ty.if99 (aI @Ty.po99 (aI @Ty.sz99 (aI @Ty.un99 (aI @Ty.unn99 (aI @Ty.zr99 (aI @Ty.ag103 (aI @Ty.by103 (aI @Ty.fo103_0 (aI @Ty.fo103_1 (aI @Ty.fo103_2 (aI @Ty.fo103_3 (aI @Ty.fo103_4 (aI @Ty.fo103_5 (aI @Ty.ft103_0 (aI @Ty.ft103_1 (aI @Ty.ft103_2 (aI @Ty.ft103_3 (aI @Ty.ft103_4 (aI @Ty.ft103_5 (aI @Ty.if103 (aI @Ty.pl103 (aI @Ty.sz103 (aI @Ty.un103 (aI @Ty.unn103 (aI @Ty.zr103 (aI @Ty.ag105 (aI @Ty.by105 (aI @Ty.if105 (aI @Ty.in105 (aI @Ty.sz105 (aI @Ty.un105 (aI @Ty.unn105 (aI @Ty.zr105 (aI @Ty.ag107 (aI @Ty.by107 (aI @Ty.ef107 (aI @Ty.fo107_0 (aI @Ty.fo107_1 (aI @Ty.ft107_0 (aI @Ty.ft107_1 (aI @Ty.if107 (aI @Ty.pl107 (aI @Ty.sz107 (aI @Ty.un107 (aI @Ty.unn107 (aI @Ty.zr107 (aI @Ty.ag125 (aI @Ty.by125 (aI @Ty.fo125_0 (aI @Ty.fo125_1 (aI @Ty.fo125_2 (aI @Ty.ft125_0 (aI @Ty.ft125_1 (aI @Ty.ft125_2 (aI @Ty.if125 (aI @Ty.pl125 (aI @Ty.sz125 (aI @Ty.un125 (aI @Ty.unn125 (@Ty.zr125))))))))))))))))))))))))))))))))))))))))))))))))))))))))))))))))))))))))))))))))))))))))))))))))))))))))))))))))
theorem t87 : type_of% tkd87 := tkd87
def tkd88 := (aI @Ty.ag1 (aI @Ty.by1 (aI @Ty.if1 (aI @Ty.sz1 (aI @Ty.un1 (aI @Ty.unn1 (aI @Ty.zr1 (aI @Ty.ag3 (aI @Ty.by3 (aI @Ty.if3 (aI @Ty.in3 (aI @Ty.sz3 (aI @Ty.un3 (aI @Ty.unn3 (aI @Ty.zr3 (aI @Ty.ag27 (aI @Ty.by27 (aI @Ty.el27 (aI @Ty.if27 (aI @Ty.ni27 (aI @Ty.sz27 (aI @Ty.un27 (aI @Ty.unn27 (aI @Ty.zr27 (aI @Ty.ag32 (aI @Ty.by32 (aI @Ty.el32 (aI @Ty.if32 (aI @Ty.ni32 (aI @Ty.sz32 (aI @Ty.un32 (aI @Ty.unn32 (aI @Ty.zr32 (aI @Ty.ag41 (aI @Ty.by41 (aI @Ty.fo41_0 (aI @Ty.fo41_1 (aI @Ty.ft41_0 (aI @Ty.ft41_1 (aI @Ty.if41 (aI @Ty.pl41 (aI @Ty.sz41 (aI @Ty.un41 (aI @Ty.unn41 (@Ty.zr41)))))))))))))))))))))))))))))))))))))))))))))
theorem t88 : type_of% tkd88 := tkd88
def tkd101 := (aI @Ty.ag1 (aI @Ty.by1 (aI @Ty.if1 (aI @Ty.sz1 (aI @Ty.un1 (aI @Ty.unn1 (aI @Ty.zr1 (aI @Ty.ag2 (aI @Ty.by2 (aI @Ty.if2 (aI @Ty.in2 (aI @Ty.sz2 (aI @Ty.un2 (aI @Ty.unn2 (aI @Ty.zr2 (aI @Ty.ag3 (aI @Ty.by3 (aI @Ty.if3 (aI @Ty.in3 (aI @Ty.sz3 (aI @Ty.un3 (aI @Ty.unn3 (aI @Ty.zr3 (aI @Ty.ag4 (aI @Ty.bo4 (aI @Ty.by4 (aI @Ty.if4 (aI @Ty.sz4 (aI @Ty.un4 (aI @Ty.unn4 (aI @Ty.zr4 (aI @Ty.ag5 (aI @Ty.by5 (aI @Ty.if5 (aI @Ty.in5 (aI @Ty.sz5 (aI @Ty.un5 (aI @Ty.unn5 (aI @Ty.zr5 (aI @Ty.ag27 (aI @Ty.by27 (aI @Ty.el27 (aI @Ty.if27 (aI @Ty.ni27 (aI @Ty.sz27 (aI @Ty.un27 (aI @Ty.unn27 (aI @Ty.zr27 (aI @Ty.ag100 (aI @Ty.by100 (aI @Ty.el100 (aI @Ty.if100 (aI @Ty.ni100 (aI @Ty.sz100 (aI @Ty.un100 (aI @Ty.unn100 (aI @Ty.zr100 (aI @Ty.ag101 (aI @Ty.by101 (aI @Ty.if101 (aI @Ty.sz101 (aI @Ty.un101 (aI @Ty.unn101 (aI @Ty.zr101 (aI @Ty.ag103 (aI @Ty.by103 (aI @Ty.fo103_0 (aI @Ty.fo103_1 (aI @Ty.fo103_2 (aI @Ty.fo103_3 (aI @Ty.fo103_4 (aI @Ty.fo103_5 (aI @Ty.ft103_0 (aI @Ty.ft103_1 (aI @Ty.ft103_2 (aI @Ty.ft103_3 (aI @Ty.ft103_4 (aI @Ty.ft103_5 (aI @Ty.if103 (aI @Ty.pl103 (aI @Ty.sz103 (aI @Ty.un103 (aI @Ty.unn103 (aI @Ty.zr103 (aI @Ty.ag107 (aI @Ty.by107 (aI @Ty.ef107 (aI @Ty.fo107_0 (aI @Ty.fo107_1 (aI @Ty.ft107_0 (aI @Ty.ft107_1 (aI @Ty.if107 (aI @Ty.pl107 (aI @Ty.sz107 (aI @Ty.un107 (aI @Ty.unn107 (@Ty.zr107)))))))))))))))))))))))))))))))))))))))))))))))))))))))))))))))))))))))))))))))))))))))))))))))))
theorem t101 : type_of% tkd101 := tkd101
def tkd102 := (aI @Ty.ag3 (aI @Ty.by3 (aI @Ty.if3 (aI @Ty.in3 (aI @Ty.sz3 (aI @Ty.un3 (aI @Ty.unn3 (aI @Ty.zr3 (aI @Ty.ag27 (aI @Ty.by27 (aI @Ty.el27 (aI @Ty.if27 (aI @Ty.ni27 (aI @Ty.sz27 (aI @Ty.un27 (aI @Ty.unn27 (@Ty.zr27)))))))))))))))))
theorem t102 : type_of% tkd102 := tkd102
def tkd103 := (aI @Ty.ag104 (aI @Ty.by104 (aI @Ty.if104 (aI @Ty.in104 (aI @Ty.sz104 (aI @Ty.un104 (aI @Ty.unn104 (aI @Ty.zr104 (aI @Ty.ag174 (aI @Ty.by174 (aI @Ty.if174 (aI @Ty.in174 (aI @Ty.sz174 (aI @Ty.un174 (aI @Ty.unn174 (aI @Ty.zr174 (aI @Ty.ag176 (aI @Ty.by176 (aI @Ty.if176 (aI @Ty.in176 (aI @Ty.sz176 (aI @Ty.un176 (aI @Ty.unn176 (@Ty.zr176))))))))))))))))))))))))
theorem t103 : type_of% tkd103 := tkd103
def tkd104 := (aI @Ty.ag1 (aI @Ty.by1 (aI @Ty.if1 (aI @Ty.sz1 (aI @Ty.un1 (aI @Ty.unn1 (aI @Ty.zr1 (aI @Ty.ag3 (aI @Ty.by3 (aI @Ty.if3 (aI @Ty.in3 (aI @Ty.sz3 (aI @Ty.un3 (aI @Ty.unn3 (aI @Ty.zr3 (aI @Ty.ag4 (aI @Ty.bo4 (aI @Ty.by4 (aI @Ty.if4 (aI @Ty.sz4 (aI @Ty.un4 (aI @Ty.unn4 (aI @Ty.zr4 (aI @Ty.ag22 (aI @Ty.by22 (aI @Ty.el22 (aI @Ty.if22 (aI @Ty.ni22 (aI @Ty.sz22 (aI @Ty.un22 (aI @Ty.unn22 (aI @Ty.zr22 (aI @Ty.ag24 (aI @Ty.by24 (aI @Ty.fo24_0 (aI @Ty.fo24_1 (aI @Ty.fo24_2 (aI @Ty.fo24_3 (aI @Ty.fo24_4 (aI @Ty.ft24_0 (aI @Ty.ft24_1 (aI @Ty.ft24_2 (aI @Ty.ft24_3 (aI @Ty.ft24_4 (aI @Ty.if24 (aI @Ty.pl24 (aI @Ty.sz24 (aI @Ty.un24 (aI @Ty.unn24 (aI @Ty.zr24 (aI @Ty.ag113 (aI @Ty.by113 (aI @Ty.ef113 (aI @Ty.fo113_0 (aI @Ty.fo113_1 (aI @Ty.fo113_2 (aI @Ty.fo113_3 (aI @Ty.ft113_0 (aI @Ty.ft113_1 (aI @Ty.ft113_2 (aI @Ty.ft113_3 (aI @Ty.if113 (aI @Ty.pl113 (aI @Ty.sz113 (aI @Ty.un113 (aI @Ty.unn113 (@Ty.zr113)))))))))))))))))))))))))))))))))))))))))))))))))))))))))))))))))))
theorem t104 : type_of% tkd104 := tkd104
def tkd105 := (aI @Ty.ag3 (aI @Ty.by3 (aI @Ty.if3 (aI @Ty.in3 (aI @Ty.sz3 (aI @Ty.un3 (aI @Ty.unn3 (aI @Ty.zr3 (aI @Ty.ag27 (aI @Ty.by27 (aI @Ty.el27 (aI @Ty.if27 (aI @Ty.ni27 (aI @Ty.sz27 (aI @Ty.un27 (aI @Ty.unn27 (@Ty.zr27)))))))))))))))))
theorem t105 : type_of% tkd105 := tkd105
def tkd106 := (aI @Ty.ag3 (aI @Ty.by3 (aI @Ty.if3 (aI @Ty.in3 (aI @Ty.sz3 (aI @Ty.un3 (aI @Ty.unn3 (@Ty.zr3))))))))
theorem t106 : type_of% tkd106 := tkd106
def tkd107 := @Nat.zero_add
theorem t107 : type_of% tkd107 := tkd107
def tkd108 := (aI @Ty.ag1 (aI @Ty.by1 (aI @Ty.if1 (aI @Ty.sz1 (aI @Ty.un1 (aI @Ty.unn1 (aI @Ty.zr1 (aI @Ty.ag2 (aI @Ty.by2 (aI @Ty.if2 (aI @Ty.in2 (aI @Ty.sz2 (aI @Ty.un2 (aI @Ty.unn2 (aI @Ty.zr2 (aI @Ty.ag3 (aI @Ty.by3 (aI @Ty.if3 (aI @Ty.in3 (aI @Ty.sz3 (aI @Ty.un3 (aI @Ty.unn3 (aI @Ty.zr3 (aI @Ty.ag24 (aI @Ty.by24 (aI @Ty.fo24_0 (aI @Ty.fo24_1 (aI @Ty.fo24_2 (aI @Ty.fo24_3 (aI @Ty.fo24_4 (aI @Ty.ft24_0 (aI @Ty.ft24_1 (aI @Ty.ft24_2 (aI @Ty.ft24_3 (aI @Ty.ft24_4 (aI @Ty.if24 (aI @Ty.pl24 (aI @Ty.sz24 (aI @Ty.un24 (aI @Ty.unn24 (aI @Ty.zr24 (aI @Ty.ag105 (aI @Ty.by105 (aI @Ty.if105 (aI @Ty.in105 (aI @Ty.sz105 (aI @Ty.un105 (aI @Ty.unn105 (aI @Ty.zr105 (aI @Ty.ag122 (aI @Ty.by122 (aI @Ty.el122 (aI @Ty.if122 (aI @Ty.ni122 (aI @Ty.sz122 (aI @Ty.un122 (aI @Ty.unn122 (aI @Ty.zr122 (aI @Ty.ag123 (aI @Ty.by123 (aI @Ty.el123 (aI @Ty.if123 (aI @Ty.ni123 (aI @Ty.sz123 (aI @Ty.un123 (aI @Ty.unn123 (aI @Ty.zr123 (aI @Ty.ag125 (aI @Ty.by125 (aI @Ty.fo125_0 (aI @Ty.fo125_1 (aI @Ty.fo125_2 (aI @Ty.ft125_0 (aI @Ty.ft125_1 (aI @Ty.ft125_2 (aI @Ty.if125 (aI @Ty.pl125 (aI @Ty.sz125 (aI @Ty.un125 (aI @Ty.unn125 (@Ty.zr125)))))))))))))))))))))))))))))))))))))))))))))))))))))))))))))))))))))))))))))))))
theorem t108 : type_of% tkd108 := tkd108
def tkd109 := (aI @Ty.ag2 (aI @Ty.by2 (aI @Ty.if2 (aI @Ty.in2 (aI @Ty.sz2 (aI @Ty.un2 (aI @Ty.unn2 (aI @Ty.zr2 (aI @Ty.ag3 (aI @Ty.by3 (aI @Ty.if3 (aI @Ty.in3 (aI @Ty.sz3 (aI @Ty.un3 (aI @Ty.unn3 (aI @Ty.zr3 (aI @Ty.ag4 (aI @Ty.bo4 (aI @Ty.by4 (aI @Ty.if4 (aI @Ty.sz4 (aI @Ty.un4 (aI @Ty.unn4 (aI @Ty.zr4 (aI @Ty.ag24 (aI @Ty.by24 (aI @Ty.fo24_0 (aI @Ty.fo24_1 (aI @Ty.fo24_2 (aI @Ty.fo24_3 (aI @Ty.fo24_4 (aI @Ty.ft24_0 (aI @Ty.ft24_1 (aI @Ty.ft24_2 (aI @Ty.ft24_3 (aI @Ty.ft24_4 (aI @Ty.if24 (aI @Ty.pl24 (aI @Ty.sz24 (aI @Ty.un24 (aI @Ty.unn24 (@Ty.zr24))))))))))))))))))))))))))))))))))))))))))
theorem t109 : type_of% tkd109 := tkd109
def tkd110 := (aI @Ty.ag3 (aI @Ty.by3 (aI @Ty.if3 (aI @Ty.in3 (aI @Ty.sz3 (aI @Ty.un3 (aI @Ty.unn3 (aI @Ty.zr3 (aI @Ty.ag27 (aI @Ty.by27 (aI @Ty.el27 (aI @Ty.if27 (aI @Ty.ni27 (aI @Ty.sz27 (aI @Ty.un27 (aI @Ty.unn27 (aI @Ty.zr27 (aI @Ty.ag156 (aI @Ty.by156 (aI @Ty.if156 (aI @Ty.sz156 (aI @Ty.un156 (aI @Ty.unn156 (@Ty.zr156))))))))))))))))))))))))
theorem t110 : type_of% tkd110 := tkd110
def tkd121 := (aI @Ty.ag3 (aI @Ty.by3 (aI @Ty.if3 (aI @Ty.in3 (aI @Ty.sz3 (aI @Ty.un3 (aI @Ty.unn3 (aI @Ty.zr3 (aI @Ty.ag5 (aI @Ty.by5 (aI @Ty.if5 (aI @Ty.in5 (aI @Ty.sz5 (aI @Ty.un5 (aI @Ty.unn5 (aI @Ty.zr5 (aI @Ty.ag104 (aI @Ty.by104 (aI @Ty.if104 (aI @Ty.in104 (aI @Ty.sz104 (aI @Ty.un104 (aI @Ty.unn104 (aI @Ty.zr104 (aI @Ty.ag176 (aI @Ty.by176 (aI @Ty.if176 (aI @Ty.in176 (aI @Ty.sz176 (aI @Ty.un176 (aI @Ty.unn176 (aI @Ty.zr176 (aI @Ty.ag180 (aI @Ty.by180 (aI @Ty.if180 (aI @Ty.sz180 (aI @Ty.un180 (@Ty.unn180))))))))))))))))))))))))))))))))))))))
theorem t121 : type_of% tkd121 := tkd121
def tkd122 := (aI @Ty.ag3 (aI @Ty.by3 (aI @Ty.if3 (aI @Ty.in3 (aI @Ty.sz3 (aI @Ty.un3 (aI @Ty.unn3 (@Ty.zr3))))))))
theorem t122 : type_of% tkd122 := tkd122
def tkd123 := (aI @Ty.ag3 (aI @Ty.by3 (aI @Ty.if3 (aI @Ty.in3 (aI @Ty.sz3 (aI @Ty.un3 (aI @Ty.unn3 (aI @Ty.zr3 (aI @Ty.ag27 (aI @Ty.by27 (aI @Ty.el27 (aI @Ty.if27 (aI @Ty.ni27 (aI @Ty.sz27 (aI @Ty.un27 (aI @Ty.unn27 (@Ty.zr27)))))))))))))))))
theorem t123 : type_of% tkd123 := tkd123
end Tk
end Go.Proofs.YtchpcjmgifnmdaaDoor

/- Chapter 42's values as plain data; what its functions compute, plainly. -/
namespace Go.Proofs.YtchpcjmgifnmdaaDoor
open Go Go.Proofs.YtchpcjmgifnmdaaDoor.Ab
set_option linter.unusedSectionVars false

/-! the first index at which something is so -/
def firstIx (n : Nat) (p : Nat → Bool) : Option Nat := (List.range n).find? p
theorem firstIx_some {n i : Nat} {p : Nat → Bool} (hi : i < n) (hp : p i = true) (h : ∀ j, j < i → p j = false) : firstIx n p = some i := by
  unfold firstIx
  rw [List.find?_range_eq_some]
  exact ⟨hp, by simpa using hi, fun j hj => by simp [h j hj]⟩
theorem firstIx_none {n : Nat} {p : Nat → Bool} (h : ∀ j, j < n → p j = false) : firstIx n p = none := by
  unfold firstIx
  rw [List.find?_range_eq_none]
  intro j hj; simp [h j hj]
theorem firstIx_none_iff {n : Nat} {p : Nat → Bool} : firstIx n p = none ↔ ∀ j, j < n → p j = false := by
  refine ⟨fun h j hj => ?_, firstIx_none⟩
  unfold firstIx at h
  rw [List.find?_range_eq_none] at h
  simpa using h j hj

/-! values -/
def iv (n : Int) : AV := .v (.int .i64 n)
def bv (b : Bool) : AV := .v (.bool b)
def uv (n : Nat) : AV := .v (.int .u64 n)
def ints (l : List Int) : AV := .lst 1 (l.map fun x => [.v (.int .i64 x)]) .unk
def within (n lo hi : Int) : Bool := decide (lo ≤ n) && decide (n ≤ hi)
theorem within_iff {n lo hi : Int} : within n lo hi = true ↔ lo ≤ n ∧ n ≤ hi := by simp [within]
structure Mv where
  fr : Int
  kd : Int
  lb : Int
  to : Int
deriving Inhabited, DecidableEq
structure Re where
  st : Int
  s0 : Int
  inp : Int
  out : Int
  mv : List Mv
deriving Inhabited, DecidableEq
def mvR (m : Mv) : List AV := [.v (.int .i64 m.fr), .v (.int .i64 m.kd), .v (.int .i64 m.lb), .v (.int .i64 m.to)]
def mvV (m : Mv) : AV := .agg (mvR m)
def mvsV (l : List Mv) : AV := .lst 4 (l.map mvR) .unk
def reL (x : Re) : List AV := [.v (.int .i64 x.st), .v (.int .i64 x.s0), .v (.int .i64 x.inp), .v (.int .i64 x.out), mvsV x.mv]
def reV (x : Re) : AV := .agg (reL x)

theorem FZs.v1 (a : Value) : FZs [.v a] := FZs.cons (FZ.v _) FZs.nil
theorem FZs.v2 (a b : Value) : FZs [.v a, .v b] := FZs.cons (FZ.v _) (FZs.v1 _)
theorem FZs.v3 (a b c : Value) : FZs [.v a, .v b, .v c] := FZs.cons (FZ.v _) (FZs.v2 _ _)
theorem FZs.v4 (a b c d : Value) : FZs [.v a, .v b, .v c, .v d] := FZs.cons (FZ.v _) (FZs.v3 _ _ _)
theorem FZs.one {a : AV} (h : FZ a) : FZs [a] := FZs.cons h FZs.nil
theorem FZs.two {a b : AV} (h : FZ a) (h' : FZ b) : FZs [a, b] := FZs.cons h (FZs.one h')
theorem FZs.three {a b c : AV} (h : FZ a) (h' : FZ b) (h'' : FZ c) : FZs [a, b, c] := FZs.cons h (FZs.two h' h'')
theorem FZ.ints (l : List Int) : FZ (ints l) := FZ.lst rfl fun r hr => by
  obtain ⟨x, _, rfl⟩ := List.mem_map.mp hr
  exact FZs.v1 _
theorem FZs.mvR (m : Mv) : FZs (mvR m) := FZs.v4 _ _ _ _
theorem FZ.mvV (m : Mv) : FZ (mvV m) := FZ.agg (FZs.mvR m)
theorem FZ.mvsV (l : List Mv) : FZ (mvsV l) := FZ.lst rfl fun r hr => by
  obtain ⟨x, _, rfl⟩ := List.mem_map.mp hr
  exact FZs.mvR _
theorem FZs.reL (x : Re) : FZs (reL x) := FZs.cons (FZ.v _) (FZs.cons (FZ.v _) (FZs.cons (FZ.v _) (FZs.cons (FZ.v _) (FZs.one (FZ.mvsV _)))))
theorem FZ.reV (x : Re) : FZ (reV x) := FZ.agg (FZs.reL x)

theorem fin_v {x y : Value} {H' : AH} (h : x = y) : ∃ v v', AOut.ret (.v x) = .ret v ∧ View H' v v' ∧ FZ v' ∧ v' = .v y := by
  subst h; exact ⟨_, _, rfl, (FZ.v x).view, FZ.v x, rfl⟩
theorem fin_t2 {x y x' y' : Value} {H' : AH} (h : x = x') (h' : y = y') : ∃ v v', AOut.ret (.tup [.v x, .v y]) = .ret v ∧ View H' v v' ∧ FZ v' ∧ v' = .tup [.v x', .v y'] := by
  subst h; subst h'
  have : FZ (.tup [.v x, .v y]) := FZ.tup (FZs.v2 _ _)
  exact ⟨_, _, rfl, this.view, this, rfl⟩
theorem fin_p {x y : Int} {p : Int × Int} {H' : AH} (h : p = (x, y)) : ∃ v v', AOut.ret (.tup [.v (.int .i64 x), .v (.int .i64 y)]) = .ret v ∧ View H' v v' ∧ FZ v' ∧ v' = .tup [.v (.int .i64 p.1), .v (.int .i64 p.2)] := by
  subst h; exact fin_t2 rfl rfl
theorem getD_ints (l : List Int) (i : Nat) (h : i < l.length) : (l.map fun x => [AV.v (.int .i64 x)]).getD i [] = [.v (.int .i64 (l.getD i 0))] := by
  rw [List.getD_eq_getElem?_getD, List.getElem?_map, List.getElem?_eq_getElem h, List.getD_eq_getElem?_getD, List.getElem?_eq_getElem h]; rfl
theorem wrapS {i : Nat} (h : i < 2 ^ 62) : IntKind.i64.wrap ((i : Int) + 1) = ((i + 1 : Nat) : Int) := by
  simp [IntKind.wrap, IntKind.bits, IntKind.signed]
  omega
theorem wrapI {x : Int} (h : -(2 ^ 63) ≤ x) (h' : x < 2 ^ 63) : IntKind.i64.wrap x = x := by
  simp [IntKind.wrap, IntKind.bits, IntKind.signed]
  omega
theorem wrapU {x : Int} (h : 0 ≤ x) (h' : x < 2 ^ 64) : IntKind.u64.wrap x = x := by
  simp [IntKind.wrap, IntKind.bits, IntKind.signed]
  omega
theorem getD_map {α : Type} [Inhabited α] (f : α → List AV) (l : List α) (i : Nat) (h : i < l.length) : (l.map f).getD i [] = f (l.getD i default) := by
  rw [List.getD_eq_getElem?_getD, List.getElem?_map, List.getElem?_eq_getElem h, List.getD_eq_getElem?_getD, List.getElem?_eq_getElem h]; rfl
theorem orU {a b : Nat} (h : a < 1024) (h' : b < 1024) : IntKind.u64.wrap ((BitVec.ofInt IntKind.u64.bits (a : Int) ||| BitVec.ofInt IntKind.u64.bits (b : Int)).toNat : Int) = ((a ||| b : Nat) : Int) := by
  have h1 : (a ||| b) < 2 ^ 10 := Nat.or_lt_two_pow h h'
  have e : (BitVec.ofInt IntKind.u64.bits (a : Int) ||| BitVec.ofInt IntKind.u64.bits (b : Int)).toNat = a ||| b := by
    show (BitVec.ofInt 64 (a : Int) ||| BitVec.ofInt 64 (b : Int)).toNat = _
    rw [BitVec.toNat_or, BitVec.ofInt_natCast, BitVec.ofInt_natCast, BitVec.toNat_ofNat, BitVec.toNat_ofNat, Nat.mod_eq_of_lt (by omega), Nat.mod_eq_of_lt (by omega)]
  rw [e, wrapU (by omega) (by omega)]
theorem andU {a b : Nat} (h : a < 1024) (h' : b < 1024) : IntKind.u64.wrap ((BitVec.ofInt IntKind.u64.bits (a : Int) &&& BitVec.ofInt IntKind.u64.bits (b : Int)).toNat : Int) = ((a &&& b : Nat) : Int) := by
  have h1 : (a &&& b) < 2 ^ 10 := Nat.and_lt_two_pow _ h'
  have e : (BitVec.ofInt IntKind.u64.bits (a : Int) &&& BitVec.ofInt IntKind.u64.bits (b : Int)).toNat = a &&& b := by
    show (BitVec.ofInt 64 (a : Int) &&& BitVec.ofInt 64 (b : Int)).toNat = _
    rw [BitVec.toNat_and, BitVec.ofInt_natCast, BitVec.ofInt_natCast, BitVec.toNat_ofNat, BitVec.toNat_ofNat, Nat.mod_eq_of_lt (by omega), Nat.mod_eq_of_lt (by omega)]
  rw [e, wrapU (by omega) (by omega)]
theorem shlU {n : Nat} (h : n < 10) : IntKind.u64.wrap (1 * 2 ^ (min ((n : Int)).toNat IntKind.u64.bits)) = ((2 ^ n : Nat) : Int) := by
  have : min ((n : Int)).toNat IntKind.u64.bits = n := by
    show min ((n : Int)).toNat 64 = n
    simp; omega
  rw [this, Int.one_mul]
  have h2 : 2 ^ n < 2 ^ 10 := Nat.pow_lt_pow_right (by omega) h
  rw [show ((2 : Int) ^ n) = ((2 ^ n : Nat) : Int) from by simp]
  generalize 2 ^ n = k at h2
  rw [wrapU (by omega) (by omega)]

/-! systems: right ones -/
def cmpI (a b : Int) : Int := if a < b then -1 else if b < a then 1 else 0
def orI (a b : Int) : Int := if a ≠ 0 then a else b
def cmpMv (a b : Mv) : Int := orI (cmpI a.fr b.fr) (orI (cmpI a.kd b.kd) (orI (cmpI a.lb b.lb) (cmpI a.to b.to)))
/-- what is wrong with a move: a kind, a range, the order, or nothing -/
def labels (x : Re) (m : Mv) : Int := if m.kd = 0 then x.inp else if m.kd = 1 then x.out else 1
def mvErr (x : Re) (i : Nat) : Int :=
  let m := x.mv.getD i default
  if !within m.kd 0 2 then 4 else
  if !within m.fr 0 (IntKind.i64.wrap (x.st - 1)) || !within m.to 0 (IntKind.i64.wrap (x.st - 1)) || !within m.lb 0 (IntKind.i64.wrap (labels x m - 1)) then 3 else
  if decide (0 < i) && decide (0 ≤ cmpMv (x.mv.getD (i - 1) default) m) then 14 else 0
def headErr (x : Re) : Bool := !within x.st 1 10 || !within x.s0 0 (IntKind.i64.wrap (x.st - 1)) || !within x.inp 0 4 || !within x.out 0 4
def checkR (x : Re) : Int × Int :=
  if headErr x then (0, 3) else
  if 80 < x.mv.length then (0, 2) else
  match firstIx x.mv.length (fun i => mvErr x i != 0) with
  | some i => (i, mvErr x i)
  | none => (0, 0)
def errR (x : Re) : Int := (checkR x).2

structure MvOk (x : Re) (m : Mv) : Prop where
  kd : m.kd = 0 ∨ m.kd = 1 ∨ m.kd = 2
  fr : 0 ≤ m.fr ∧ m.fr < x.st
  to : 0 ≤ m.to ∧ m.to < x.st
  lb : 0 ≤ m.lb ∧ m.lb < labels x m
structure Ok (x : Re) : Prop where
  st : 1 ≤ x.st ∧ x.st ≤ 10
  s0 : 0 ≤ x.s0 ∧ x.s0 < x.st
  inp : 0 ≤ x.inp ∧ x.inp ≤ 4
  out : 0 ≤ x.out ∧ x.out ≤ 4
  len : x.mv.length ≤ 80
  mv : ∀ m ∈ x.mv, MvOk x m
theorem getD_mem {α : Type} [Inhabited α] {l : List α} {i : Nat} (h : i < l.length) : l.getD i default ∈ l := by
  rw [List.getD_eq_getElem?_getD, List.getElem?_eq_getElem h]; exact List.getElem_mem h
theorem mem_getD {α : Type} [Inhabited α] {l : List α} {x : α} (h : x ∈ l) : ∃ i, i < l.length ∧ x = l.getD i default := by
  obtain ⟨i, hi, rfl⟩ := List.getElem_of_mem h
  exact ⟨i, hi, by rw [List.getD_eq_getElem?_getD, List.getElem?_eq_getElem hi]; rfl⟩
theorem ok_of_check {x : Re} (h : errR x = 0) : Ok x := by
  unfold errR checkR at h
  by_cases h1 : headErr x = true
  · rw [if_pos h1] at h; simp at h
  rw [if_neg h1] at h
  by_cases h2 : 80 < x.mv.length
  · rw [if_pos h2] at h; simp at h
  rw [if_neg h2] at h
  cases h3 : firstIx x.mv.length (fun i => mvErr x i != 0) with
  | some i =>
    rw [h3] at h
    have := List.find?_some h3
    simp only [bne_iff_ne, ne_eq] at this
    exact absurd h this
  | none =>
    rw [firstIx_none_iff] at h3
    simp only [headErr, within, Bool.or_eq_true, Bool.not_eq_true', Bool.and_eq_false_iff, decide_eq_false_iff_not, not_or, Decidable.not_not] at h1
    obtain ⟨⟨⟨⟨a1, a2⟩, a3, a4⟩, a5, a6⟩, a7, a8⟩ := h1
    rw [wrapI (by omega) (by omega)] at a4
    refine ⟨⟨a1, a2⟩, ⟨a3, by omega⟩, ⟨a5, a6⟩, ⟨a7, a8⟩, by omega, fun m hm => ?_⟩
    obtain ⟨i, hi, rfl⟩ := mem_getD hm
    have h4 := h3 i hi
    simp only [bne_eq_false_iff_eq] at h4
    unfold mvErr at h4
    simp only at h4
    by_cases b1 : (!within (x.mv.getD i default).kd 0 2) = true
    · rw [if_pos b1] at h4; omega
    rw [if_neg b1] at h4
    have hk : (x.mv.getD i default).kd = 0 ∨ (x.mv.getD i default).kd = 1 ∨ (x.mv.getD i default).kd = 2 := by
      simp only [Bool.not_eq_true', Bool.not_eq_false, within_iff] at b1; omega
    by_cases b2 : (!within (x.mv.getD i default).fr 0 (IntKind.i64.wrap (x.st - 1)) || !within (x.mv.getD i default).to 0 (IntKind.i64.wrap (x.st - 1)) || !within (x.mv.getD i default).lb 0 (IntKind.i64.wrap (labels x (x.mv.getD i default) - 1))) = true
    · rw [if_pos b2] at h4; omega
    have hl : 0 ≤ labels x (x.mv.getD i default) ∧ labels x (x.mv.getD i default) ≤ 4 := by
      unfold labels
      split
      · exact ⟨a5, a6⟩
      · split
        · exact ⟨a7, a8⟩
        · omega
    rw [wrapI (x := x.st - 1) (by omega) (by omega), wrapI (by omega) (by omega)] at b2
    simp only [Bool.or_eq_true, Bool.not_eq_true', not_or, Bool.not_eq_false, within_iff] at b2
    exact ⟨hk, by omega, by omega, by omega⟩

/-! sets of states, as numbers -/
def bitsN (l : Nat) : List Nat := (List.range 10).filter l.testBit
def bitsI (l : Nat) : List Int := (bitsN l).map fun a : Nat => (a : Int)
def setV (l : Nat) : AV := ints (bitsI l)
theorem bitsN_mem {l a : Nat} (h : l < 1024) : a ∈ bitsN l ↔ l.testBit a = true := by
  unfold bitsN
  rw [List.mem_filter, List.mem_range]
  refine ⟨fun h => h.2, fun h' => ⟨?_, h'⟩⟩
  apply Decidable.byContradiction
  intro hn
  have h2 : 2 ^ 10 ≤ 2 ^ a := Nat.pow_le_pow_right (by omega) (by omega)
  rw [Nat.testBit_lt_two_pow (by omega)] at h'
  cases h'
theorem bitsN_lt {l a : Nat} (h : a ∈ bitsN l) : a < 10 := by
  unfold bitsN at h
  rw [List.mem_filter, List.mem_range] at h
  exact h.1
theorem bitsN_bit {l a : Nat} (h : a ∈ bitsN l) : l.testBit a = true := by
  unfold bitsN at h
  exact (List.mem_filter.mp h).2
theorem bitsN_nil {l : Nat} (h : l < 1024) : bitsN l = [] ↔ l = 0 := by
  refine ⟨fun h' => ?_, fun h' => by subst h'; rfl⟩
  apply Nat.eq_of_testBit_eq
  intro i
  rw [Nat.zero_testBit]
  cases hb : l.testBit i with
  | false => rfl
  | true =>
    have := (bitsN_mem h).mpr hb
    rw [h'] at this; cases this
/-- the lowest one, and the rest -/
def low (l : Nat) : Nat := (bitsN l).headD 0
theorem bits_step : ∀ l, l < 1024 → l ≠ 0 → bitsN l = low l :: bitsN (l &&& (l - 1)) ∧ (l &&& (l - 1)) < l := by decide +kernel
theorem bitsN_of_lt : ∀ n, n ≤ 10 → ∀ l, l < 2 ^ n → bitsN l = (List.range n).filter l.testBit := by decide +kernel
theorem bitsI_mem {l : Nat} {a : Int} (h : a ∈ bitsI l) : 0 ≤ a ∧ a < 10 ∧ l.testBit a.toNat = true := by
  unfold bitsI at h
  obtain ⟨b, hb, rfl⟩ := List.mem_map.mp h
  have h1 := bitsN_lt hb
  have h2 := bitsN_bit hb
  exact ⟨by omega, by omega, by simpa using h2⟩
theorem testBit_foldor {α : Type} (p : α → Bool) (f : α → Nat) (b : Nat) : ∀ (l : List α) (z : Nat), (l.foldl (fun acc x => if p x then acc ||| f x else acc) z).testBit b = (z.testBit b || l.any fun x => p x && (f x).testBit b)
  | [], z => by simp
  | x :: l, z => by
    rw [List.foldl_cons, testBit_foldor p f b l, List.any_cons]
    cases p x <;> simp [Bool.or_assoc]
theorem foldor_lt {α : Type} {n : Nat} (p : α → Bool) (f : α → Nat) : ∀ (l : List α) (z : Nat), z < 2 ^ n → (∀ x ∈ l, p x = true → f x < 2 ^ n) → (l.foldl (fun acc x => if p x then acc ||| f x else acc) z) < 2 ^ n
  | [], z, h, _ => h
  | x :: l, z, h, hf => by
    rw [List.foldl_cons]
    refine foldor_lt p f l _ ?_ fun y hy => hf y (by simp [hy])
    cases hp : p x
    · exact h
    · exact Nat.or_lt_two_pow h (hf x (by simp) hp)
def maskL (l : List Int) : Nat := l.foldl (fun acc a => if true then acc ||| 2 ^ a.toNat else acc) 0
theorem maskL_bit {l : List Int} {b : Nat} (h : ∀ a ∈ l, 0 ≤ a) : (maskL l).testBit b = true ↔ (b : Int) ∈ l := by
  unfold maskL
  rw [testBit_foldor (fun _ => true)]
  simp only [Nat.zero_testBit, Bool.false_or, Bool.true_and, List.any_eq_true, Nat.testBit_two_pow, decide_eq_true_eq]
  constructor
  · rintro ⟨a, ha, rfl⟩
    have := h a ha
    rwa [Int.toNat_of_nonneg this]
  · intro hb
    exact ⟨_, hb, by simp⟩
theorem maskL_lt {l : List Int} {n : Nat} (h : ∀ a ∈ l, 0 ≤ a ∧ a < n) : maskL l < 2 ^ n := by
  unfold maskL
  refine foldor_lt (fun _ => true) _ _ _ (Nat.pow_pos (by omega)) fun a ha _ => Nat.pow_lt_pow_right (by omega) ?_
  have := h a ha
  omega
theorem bit_ext {a b : Nat} (h : ∀ i, a.testBit i = true ↔ b.testBit i = true) : a = b := Nat.eq_of_testBit_eq fun i => by
  have := h i
  cases h1 : a.testBit i <;> cases h2 : b.testBit i <;> simp_all
theorem maskL_bits {l : Nat} (h : l < 1024) : maskL (bitsI l) = l := by
  apply bit_ext
  intro i
  rw [maskL_bit fun a ha => (bitsI_mem ha).1, ← bitsN_mem h]
  unfold bitsI
  rw [List.mem_map]
  constructor
  · rintro ⟨a, ha, he⟩
    have : a = i := by omega
    exact this ▸ ha
  · intro hi
    exact ⟨i, hi, rfl⟩

/-! what a system does -/
def silP (l : List Mv) (a : Nat) : Nat := l.foldl (fun (acc : Nat) (m : Mv) => if decide (m.kd = 2) && decide (m.fr = a) then acc ||| 2 ^ m.to.toNat else acc) 0
def evM (x : Re) (m : Mv) : Int := if m.kd = 0 then m.lb else x.inp + m.lb
def byP (x : Re) (l : List Mv) (a e : Nat) : Nat := l.foldl (fun (acc : Nat) (m : Mv) => if decide (m.kd ≠ 2) && decide (m.fr = a) && decide (evM x m = e) then acc ||| 2 ^ m.to.toNat else acc) 0
def silM (x : Re) (a : Nat) : Nat := silP x.mv a
def byM (x : Re) (a e : Nat) : Nat := byP x x.mv a e
def silc (x : Re) : Nat := (x.inp + x.out).toNat
def stepM (x : Re) (l : Nat) : Nat := (bitsN l).foldl (fun acc a => if true then acc ||| silM x a else acc) l
def clF (x : Re) : Nat → Nat → Nat
  | 0, l => l
  | k + 1, l => if stepM x l = l then l else clF x k (stepM x l)
def cl (x : Re) (l : Nat) : Nat := clF x 1024 l
def quietM (x : Re) (a : Nat) : Bool := (List.range x.out.toNat).all (fun o => byM x a (x.inp.toNat + o) == 0) && silM x a == 0
def rawA (x : Re) (l e : Nat) : Nat := (bitsN l).foldl (fun acc a => if decide (e < silc x) || quietM x a then acc ||| (if e < silc x then byM x a e else 2 ^ a) else acc) 0
def aft (x : Re) (l e : Nat) : Nat := cl x (rawA x l e)
def fstM (x : Re) : Nat := cl x (2 ^ x.s0.toNat)
def shw (x : Re) (l e : Nat) : Bool := decide (x.inp.toNat ≤ e) && aft x l e != 0
def alongM (x : Re) (tr : List Int) : Nat := tr.foldl (fun l e => aft x l e.toNat) (fstM x)

theorem silM_bit {x : Re} {a b : Nat} : (silM x a).testBit b = true ↔ ∃ m ∈ x.mv, m.kd = 2 ∧ m.fr = a ∧ m.to.toNat = b := by
  unfold silM silP
  rw [testBit_foldor]
  simp [Nat.testBit_two_pow, and_assoc]
theorem byM_bit {x : Re} {a e b : Nat} : (byM x a e).testBit b = true ↔ ∃ m ∈ x.mv, m.kd ≠ 2 ∧ m.fr = a ∧ evM x m = e ∧ m.to.toNat = b := by
  unfold byM byP
  rw [testBit_foldor]
  simp [Nat.testBit_two_pow, and_assoc]
theorem stepM_bit {x : Re} {l b : Nat} : (stepM x l).testBit b = true ↔ l.testBit b = true ∨ ∃ a ∈ bitsN l, (silM x a).testBit b = true := by
  unfold stepM
  rw [testBit_foldor (fun _ => true)]
  simp
def nst (x : Re) : Nat := x.st.toNat
section
variable {x : Re} (hx : Ok x)
include hx
theorem Ok.n : nst x ≤ 10 ∧ 1 ≤ nst x := by have := hx.st; unfold nst; omega
theorem Ok.pw {l : Nat} (h : l < 2 ^ nst x) : l < 1024 := Nat.lt_of_lt_of_le h (Nat.pow_le_pow_right (by omega) hx.n.1)
theorem silP_lt {l : List Mv} (hl : ∀ m ∈ l, m ∈ x.mv) (a : Nat) : silP l a < 2 ^ nst x := by
  refine foldor_lt _ _ _ _ (Nat.pow_pos (by omega)) fun m hm _ => Nat.pow_lt_pow_right (by omega) ?_
  have := (hx.mv m (hl m hm)).to
  unfold nst; omega
theorem byP_lt {l : List Mv} (hl : ∀ m ∈ l, m ∈ x.mv) (a e : Nat) : byP x l a e < 2 ^ nst x := by
  refine foldor_lt _ _ _ _ (Nat.pow_pos (by omega)) fun m hm _ => Nat.pow_lt_pow_right (by omega) ?_
  have := (hx.mv m (hl m hm)).to
  unfold nst; omega
theorem silM_lt (a : Nat) : silM x a < 2 ^ nst x := silP_lt hx (fun _ h => h) a
theorem byM_lt (a e : Nat) : byM x a e < 2 ^ nst x := byP_lt hx (fun _ h => h) a e
theorem stepM_lt {l : Nat} (h : l < 2 ^ nst x) : stepM x l < 2 ^ nst x := foldor_lt (fun _ => true) _ _ _ h fun a _ _ => silM_lt hx a
theorem bits_n {l a : Nat} (h : l < 2 ^ nst x) (ha : l.testBit a = true) : a < nst x := by
  apply Decidable.byContradiction
  intro hn
  have h2 : 2 ^ nst x ≤ 2 ^ a := Nat.pow_le_pow_right (by omega) (by omega)
  rw [Nat.testBit_lt_two_pow (by omega)] at ha
  cases ha
omit hx in
theorem stepM_ge (l : Nat) : l ≤ stepM x l := by
  have : stepM x l = l ||| stepM x l := by
    apply bit_ext
    intro i
    rw [Nat.testBit_or, stepM_bit]
    simp only [Bool.or_eq_true, stepM_bit]
    constructor
    · intro h; exact .inr h
    · rintro (h | h)
      · exact .inl h
      · exact h
  rw [this]; exact Nat.left_le_or
theorem clF_fix : ∀ (k l : Nat), l < 2 ^ nst x → 1024 - l ≤ k → stepM x (clF x k l) = clF x k l ∧ clF x k l < 2 ^ nst x
  | 0, l, h, hk => by have := hx.pw h; omega
  | k + 1, l, h, hk => by
    unfold clF
    split
    · rename_i he; exact ⟨he, h⟩
    · rename_i he
      have := stepM_ge (x := x) l
      exact clF_fix k _ (stepM_lt hx h) (by omega)
theorem cl_fix {l : Nat} (h : l < 2 ^ nst x) : stepM x (cl x l) = cl x l := (clF_fix hx 1024 l h (by omega)).1
theorem cl_lt {l : Nat} (h : l < 2 ^ nst x) : cl x l < 2 ^ nst x := (clF_fix hx 1024 l h (by omega)).2
omit hx in
theorem clF_of_fix {k l : Nat} (h : stepM x l = l) : clF x k l = l := by
  cases k with
  | zero => rfl
  | succ k => unfold clF; rw [if_pos h]
end
inductive Rch (x : Re) (a : Nat) : Nat → Prop
  | refl : Rch x a a
  | step {b c : Nat} : Rch x a b → (silM x b).testBit c = true → Rch x a c
theorem Rch.trans {x : Re} {a b c : Nat} (h : Rch x a b) (h' : Rch x b c) : Rch x a c := by
  induction h' with
  | refl => exact h
  | step _ hs ih => exact .step ih hs
theorem clF_sub {x : Re} {b : Nat} : ∀ (k l : Nat), (clF x k l).testBit b = true → ∃ a, l.testBit a = true ∧ Rch x a b
  | 0, l, h => ⟨b, h, .refl⟩
  | k + 1, l, h => by
    unfold clF at h
    split at h
    · exact ⟨b, h, .refl⟩
    · obtain ⟨a, ha, hr⟩ := clF_sub k _ h
      rcases stepM_bit.mp ha with ha | ⟨c, hc, hs⟩
      · exact ⟨a, ha, hr⟩
      · exact ⟨c, bitsN_bit hc, Rch.trans (.step .refl hs) hr⟩
theorem clF_sup {x : Re} {b : Nat} : ∀ (k l : Nat), l.testBit b = true → (clF x k l).testBit b = true
  | 0, l, h => h
  | k + 1, l, h => by
    unfold clF
    split
    · exact h
    · exact clF_sup k _ (stepM_bit.mpr (.inl h))
theorem fix_rch {x : Re} (hx : Ok x) {l a b : Nat} (hl : l < 2 ^ nst x) (hf : stepM x l = l) (ha : l.testBit a = true) (h : Rch x a b) : l.testBit b = true := by
  induction h with
  | refl => exact ha
  | @step b c _ hs ih =>
    rw [← hf]
    exact stepM_bit.mpr (.inr ⟨b, (bitsN_mem (hx.pw hl)).mpr ih, hs⟩)
theorem cl_bit {x : Re} (hx : Ok x) {l b : Nat} (hl : l < 2 ^ nst x) : (cl x l).testBit b = true ↔ ∃ a, l.testBit a = true ∧ Rch x a b :=
  ⟨clF_sub _ _, fun ⟨_, ha, hr⟩ => fix_rch hx (cl_lt hx hl) (cl_fix hx hl) (clF_sup _ _ ha) hr⟩
theorem quietM_iff {x : Re} (hx : Ok x) {a : Nat} : quietM x a = x.mv.all fun m => decide (m.fr ≠ a) || decide (m.kd = 0) := by
  have key : quietM x a = true ↔ (x.mv.all fun m => decide (m.fr ≠ a) || decide (m.kd = 0)) = true := by
    unfold quietM
    simp only [Bool.and_eq_true, List.all_eq_true, List.mem_range, beq_iff_eq, Bool.or_eq_true, decide_eq_true_eq]
    constructor
    · rintro ⟨h1, h2⟩ m hm
      have hk := hx.mv m hm
      apply Decidable.byContradiction
      intro hn
      simp only [not_or, ne_eq, Decidable.not_not] at hn
      obtain ⟨hf, hn⟩ := hn
      rcases hk.kd with h | h | h
      · exact hn h
      · have hlb := hk.lb
        unfold labels at hlb
        rw [if_neg (by omega), if_pos h] at hlb
        have h3 := h1 m.lb.toNat (by omega)
        have h4 : (byM x a (x.inp.toNat + m.lb.toNat)).testBit m.to.toNat = true := byM_bit.mpr ⟨m, hm, by omega, hf, by
          unfold evM; rw [if_neg (by omega)]; have := hx.inp; omega, rfl⟩
        rw [h3, Nat.zero_testBit] at h4; cases h4
      · have h4 : (silM x a).testBit m.to.toNat = true := silM_bit.mpr ⟨m, hm, h, hf, rfl⟩
        rw [h2, Nat.zero_testBit] at h4; cases h4
    · intro h
      refine ⟨fun o ho => ?_, ?_⟩
      · apply bit_ext
        intro i
        rw [Nat.zero_testBit, byM_bit]
        constructor
        · rintro ⟨m, hm, h1, h2, h3, _⟩
          rcases h m hm with h4 | h4
          · exact absurd h2 h4
          · have hlb := (hx.mv m hm).lb
            unfold labels at hlb
            rw [if_pos h4] at hlb
            unfold evM at h3
            rw [if_pos h4] at h3
            have := hx.inp
            omega
        · intro h; cases h
      · apply bit_ext
        intro i
        rw [Nat.zero_testBit, silM_bit]
        constructor
        · rintro ⟨m, hm, h1, h2, _⟩
          rcases h m hm with h4 | h4
          · exact absurd h2 h4
          · omega
        · intro h; cases h
  exact Bool.eq_iff_iff.mpr key
theorem rawA_lt {x : Re} (hx : Ok x) {l : Nat} (hl : l < 2 ^ nst x) (e : Nat) : rawA x l e < 2 ^ nst x := by
  unfold rawA
  refine foldor_lt _ _ _ _ (Nat.pow_pos (by omega)) fun a ha _ => ?_
  split
  · exact byM_lt hx a e
  · exact Nat.pow_lt_pow_right (by omega) (bits_n hx hl (bitsN_bit ha))
theorem aft_lt {x : Re} (hx : Ok x) {l : Nat} (hl : l < 2 ^ nst x) (e : Nat) : aft x l e < 2 ^ nst x := cl_lt hx (rawA_lt hx hl e)
theorem fst_lt {x : Re} (hx : Ok x) : fstM x < 2 ^ nst x := cl_lt hx (Nat.pow_lt_pow_right (by omega) (by have := hx.s0; unfold nst; omega))
theorem rawA_bit {x : Re} (hx : Ok x) {l e b : Nat} (hl : l < 2 ^ nst x) (he : e ≤ silc x) : (rawA x l e).testBit b = true ↔ (e = silc x ∧ quietM x b = true ∧ l.testBit b = true) ∨ ∃ m ∈ x.mv, m.kd ≠ 2 ∧ l.testBit m.fr.toNat = true ∧ evM x m = e ∧ m.to.toNat = b := by
  unfold rawA
  rw [testBit_foldor]
  simp only [Nat.zero_testBit, Bool.false_or, List.any_eq_true, Bool.and_eq_true, Bool.or_eq_true, decide_eq_true_eq]
  have hev : ∀ m ∈ x.mv, m.kd ≠ 2 → evM x m < silc x := by
    intro m hm hk
    have h := hx.mv m hm
    have hlb := h.lb
    have := hx.inp; have := hx.out
    unfold labels at hlb
    unfold evM silc
    rcases h.kd with h | h | h
    · rw [if_pos h] at hlb ⊢; omega
    · rw [if_neg (by omega), if_pos h] at hlb
      rw [if_neg (by omega)]; omega
    · exact absurd h hk
  constructor
  · rintro ⟨a, ha, hc, hb⟩
    split at hb
    · obtain ⟨m, hm, h1, h2, h3, h4⟩ := byM_bit.mp hb
      exact .inr ⟨m, hm, h1, by rw [h2]; simpa using bitsN_bit ha, h3, h4⟩
    · rename_i hn
      rw [Nat.testBit_two_pow, decide_eq_true_eq] at hb
      subst hb
      refine .inl ⟨by omega, ?_, bitsN_bit ha⟩
      rcases hc with hc | hc
      · exact absurd hc hn
      · exact hc
  · rintro (⟨rfl, hq, hb⟩ | ⟨m, hm, hk, hb, h3, h4⟩)
    · exact ⟨b, (bitsN_mem (hx.pw hl)).mpr hb, .inr hq, by rw [if_neg (by omega), Nat.testBit_two_pow]; simp⟩
    · have := hev m hm hk
      have hlt : e < silc x := by omega
      refine ⟨m.fr.toNat, (bitsN_mem (hx.pw hl)).mpr hb, .inl hlt, ?_⟩
      rw [if_pos hlt]
      exact byM_bit.mpr ⟨m, hm, hk, by have := (hx.mv m hm).fr; omega, h3, h4⟩
end Go.Proofs.YtchpcjmgifnmdaaDoor

/- The search for a failing trace, plainly. -/
namespace Go.Proofs.YtchpcjmgifnmdaaDoor
open Go Go.Proofs.YtchpcjmgifnmdaaDoor.Ab

theorem nodup_lt : ∀ (n : Nat) (l : List Nat), l.Nodup → (∀ x ∈ l, x < n) → l.length ≤ n
  | 0, l, _, h => by
    cases l with
    | nil => exact Nat.le_refl _
    | cons x l => have := h x (by simp); omega
  | n + 1, l, hn, h => by
    by_cases hm : n ∈ l
    · have h1 := List.length_erase_of_mem hm
      have h2 := nodup_lt n (l.erase n) (hn.erase _) fun x hx => by
        have h3 := (hn.mem_erase_iff).mp hx
        have := h x h3.2
        have := h3.1
        omega
      have : 0 < l.length := List.length_pos_of_mem hm
      omega
    · have := nodup_lt n l hn fun x hx => by
        have h1 := h x hx
        have : x ≠ n := fun e => hm (e ▸ hx)
        omega
      omega

structure Nd where
  x : Nat
  y : Nat
  tr : List Int
deriving Inhabited, DecidableEq
def metN (l : List Nd) (a b : Nat) : Bool := l.any fun p => decide (p.x = a) && decide (p.y = b)
def addN (l : List Nd) (p : Nd) : List Nd := if metN l p.x p.y then l else l ++ [p]
def extE (x y : Re) (p : Nd) (l : List Nd) (e : Nat) : List Nd := if aft y p.y e = 0 then l else addN l ⟨aft x p.x e, aft y p.y e, p.tr ++ [(e : Int)]⟩
def extN (x y : Re) (p : Nd) (l : List Nd) (k : Nat) : List Nd := (List.range k).foldl (extE x y p) l
def failsAt (x y : Re) (a b e : Nat) : Bool := shw x a e && !shw y b e
def failsN (x y : Re) (a b : Nat) : Option Nat := firstIx (silc x + 1) (failsAt x y a b)
def srch (x y : Re) : Nat → List Nd → Nat → Option (Option (List Int) × List Nd)
  | 0, _, _ => none
  | k + 1, l, i => if i < l.length then
      match failsN x y (l.getD i default).x (l.getD i default).y with
      | some e => some (some ((l.getD i default).tr ++ [(e : Int)]), l)
      | none => srch x y k (extN x y (l.getD i default) l (silc x + 1)) (i + 1)
    else some (none, l)
def SrchR (x y : Re) (l : List Nd) (i : Nat) (r : Option (List Int) × List Nd) : Prop := ∃ k, srch x y k l i = some r
theorem srch_mono {x y : Re} {r : Option (List Int) × List Nd} : ∀ (k : Nat) (l : List Nd) (i : Nat) (j : Nat), srch x y k l i = some r → srch x y (k + j) l i = some r
  | 0, _, _, _, h => by cases h
  | k + 1, l, i, j, h => by
    rw [show k + 1 + j = (k + j) + 1 from by omega]
    unfold srch at h ⊢
    split
    · rename_i h1
      rw [if_pos h1] at h
      split
      · rename_i e he
        rw [he] at h; exact h
      · rename_i he
        rw [he] at h; exact srch_mono k _ _ j h
    · rename_i h1
      rw [if_neg h1] at h; exact h
theorem SrchR.det {x y : Re} {l : List Nd} {i : Nat} {r r' : Option (List Int) × List Nd} (h : SrchR x y l i r) (h' : SrchR x y l i r') : r = r' := by
  obtain ⟨k, hk⟩ := h
  obtain ⟨k', hk'⟩ := h'
  have h1 := srch_mono k l i k' hk
  have h2 := srch_mono k' l i k hk'
  rw [Nat.add_comm k' k] at h2
  rw [h1] at h2
  exact Option.some.inj h2
theorem SrchR.next {x y : Re} {l : List Nd} {i : Nat} {r : Option (List Int) × List Nd} (hi : i < l.length) (hf : failsN x y (l.getD i default).x (l.getD i default).y = none) (h : SrchR x y (extN x y (l.getD i default) l (silc x + 1)) (i + 1) r) : SrchR x y l i r := by
  obtain ⟨k, hk⟩ := h
  refine ⟨k + 1, ?_⟩
  rw [srch, if_pos hi, hf]; exact hk
theorem SrchR.fail {x y : Re} {l : List Nd} {i e : Nat} (hi : i < l.length) (hf : failsN x y (l.getD i default).x (l.getD i default).y = some e) : SrchR x y l i (some ((l.getD i default).tr ++ [(e : Int)]), l) :=
  ⟨1, by rw [srch, if_pos hi, hf]⟩
theorem SrchR.done {x y : Re} {l : List Nd} {i : Nat} (hi : ¬ i < l.length) : SrchR x y l i (none, l) := ⟨1, by rw [srch, if_neg hi]⟩

structure GoodN (x y : Re) (l : List Nd) : Prop where
  lt : ∀ p ∈ l, p.x < 2 ^ nst x ∧ p.y < 2 ^ nst y
  nd : (l.map fun p => p.x * 1024 + p.y).Nodup
theorem metN_iff {l : List Nd} {a b : Nat} : metN l a b = true ↔ ∃ p ∈ l, p.x = a ∧ p.y = b := by simp [metN]
theorem metN_mem {x y : Re} (hx : Ok x) (hy : Ok y) {l : List Nd} (h : ∀ p ∈ l, p.x < 2 ^ nst x ∧ p.y < 2 ^ nst y) {a b : Nat} (hb : b < 1024) : metN l a b = true ↔ a * 1024 + b ∈ l.map fun p => p.x * 1024 + p.y := by
  rw [metN_iff, List.mem_map]
  constructor
  · rintro ⟨p, hp, rfl, rfl⟩; exact ⟨p, hp, rfl⟩
  · rintro ⟨p, hp, he⟩
    have := hy.pw (h p hp).2
    exact ⟨p, hp, by omega, by omega⟩
theorem GoodN.len {x y : Re} (hx : Ok x) (hy : Ok y) {l : List Nd} (h : GoodN x y l) : l.length ≤ 1048576 := by
  have := nodup_lt 1048576 _ h.nd fun v hv => by
    obtain ⟨p, hp, rfl⟩ := List.mem_map.mp hv
    have h1 := hx.pw (h.lt p hp).1
    have h2 := hy.pw (h.lt p hp).2
    omega
  simpa using this
theorem GoodN.add {x y : Re} (hx : Ok x) (hy : Ok y) {l : List Nd} (h : GoodN x y l) {p : Nd} (h1 : p.x < 2 ^ nst x) (h2 : p.y < 2 ^ nst y) : GoodN x y (addN l p) := by
  unfold addN
  split
  · exact h
  · rename_i hm
    refine ⟨fun q hq => ?_, ?_⟩
    · rcases List.mem_append.mp hq with hq | hq
      · exact h.lt q hq
      · simp only [List.mem_singleton] at hq; subst hq; exact ⟨h1, h2⟩
    · rw [metN_mem hx hy h.lt (hy.pw h2)] at hm
      rw [List.map_append, List.map_cons, List.map_nil, List.nodup_append]
      refine ⟨h.nd, by simp, fun a ha b hb => ?_⟩
      simp only [List.mem_singleton] at hb
      subst hb
      intro e; subst e; exact hm ha
theorem GoodN.extE {x y : Re} (hx : Ok x) (hy : Ok y) {l : List Nd} (h : GoodN x y l) {p : Nd} (h1 : p.x < 2 ^ nst x) (h2 : p.y < 2 ^ nst y) (e : Nat) : GoodN x y (extE x y p l e) := by
  unfold Go.Proofs.YtchpcjmgifnmdaaDoor.extE
  split
  · exact h
  · exact h.add hx hy (aft_lt hx h1 e) (aft_lt hy h2 e)
theorem extN_succ (x y : Re) (p : Nd) (l : List Nd) (k : Nat) : extN x y p l (k + 1) = extE x y p (extN x y p l k) k := by
  unfold extN; rw [List.range_succ, List.foldl_append]; rfl
theorem GoodN.extN {x y : Re} (hx : Ok x) (hy : Ok y) {l : List Nd} (h : GoodN x y l) {p : Nd} (h1 : p.x < 2 ^ nst x) (h2 : p.y < 2 ^ nst y) : ∀ k, GoodN x y (extN x y p l k)
  | 0 => h
  | k + 1 => by rw [extN_succ]; exact (GoodN.extN hx hy h h1 h2 k).extE hx hy h1 h2 k
theorem extE_pre (x y : Re) (p : Nd) (l : List Nd) (e : Nat) : ∃ r, extE x y p l e = l ++ r := by
  unfold extE
  split
  · exact ⟨[], by simp⟩
  · unfold addN
    split
    · exact ⟨[], by simp⟩
    · exact ⟨_, rfl⟩
theorem extN_pre (x y : Re) (p : Nd) (l : List Nd) : ∀ k, ∃ r, extN x y p l k = l ++ r
  | 0 => ⟨[], by simp [extN]⟩
  | k + 1 => by
    obtain ⟨r, hr⟩ := extN_pre x y p l k
    obtain ⟨r', hr'⟩ := extE_pre x y p (extN x y p l k) k
    exact ⟨r ++ r', by rw [extN_succ, hr', hr, List.append_assoc]⟩
def nd0 (x y : Re) : Nd := ⟨fstM x, fstM y, []⟩
theorem good0 {x y : Re} (hx : Ok x) (hy : Ok y) : GoodN x y [nd0 x y] :=
  ⟨fun p hp => by simp only [List.mem_singleton] at hp; subst hp; exact ⟨fst_lt hx, fst_lt hy⟩, by simp⟩
/-- how the pairs came, in the program's lists -/
structure Came (l : List Nd) (fr bys : List Int) : Prop where
  f : fr.length = l.length
  b : bys.length = l.length
  h0 : 0 < l.length
  z : fr.getD 0 0 = -1 ∧ (l.getD 0 default).tr = []
  s : ∀ k, 0 < k → k < l.length → ∃ j : Nat, fr.getD k 0 = (j : Int) ∧ j < k ∧ (l.getD k default).tr = (l.getD j default).tr ++ [bys.getD k 0]
theorem getD_append_left {α : Type} (l r : List α) (d : α) {i : Nat} (h : i < l.length) : (l ++ r).getD i d = l.getD i d := by
  rw [List.getD_eq_getElem?_getD, List.getElem?_append_left h, ← List.getD_eq_getElem?_getD]
theorem getD_append_len {α : Type} (l : List α) (x d : α) : (l ++ [x]).getD l.length d = x := by
  rw [List.getD_eq_getElem?_getD, List.getElem?_append_right (Nat.le_refl _)]; simp
theorem Came.push {l : List Nd} {fr bys : List Int} (h : Came l fr bys) {i : Nat} (hi : i < l.length) (a b : Nat) (e : Int) : Came (l ++ [⟨a, b, (l.getD i default).tr ++ [e]⟩]) (fr ++ [(i : Int)]) (bys ++ [e]) := by
  have h0 := h.h0
  refine ⟨by simp [h.f], by simp [h.b], by simp, ?_, fun k hk hkl => ?_⟩
  · rw [getD_append_left _ _ _ (by rw [h.f]; exact h0), getD_append_left _ _ _ h0]; exact h.z
  · simp only [List.length_append, List.length_singleton] at hkl
    by_cases hlt : k < l.length
    · obtain ⟨j, h1, h2, h3⟩ := h.s k hk hlt
      refine ⟨j, by rw [getD_append_left _ _ _ (by rw [h.f]; exact hlt)]; exact h1, h2, ?_⟩
      rw [getD_append_left _ _ _ hlt, getD_append_left _ _ _ (by omega), getD_append_left _ _ _ (by rw [h.b]; exact hlt)]; exact h3
    · have : k = l.length := by omega
      subst this
      refine ⟨i, ?_, hi, ?_⟩
      · rw [← h.f, getD_append_len]
      · rw [getD_append_len, getD_append_left _ _ _ hi, ← h.b, getD_append_len]
end Go.Proofs.YtchpcjmgifnmdaaDoor

/- Walks: sets of states as numbers. -/
namespace Go.Proofs.YtchpcjmgifnmdaaDoor
open Go Go.Proofs.YtchpcjmgifnmdaaDoor.Ab
set_option maxRecDepth 100000
set_option linter.unusedSimpArgs false

theorem room_of {by_ n : Nat} (h : n * by_ ≤ 140737488355328) (h' : n ≤ 140737488355328) : roomA by_ n = true := by simp [roomA, h, h']
def tzI (l : Nat) : Nat := (l &&& (18446744073709551616 - l)) * 285870213051353865 % 18446744073709551616 / 288230376151711744
theorem tz_tab : ∀ l, l < 1024 → l ≠ 0 → tzI l < 64 ∧ tab64.getD (tzI l) 0 = low l ∧ low l < 10 := by decide +kernel
theorem tz_eq (l : Nat) (hl : l < 1024) (h0 : l ≠ 0) : (IntKind.u64.wrap (IntKind.u64.wrap ((BitVec.ofInt IntKind.u64.bits (l : Int) &&& BitVec.ofInt IntKind.u64.bits (IntKind.u64.wrap (0 - (l : Int)))).toNat : Int) * 285870213051353865)).fdiv (2 ^ min (Int.toNat 58) IntKind.u64.bits) = ((tzI l : Nat) : Int) := by
  have h1 : IntKind.u64.wrap (0 - (l : Int)) = ((18446744073709551616 - l : Nat) : Int) := by
    simp [IntKind.wrap, IntKind.bits, IntKind.signed]; omega
  have h2 : (BitVec.ofInt IntKind.u64.bits (l : Int) &&& BitVec.ofInt IntKind.u64.bits (((18446744073709551616 - l : Nat) : Int))).toNat = l &&& (18446744073709551616 - l) := by
    show (BitVec.ofInt 64 (l : Int) &&& BitVec.ofInt 64 _).toNat = _
    rw [BitVec.toNat_and, BitVec.ofInt_natCast, BitVec.ofInt_natCast, BitVec.toNat_ofNat, BitVec.toNat_ofNat, Nat.mod_eq_of_lt (by omega), Nat.mod_eq_of_lt (by omega)]
  rw [h1, h2]
  have h3 : l &&& (18446744073709551616 - l) < 2 ^ 10 := Nat.lt_of_le_of_lt Nat.and_le_left hl
  unfold tzI
  generalize l &&& (18446744073709551616 - l) = k at h3 ⊢
  try rw [wrapU (x := ((k : Nat) : Int)) (by omega) (by omega)]
  have h4 : IntKind.u64.wrap ((k : Int) * 285870213051353865) = ((k * 285870213051353865 % 18446744073709551616 : Nat) : Int) := by
    simp [IntKind.wrap, IntKind.bits, IntKind.signed]
  rw [h4, show (min (Int.toNat 58) IntKind.u64.bits) = 58 from by decide, show ((2 : Int) ^ 58) = ((288230376151711744 : Nat) : Int) from by decide, Int.fdiv_eq_ediv_of_nonneg _ (by omega)]
  rfl

theorem hel180 : elOf Tryd.prog 180 = none := by unfold elOf; rw [Tryd.underlying180]
theorem ar180 : arrOf Tryd.prog 180 = some (64, 5) := by unfold arrOf; rw [Tryd.underlying180]
theorem gC (j : Nat) (h : j < 64) : gCell 1 ((j : Nat) : Int).toNat = some (.int .u8 ((tab64.getD j 0 : Nat) : Int)) := by
  rw [Int.toNat_natCast]; unfold gCell; rw [if_pos ⟨rfl, h⟩]
def tzT : List COp := [{ dst := some 11, op := Op.indexAddr 180 (Operand.global 1) (Operand.tmp 10), guard := none }, { dst := some 12, op := Op.load 5 (Operand.tmp 11), guard := none }, { dst := some 13, op := Op.convert 5 3 (Operand.tmp 12), guard := none }, { dst := some 2, op := Op.assign (Operand.tmp 13), guard := none }]
theorem tz_tail (f : AF) (z : Int) (w : Nat) (hw : w < 64) (K : Kont) (h : f.t 10 = .v (.int .u64 z)) (hz : (0 ≤ z) = True) (hz' : (z < ((64 : Nat) : Int)) = True) (hg : gCell 1 z.toNat = some (.int .u8 (w : Int)))
    (hK : ∀ f' : AF, f'.t 2 = .v (.int .i64 (w : Int)) → f'.ds = f.ds → K.run AX.normal f' AH.none) : cops Tryd.prog [] K tzT f AH.none := by
  unfold tzT
  simp only [h, hel180, ar180, hz, hz', hg, Cd.cd121, Tk.t121, base0, base1, base2, base3, Option.isNone_none, Option.isNone_some, Nat.reduceBEq, true_or, or_true, false_or, or_false, Nat.reduceLT, Nat.reduceMod, Nat.reducePow, rmaps, nsucc, List.flatten_cons, List.flatten_nil, Nat.reduceEqDiff, Nat.reduceLeDiff, Nat.reduceAdd, Nat.reduceMul, Nat.reduceSub, ↓reduceIte, reduceCtorEq, decide_true, decide_false]
  refine hK _ ?_ rfl
  show AV.v (.int .i64 (IntKind.i64.wrap (w : Int))) = _
  rw [wrapI (by omega) (by omega)]
theorem low121 (l : Nat) (hl : l < 1024) (h0 : l ≠ 0) : FCall Tryd.prog 121 [uv l] (· = .v (.int .i64 (low l : Nat))) := by
  simp only [uv]
  obtain ⟨t1, t2, t3⟩ := tz_tab l hl h0
  have hg := gC _ t1
  rw [t2] at hg
  have he := tz_eq l hl h0
  have hz : (0 ≤ ((tzI l : Nat) : Int)) = True := by simp
  have hz' : (((tzI l : Nat) : Int) < ((64 : Nat) : Int)) = True := by simp; omega
  refine ACall.enter [] Cd.fn121 (by simp) ?_
  unfold Cd.cd121
  have hS : ((58 : Int) < 0) = False := by simp
  have hT : [{ dst := some 11, op := Op.indexAddr 180 (Operand.global 1) (Operand.tmp 10), guard := none }, { dst := some 12, op := Op.load 5 (Operand.tmp 11), guard := none }, { dst := some 13, op := Op.convert 5 3 (Operand.tmp 12), guard := none }, { dst := some 2, op := Op.assign (Operand.tmp 13), guard := none }] = tzT := rfl
  rw [hT]
  generalize hT' : tzT = T
  generalize (285870213051353865 : Int) = C at he ⊢
  generalize (58 : Int) = S at he hS ⊢
  simp only [show ((l : Int) == 0) = false from by simp; omega, hS, he, Cd.cd121, Tk.t121, base0, base1, base2, base3, Option.isNone_none, Option.isNone_some, Nat.reduceBEq, true_or, or_true, false_or, or_false, Nat.reduceLT, Nat.reduceMod, Nat.reducePow, rmaps, nsucc, List.flatten_cons, List.flatten_nil, Nat.reduceEqDiff, Nat.reduceLeDiff, Nat.reduceAdd, Nat.reduceMul, Nat.reduceSub, ↓reduceIte, reduceCtorEq, decide_true, decide_false]
  subst hT'
  refine tz_tail _ _ _ (by omega) _ rfl hz hz' hg fun f' h1 h2 => ?_
  simp only [h1, h2, Cd.cd121, Tk.t121, base0, base1, base2, base3, Option.isNone_none, Option.isNone_some, Nat.reduceBEq, true_or, or_true, false_or, or_false, Nat.reduceLT, Nat.reduceMod, Nat.reducePow, rmaps, nsucc, List.flatten_cons, List.flatten_nil, Nat.reduceEqDiff, Nat.reduceLeDiff, Nat.reduceAdd, Nat.reduceMul, Nat.reduceSub, ↓reduceIte, reduceCtorEq, decide_true, decide_false]
  exact fin_v rfl
theorem tz103 (l : Nat) (hl : l < 1024) (h0 : l ≠ 0) : FCall Tryd.prog 103 [uv l] (· = .v (.int .i64 (low l : Nat))) := by
  simp only [uv]
  refine ACall.enter [] Cd.fn103 (by simp) ?_
  simp only [Cd.cd103, Tk.t103, base0, base1, base2, base3, Option.isNone_none, Option.isNone_some, Nat.reduceBEq, true_or, or_true, false_or, or_false, Nat.reduceLT, Nat.reduceMod, Nat.reducePow, rmaps, nsucc, List.flatten_cons, List.flatten_nil, Nat.reduceEqDiff, Nat.reduceLeDiff, Nat.reduceAdd, Nat.reduceMul, Nat.reduceSub, ↓reduceIte, reduceCtorEq, decide_true, decide_false]
  first | refine FCall.go (low121 l hl h0) (FZs.v1 _) ?_ | refine FCall.go' (low121 l hl h0) (FZs.v1 _) ?_ | refine FCall.goQ (low121 l hl h0) (FZs.v1 _) ?_
  simp only [Cd.cd103, Tk.t103, base0, base1, base2, base3, Option.isNone_none, Option.isNone_some, Nat.reduceBEq, true_or, or_true, false_or, or_false, Nat.reduceLT, Nat.reduceMod, Nat.reducePow, rmaps, nsucc, List.flatten_cons, List.flatten_nil, Nat.reduceEqDiff, Nat.reduceLeDiff, Nat.reduceAdd, Nat.reduceMul, Nat.reduceSub, ↓reduceIte, reduceCtorEq, decide_true, decide_false]
  exact fin_v rfl
theorem bneZ {l : Nat} (h : l ≠ 0) : ((l : Int) != 0) = true := by simp; omega
theorem setL_len (l : Nat) : (bitsI l).length ≤ 10 := by
  unfold bitsI bitsN; rw [List.length_map]; exact Nat.le_trans (List.length_filter_le _ _) (by simp)
theorem FZ.setV (l : Nat) : FZ (setV l) := FZ.ints _
def intR (x : Int) : List AV := [.v (.int .i64 x)]
theorem FZs.intR (x : Int) : FZs (intR x) := FZs.v1 _
theorem states62 (l : Nat) (hl : l < 1024) : FCall Tryd.prog 62 [uv l] (· = setV l) := by
  simp only [uv]
  refine ACall.enter [0] Cd.fn62 (by simp) ?_
  simp only [Cd.cd62, Tk.t62, base0, base1, base2, base3, Option.isNone_none, Option.isNone_some, Nat.reduceBEq, true_or, or_true, false_or, or_false, Nat.reduceLT, Nat.reduceMod, Nat.reducePow, rmaps, nsucc, List.flatten_cons, List.flatten_nil, Nat.reduceEqDiff, Nat.reduceLeDiff, Nat.reduceAdd, Nat.reduceMul, Nat.reduceSub, ↓reduceIte, reduceCtorEq, decide_true, decide_false]
  refine LWP.loop [] (fun m f H' => ∃ c a done, m = 2 * c ∧ (c < 1024) ∧ (done ++ bitsI c = bitsI l) ∧ (GrowE intR 1 H' a done) ∧ f.t 0 = .v (.int .u64 (c : Nat)) ∧ f.t 3 = a ∧ f.ds = [] ∧ True) ?_ ?_ (m := 2 * (l))
  · exact ⟨l, nilS, [], rfl, (hl), (by simp), (GrowE.nil), rfl, rfl, rfl, trivial⟩
  · rintro m f H' ⟨c, a, done, rfl, hc, hd, hg, f0, f3, hds, hH⟩
    by_cases h0 : c = 0
    · subst h0
      simp only [show (((0 : Nat) : Int) != 0) = false from rfl, f0, f3, hds, Cd.cd62, Tk.t62, base0, base1, base2, base3, Option.isNone_none, Option.isNone_some, Nat.reduceBEq, true_or, or_true, false_or, or_false, Nat.reduceLT, Nat.reduceMod, Nat.reducePow, rmaps, nsucc, List.flatten_cons, List.flatten_nil, Nat.reduceEqDiff, Nat.reduceLeDiff, Nat.reduceAdd, Nat.reduceMul, Nat.reduceSub, ↓reduceIte, reduceCtorEq, decide_true, decide_false]
      have e : done = bitsI l := by rw [← hd]; simp [bitsI, bitsN]
      subst e
      exact ⟨_, _, rfl, hg.view FZs.intR, FZ.setV l, rfl⟩
    · obtain ⟨b1, b2⟩ := bits_step c hc h0
      have e1 : bitsI c = (low c : Int) :: bitsI (c &&& (c - 1)) := by unfold bitsI; rw [b1]; rfl
      have hs : IntKind.u64.wrap ((c : Int) - 1) = ((c - 1 : Nat) : Int) := by rw [wrapU (by omega) (by omega)]; omega
      rcases hg with ⟨rfl, rfl⟩ | ⟨t, rfl, ht⟩
      · simp only [bneZ h0, f0, f3, hds, Cd.cd62, Tk.t62, base0, base1, base2, base3, Option.isNone_none, Option.isNone_some, Nat.reduceBEq, true_or, or_true, false_or, or_false, Nat.reduceLT, Nat.reduceMod, Nat.reducePow, rmaps, nsucc, List.flatten_cons, List.flatten_nil, Nat.reduceEqDiff, Nat.reduceLeDiff, Nat.reduceAdd, Nat.reduceMul, Nat.reduceSub, ↓reduceIte, reduceCtorEq, decide_true, decide_false]
        refine (tz103 c hc h0).go (FZs.v1 _) ?_
        simp only [hs, andU hc (show c - 1 < 1024 by omega), f0, f3, hds, Cd.cd62, Tk.t62, base0, base1, base2, base3, Option.isNone_none, Option.isNone_some, Nat.reduceBEq, true_or, or_true, false_or, or_false, Nat.reduceLT, Nat.reduceMod, Nat.reducePow, rmaps, nsucc, List.flatten_cons, List.flatten_nil, Nat.reduceEqDiff, Nat.reduceLeDiff, Nat.reduceAdd, Nat.reduceMul, Nat.reduceSub, ↓reduceIte, reduceCtorEq, decide_true, decide_false]
        refine ⟨_, Nat.mul_lt_mul_of_pos_left b2 (by omega), c &&& (c - 1), _, [(low c : Int)], rfl, by omega, by rw [← hd, e1]; rfl, GrowE.live (t := H'.next) rfl (by simp [AH.add, AH.tipset]), rfl, rfl⟩
      · have hlen : done.length ≤ 10 := by have := setL_len l; rw [← hd, List.length_append] at this; omega
        simp only [bneZ h0, f0, f3, hds, Cd.cd62, Tk.t62, base0, base1, base2, base3, Option.isNone_none, Option.isNone_some, Nat.reduceBEq, true_or, or_true, false_or, or_false, Nat.reduceLT, Nat.reduceMod, Nat.reducePow, rmaps, nsucc, List.flatten_cons, List.flatten_nil, Nat.reduceEqDiff, Nat.reduceLeDiff, Nat.reduceAdd, Nat.reduceMul, Nat.reduceSub, ↓reduceIte, reduceCtorEq, decide_true, decide_false]
        refine (tz103 c hc h0).go (FZs.v1 _) ?_
        simp only [hs, andU hc (show c - 1 < 1024 by omega), ht, List.length_map, room_of (by_ := 8) (n := done.length + 1) (by omega) (by omega), f0, f3, hds, Cd.cd62, Tk.t62, base0, base1, base2, base3, Option.isNone_none, Option.isNone_some, Nat.reduceBEq, true_or, or_true, false_or, or_false, Nat.reduceLT, Nat.reduceMod, Nat.reducePow, rmaps, nsucc, List.flatten_cons, List.flatten_nil, Nat.reduceEqDiff, Nat.reduceLeDiff, Nat.reduceAdd, Nat.reduceMul, Nat.reduceSub, ↓reduceIte, reduceCtorEq, decide_true, decide_false]
        refine ⟨_, Nat.mul_lt_mul_of_pos_left b2 (by omega), c &&& (c - 1), _, done ++ [(low c : Int)], rfl, by omega, by rw [← hd, e1]; simp, GrowE.live (t := t) (by simp [intR]) (by simp), rfl, rfl⟩
end Go.Proofs.YtchpcjmgifnmdaaDoor

/- Walks: small functions; systems are checked. -/
namespace Go.Proofs.YtchpcjmgifnmdaaDoor
open Go Go.Proofs.YtchpcjmgifnmdaaDoor.Ab
set_option maxRecDepth 100000
set_option linter.unusedSimpArgs false

theorem allS {p : Nat → Prop} {i : Nat} (h : ∀ j, j < i → p j) (hi : p i) : ∀ j, j < i + 1 → p j := fun j hj => by
  rcases Nat.lt_succ_iff_lt_or_eq.mp hj with h' | h'
  · exact h j h'
  · subst h'; exact hi
theorem ltT {i n : Nat} (h : i < n) : decide ((i : Int) < (n : Int)) = true := decide_eq_true (by omega)
theorem ltF {i n : Nat} (h : ¬ i < n) : decide ((i : Int) < (n : Int)) = false := decide_eq_false (by omega)
theorem inR {i n : Nat} (h : i < n) : (0 ≤ (i : Int) ∧ (i : Int) < (n : Int)) = True := by simp; omega
theorem spans66 (n lo hi : Int) : FCall Tryd.prog 66 [.v (.int .i64 n), .v (.int .i64 lo), .v (.int .i64 hi)] (· = .v (.bool (within n lo hi))) := by
  refine ACall.enter [] Cd.fn66 (by simp) ?_
  by_cases h : lo ≤ n <;> simp only [h, decide_true, decide_false, Cd.cd66, Tk.t66, base0, base1, base2, base3, Option.isNone_none, Option.isNone_some, Nat.reduceBEq, true_or, or_true, false_or, or_false, Nat.reduceLT, Nat.reduceMod, Nat.reducePow, rmaps, nsucc, List.flatten_cons, List.flatten_nil, Nat.reduceEqDiff, Nat.reduceLeDiff, Nat.reduceAdd, Nat.reduceMul, Nat.reduceSub, ↓reduceIte, reduceCtorEq, decide_true, decide_false] <;> exact fin_v (by simp [within, h])
theorem within36 (n lo hi : Int) : FCall Tryd.prog 36 [.v (.int .i64 n), .v (.int .i64 lo), .v (.int .i64 hi)] (· = .v (.bool (within n lo hi))) := by
  refine ACall.enter [] Cd.fn36 (by simp) ?_
  by_cases h : lo ≤ n <;> simp only [h, decide_true, decide_false, Cd.cd36, Tk.t36, base0, base1, base2, base3, Option.isNone_none, Option.isNone_some, Nat.reduceBEq, true_or, or_true, false_or, or_false, Nat.reduceLT, Nat.reduceMod, Nat.reducePow, rmaps, nsucc, List.flatten_cons, List.flatten_nil, Nat.reduceEqDiff, Nat.reduceLeDiff, Nat.reduceAdd, Nat.reduceMul, Nat.reduceSub, ↓reduceIte, reduceCtorEq, decide_true, decide_false] <;> exact fin_v (by simp [within, h])
theorem count107 (b : Bool) : FCall Tryd.prog 107 [.v (.bool b)] (· = .v (.int .i64 (if b then 1 else 0))) := by
  refine ACall.enter [] Cd.fn107 (by simp) ?_
  cases b <;> simp only [Cd.cd107, Tk.t107, base0, base1, base2, base3, Option.isNone_none, Option.isNone_some, Nat.reduceBEq, true_or, or_true, false_or, or_false, Nat.reduceLT, Nat.reduceMod, Nat.reducePow, rmaps, nsucc, List.flatten_cons, List.flatten_nil, Nat.reduceEqDiff, Nat.reduceLeDiff, Nat.reduceAdd, Nat.reduceMul, Nat.reduceSub, ↓reduceIte, reduceCtorEq, decide_true, decide_false] <;> exact fin_v (by simp)
theorem unless61 (b : Bool) (e : Int) : FCall Tryd.prog 61 [.v (.bool b), .v (.int .i64 e)] (· = .v (.int .i64 (if b then 0 else e))) := by
  refine ACall.enter [] Cd.fn61 (by simp) ?_
  cases b <;> simp only [Cd.cd61, Tk.t61, base0, base1, base2, base3, Option.isNone_none, Option.isNone_some, Nat.reduceBEq, true_or, or_true, false_or, or_false, Nat.reduceLT, Nat.reduceMod, Nat.reducePow, rmaps, nsucc, List.flatten_cons, List.flatten_nil, Nat.reduceEqDiff, Nat.reduceLeDiff, Nat.reduceAdd, Nat.reduceMul, Nat.reduceSub, ↓reduceIte, reduceCtorEq, decide_true, decide_false] <;> exact fin_v (by simp)
def orL : List Int → Int
  | [] => 0
  | a :: l => if a ≠ 0 then a else orL l
theorem orL_at : ∀ {l : List Int} {i : Nat}, i < l.length → (∀ j, j < i → l.getD j 0 = 0) → l.getD i 0 ≠ 0 → orL l = l.getD i 0
  | [], i, h, _, _ => by simp at h
  | a :: l, 0, _, _, h => by simp only [List.getD_cons_zero] at h ⊢; simp [orL, h]
  | a :: l, i + 1, h, hj, hn => by
    have h0 := hj 0 (by omega)
    simp only [List.getD_cons_zero] at h0
    simp only [List.getD_cons_succ] at hn ⊢
    rw [orL, if_neg (by simp [h0])]
    exact orL_at (by simpa using h) (fun j hj' => by have := hj (j + 1) (by omega); simpa using this) hn
theorem orL_zero : ∀ {l : List Int}, (∀ j, j < l.length → l.getD j 0 = 0) → orL l = 0
  | [], _ => rfl
  | a :: l, h => by
    have h0 := h 0 (by simp)
    simp only [List.getD_cons_zero] at h0
    rw [orL, if_neg (by simp [h0])]
    exact orL_zero fun j hj => by have := h (j + 1) (by simpa using hj); simpa using this
theorem bneT {a : Int} (h : a ≠ 0) : (a != 0) = true := by simpa using h
theorem or105 (l : List Int) (hl : l.length ≤ 100) (tip : Tip) : FCall Tryd.prog 105 [.lst 1 (l.map intR) tip] (· = .v (.int .i64 (orL l))) := by
  refine ACall.enter [] Cd.fn105 (by simp) ?_
  simp only [List.length_map, Cd.cd105, Tk.t105, base0, base1, base2, base3, Option.isNone_none, Option.isNone_some, Nat.reduceBEq, true_or, or_true, false_or, or_false, Nat.reduceLT, Nat.reduceMod, Nat.reducePow, rmaps, nsucc, List.flatten_cons, List.flatten_nil, Nat.reduceEqDiff, Nat.reduceLeDiff, Nat.reduceAdd, Nat.reduceMul, Nat.reduceSub, ↓reduceIte, reduceCtorEq, decide_true, decide_false]
  refine LWP.loop [] (fun m f H' => ∃ i, m = l.length - i ∧ (i ≤ l.length) ∧ (∀ j, j < i → l.getD j 0 = 0) ∧ f.t 3 = .v (.int .i64 0) ∧ f.t 6 = .lst 1 (l.map intR) tip ∧ f.t 7 = .v (.int .i64 (l.length : Nat)) ∧ f.t 8 = .v (.int .i64 (i : Nat)) ∧ f.ds = [] ∧ H' = AH.none) ?_ ?_ (m := l.length - (0))
  · exact ⟨0, rfl, (by omega), (fun j hj => by omega), rfl, rfl, rfl, rfl, rfl, rfl⟩
  · rintro m f H' ⟨i, rfl, hi, hz, f3, f6, f7, f8, hds, rfl⟩
    by_cases hlt : i < l.length
    · by_cases hn : l.getD i 0 = 0
      · simp only [List.length_map, ltT hlt, inR hlt, Int.toNat_natCast, getD_map intR l i hlt, intR, show (l.getD i default != 0) = false from by show (l.getD i 0 != 0) = false; rw [hn]; rfl, f3, f6, f7, f8, hds, Cd.cd105, Tk.t105, base0, base1, base2, base3, Option.isNone_none, Option.isNone_some, Nat.reduceBEq, true_or, or_true, false_or, or_false, Nat.reduceLT, Nat.reduceMod, Nat.reducePow, rmaps, nsucc, List.flatten_cons, List.flatten_nil, Nat.reduceEqDiff, Nat.reduceLeDiff, Nat.reduceAdd, Nat.reduceMul, Nat.reduceSub, ↓reduceIte, reduceCtorEq, decide_true, decide_false]
        refine ⟨_, by omega, i + 1, rfl, by omega, ?_⟩
        (repeat' apply And.intro) <;> first | rfl | (rw [wrapS (by omega)]) | omega | assumption | (exact allS hz hn)
      · simp only [List.length_map, ltT hlt, inR hlt, Int.toNat_natCast, getD_map intR l i hlt, intR, show (l.getD i default != 0) = true from by show (l.getD i 0 != 0) = true; exact bneT hn, f3, f6, f7, f8, hds, Cd.cd105, Tk.t105, base0, base1, base2, base3, Option.isNone_none, Option.isNone_some, Nat.reduceBEq, true_or, or_true, false_or, or_false, Nat.reduceLT, Nat.reduceMod, Nat.reducePow, rmaps, nsucc, List.flatten_cons, List.flatten_nil, Nat.reduceEqDiff, Nat.reduceLeDiff, Nat.reduceAdd, Nat.reduceMul, Nat.reduceSub, ↓reduceIte, reduceCtorEq, decide_true, decide_false]
        exact fin_v (by rw [orL_at hlt hz hn]; rfl)
    · have hi' : i = l.length := by omega
      subst hi'
      simp only [List.length_map, ltF hlt, f3, f6, f7, f8, hds, Cd.cd105, Tk.t105, base0, base1, base2, base3, Option.isNone_none, Option.isNone_some, Nat.reduceBEq, true_or, or_true, false_or, or_false, Nat.reduceLT, Nat.reduceMod, Nat.reducePow, rmaps, nsucc, List.flatten_cons, List.flatten_nil, Nat.reduceEqDiff, Nat.reduceLeDiff, Nat.reduceAdd, Nat.reduceMul, Nat.reduceSub, ↓reduceIte, reduceCtorEq, decide_true, decide_false]
      exact fin_v (by rw [orL_zero hz])
theorem or82 (l : List Int) (hl : l.length ≤ 100) (tip : Tip) : FCall Tryd.prog 82 [.lst 1 (l.map intR) tip] (· = .v (.int .i64 (orL l))) := by
  refine ACall.enter [] Cd.fn82 (by simp) ?_
  simp only [List.length_map, Cd.cd82, Tk.t82, base0, base1, base2, base3, Option.isNone_none, Option.isNone_some, Nat.reduceBEq, true_or, or_true, false_or, or_false, Nat.reduceLT, Nat.reduceMod, Nat.reducePow, rmaps, nsucc, List.flatten_cons, List.flatten_nil, Nat.reduceEqDiff, Nat.reduceLeDiff, Nat.reduceAdd, Nat.reduceMul, Nat.reduceSub, ↓reduceIte, reduceCtorEq, decide_true, decide_false]
  refine LWP.loop [] (fun m f H' => ∃ i, m = l.length - i ∧ (i ≤ l.length) ∧ (∀ j, j < i → l.getD j 0 = 0) ∧ f.t 3 = .v (.int .i64 0) ∧ f.t 6 = .lst 1 (l.map intR) tip ∧ f.t 7 = .v (.int .i64 (l.length : Nat)) ∧ f.t 8 = .v (.int .i64 (i : Nat)) ∧ f.ds = [] ∧ H' = AH.none) ?_ ?_ (m := l.length - (0))
  · exact ⟨0, rfl, (by omega), (fun j hj => by omega), rfl, rfl, rfl, rfl, rfl, rfl⟩
  · rintro m f H' ⟨i, rfl, hi, hz, f3, f6, f7, f8, hds, rfl⟩
    by_cases hlt : i < l.length
    · by_cases hn : l.getD i 0 = 0
      · simp only [List.length_map, ltT hlt, inR hlt, Int.toNat_natCast, getD_map intR l i hlt, intR, show (l.getD i default != 0) = false from by show (l.getD i 0 != 0) = false; rw [hn]; rfl, f3, f6, f7, f8, hds, Cd.cd82, Tk.t82, base0, base1, base2, base3, Option.isNone_none, Option.isNone_some, Nat.reduceBEq, true_or, or_true, false_or, or_false, Nat.reduceLT, Nat.reduceMod, Nat.reducePow, rmaps, nsucc, List.flatten_cons, List.flatten_nil, Nat.reduceEqDiff, Nat.reduceLeDiff, Nat.reduceAdd, Nat.reduceMul, Nat.reduceSub, ↓reduceIte, reduceCtorEq, decide_true, decide_false]
        refine ⟨_, by omega, i + 1, rfl, by omega, ?_⟩
        (repeat' apply And.intro) <;> first | rfl | (rw [wrapS (by omega)]) | omega | assumption | (exact allS hz hn)
      · simp only [List.length_map, ltT hlt, inR hlt, Int.toNat_natCast, getD_map intR l i hlt, intR, show (l.getD i default != 0) = true from by show (l.getD i 0 != 0) = true; exact bneT hn, f3, f6, f7, f8, hds, Cd.cd82, Tk.t82, base0, base1, base2, base3, Option.isNone_none, Option.isNone_some, Nat.reduceBEq, true_or, or_true, false_or, or_false, Nat.reduceLT, Nat.reduceMod, Nat.reducePow, rmaps, nsucc, List.flatten_cons, List.flatten_nil, Nat.reduceEqDiff, Nat.reduceLeDiff, Nat.reduceAdd, Nat.reduceMul, Nat.reduceSub, ↓reduceIte, reduceCtorEq, decide_true, decide_false]
        exact fin_v (by rw [orL_at hlt hz hn]; rfl)
    · have hi' : i = l.length := by omega
      subst hi'
      simp only [List.length_map, ltF hlt, f3, f6, f7, f8, hds, Cd.cd82, Tk.t82, base0, base1, base2, base3, Option.isNone_none, Option.isNone_some, Nat.reduceBEq, true_or, or_true, false_or, or_false, Nat.reduceLT, Nat.reduceMod, Nat.reducePow, rmaps, nsucc, List.flatten_cons, List.flatten_nil, Nat.reduceEqDiff, Nat.reduceLeDiff, Nat.reduceAdd, Nat.reduceMul, Nat.reduceSub, ↓reduceIte, reduceCtorEq, decide_true, decide_false]
      exact fin_v (by rw [orL_zero hz])
theorem nan122 (a : Int) : FCall Tryd.prog 122 [.v (.int .i64 a)] (· = .v (.bool false)) := by
  refine ACall.enter [] Cd.fn122 (by simp) ?_
  simp only [show (a != a) = false from by simp, Cd.cd122, Tk.t122, base0, base1, base2, base3, Option.isNone_none, Option.isNone_some, Nat.reduceBEq, true_or, or_true, false_or, or_false, Nat.reduceLT, Nat.reduceMod, Nat.reducePow, rmaps, nsucc, List.flatten_cons, List.flatten_nil, Nat.reduceEqDiff, Nat.reduceLeDiff, Nat.reduceAdd, Nat.reduceMul, Nat.reduceSub, ↓reduceIte, reduceCtorEq, decide_true, decide_false]
  exact fin_v rfl
theorem cmp106 (a b : Int) : FCall Tryd.prog 106 [.v (.int .i64 a), .v (.int .i64 b)] (· = .v (.int .i64 (cmpI a b))) := by
  refine ACall.enter [] Cd.fn106 (by simp) ?_
  simp only [Cd.cd106, Tk.t106, base0, base1, base2, base3, Option.isNone_none, Option.isNone_some, Nat.reduceBEq, true_or, or_true, false_or, or_false, Nat.reduceLT, Nat.reduceMod, Nat.reducePow, rmaps, nsucc, List.flatten_cons, List.flatten_nil, Nat.reduceEqDiff, Nat.reduceLeDiff, Nat.reduceAdd, Nat.reduceMul, Nat.reduceSub, ↓reduceIte, reduceCtorEq, decide_true, decide_false]
  first | refine FCall.go (nan122 _) (FZs.v1 _) ?_ | refine FCall.go' (nan122 _) (FZs.v1 _) ?_ | refine FCall.goQ (nan122 _) (FZs.v1 _) ?_
  simp only [Cd.cd106, Tk.t106, base0, base1, base2, base3, Option.isNone_none, Option.isNone_some, Nat.reduceBEq, true_or, or_true, false_or, or_false, Nat.reduceLT, Nat.reduceMod, Nat.reducePow, rmaps, nsucc, List.flatten_cons, List.flatten_nil, Nat.reduceEqDiff, Nat.reduceLeDiff, Nat.reduceAdd, Nat.reduceMul, Nat.reduceSub, ↓reduceIte, reduceCtorEq, decide_true, decide_false]
  first | refine FCall.go (nan122 _) (FZs.v1 _) ?_ | refine FCall.go' (nan122 _) (FZs.v1 _) ?_ | refine FCall.goQ (nan122 _) (FZs.v1 _) ?_
  by_cases h1 : a < b
  · simp only [decide_eq_true h1, Cd.cd106, Tk.t106, base0, base1, base2, base3, Option.isNone_none, Option.isNone_some, Nat.reduceBEq, true_or, or_true, false_or, or_false, Nat.reduceLT, Nat.reduceMod, Nat.reducePow, rmaps, nsucc, List.flatten_cons, List.flatten_nil, Nat.reduceEqDiff, Nat.reduceLeDiff, Nat.reduceAdd, Nat.reduceMul, Nat.reduceSub, ↓reduceIte, reduceCtorEq, decide_true, decide_false]
    exact fin_v (by simp [cmpI, h1])
  · by_cases h2 : b < a
    · simp only [decide_eq_false h1, show decide (a > b) = true from decide_eq_true h2, Cd.cd106, Tk.t106, base0, base1, base2, base3, Option.isNone_none, Option.isNone_some, Nat.reduceBEq, true_or, or_true, false_or, or_false, Nat.reduceLT, Nat.reduceMod, Nat.reducePow, rmaps, nsucc, List.flatten_cons, List.flatten_nil, Nat.reduceEqDiff, Nat.reduceLeDiff, Nat.reduceAdd, Nat.reduceMul, Nat.reduceSub, ↓reduceIte, reduceCtorEq, decide_true, decide_false]
      exact fin_v (by simp [cmpI, h1, h2])
    · simp only [decide_eq_false h1, show decide (a > b) = false from decide_eq_false h2, Cd.cd106, Tk.t106, base0, base1, base2, base3, Option.isNone_none, Option.isNone_some, Nat.reduceBEq, true_or, or_true, false_or, or_false, Nat.reduceLT, Nat.reduceMod, Nat.reducePow, rmaps, nsucc, List.flatten_cons, List.flatten_nil, Nat.reduceEqDiff, Nat.reduceLeDiff, Nat.reduceAdd, Nat.reduceMul, Nat.reduceSub, ↓reduceIte, reduceCtorEq, decide_true, decide_false]
      exact fin_v (by simp [cmpI, h1, h2])
theorem FZ.intL {l : List Int} {tip : Tip} (ht : tip.stays = true) : FZ (.lst 1 (l.map intR) tip) := FZ.lst ht fun r hr => by
  obtain ⟨x, _, rfl⟩ := List.mem_map.mp hr
  exact FZs.v1 _
theorem orL4 (a b c d : Int) : orL [a, b, c, d] = orI a (orI b (orI c d)) := by
  simp only [orL, orI]
  by_cases h1 : a = 0 <;> by_cases h2 : b = 0 <;> by_cases h3 : c = 0 <;> by_cases h4 : d = 0 <;> simp [h1, h2, h3, h4]
theorem cmpMv67 (a b : Mv) : FCall Tryd.prog 67 [mvV a, mvV b] (· = .v (.int .i64 (cmpMv a b))) := by
  simp only [mvV, mvR]
  refine ACall.enter [] Cd.fn67 (by simp) ?_
  simp only [Cd.cd67, Tk.t67, base0, base1, base2, base3, Option.isNone_none, Option.isNone_some, Nat.reduceBEq, true_or, or_true, false_or, or_false, Nat.reduceLT, Nat.reduceMod, Nat.reducePow, rmaps, nsucc, List.flatten_cons, List.flatten_nil, Nat.reduceEqDiff, Nat.reduceLeDiff, Nat.reduceAdd, Nat.reduceMul, Nat.reduceSub, ↓reduceIte, reduceCtorEq, decide_true, decide_false]
  first | refine FCall.go (cmp106 _ _) (FZs.v2 _ _) ?_ | refine FCall.go' (cmp106 _ _) (FZs.v2 _ _) ?_ | refine FCall.goQ (cmp106 _ _) (FZs.v2 _ _) ?_
  simp only [Cd.cd67, Tk.t67, base0, base1, base2, base3, Option.isNone_none, Option.isNone_some, Nat.reduceBEq, true_or, or_true, false_or, or_false, Nat.reduceLT, Nat.reduceMod, Nat.reducePow, rmaps, nsucc, List.flatten_cons, List.flatten_nil, Nat.reduceEqDiff, Nat.reduceLeDiff, Nat.reduceAdd, Nat.reduceMul, Nat.reduceSub, ↓reduceIte, reduceCtorEq, decide_true, decide_false]
  first | refine FCall.go (cmp106 _ _) (FZs.v2 _ _) ?_ | refine FCall.go' (cmp106 _ _) (FZs.v2 _ _) ?_ | refine FCall.goQ (cmp106 _ _) (FZs.v2 _ _) ?_
  simp only [Cd.cd67, Tk.t67, base0, base1, base2, base3, Option.isNone_none, Option.isNone_some, Nat.reduceBEq, true_or, or_true, false_or, or_false, Nat.reduceLT, Nat.reduceMod, Nat.reducePow, rmaps, nsucc, List.flatten_cons, List.flatten_nil, Nat.reduceEqDiff, Nat.reduceLeDiff, Nat.reduceAdd, Nat.reduceMul, Nat.reduceSub, ↓reduceIte, reduceCtorEq, decide_true, decide_false]
  first | refine FCall.go (cmp106 _ _) (FZs.v2 _ _) ?_ | refine FCall.go' (cmp106 _ _) (FZs.v2 _ _) ?_ | refine FCall.goQ (cmp106 _ _) (FZs.v2 _ _) ?_
  simp only [Cd.cd67, Tk.t67, base0, base1, base2, base3, Option.isNone_none, Option.isNone_some, Nat.reduceBEq, true_or, or_true, false_or, or_false, Nat.reduceLT, Nat.reduceMod, Nat.reducePow, rmaps, nsucc, List.flatten_cons, List.flatten_nil, Nat.reduceEqDiff, Nat.reduceLeDiff, Nat.reduceAdd, Nat.reduceMul, Nat.reduceSub, ↓reduceIte, reduceCtorEq, decide_true, decide_false]
  first | refine FCall.go (cmp106 _ _) (FZs.v2 _ _) ?_ | refine FCall.go' (cmp106 _ _) (FZs.v2 _ _) ?_ | refine FCall.goQ (cmp106 _ _) (FZs.v2 _ _) ?_
  simp only [Cd.cd67, Tk.t67, base0, base1, base2, base3, Option.isNone_none, Option.isNone_some, Nat.reduceBEq, true_or, or_true, false_or, or_false, Nat.reduceLT, Nat.reduceMod, Nat.reducePow, rmaps, nsucc, List.flatten_cons, List.flatten_nil, Nat.reduceEqDiff, Nat.reduceLeDiff, Nat.reduceAdd, Nat.reduceMul, Nat.reduceSub, ↓reduceIte, reduceCtorEq, decide_true, decide_false]
  have h := or105 [cmpI a.fr b.fr, cmpI a.kd b.kd, cmpI a.lb b.lb, cmpI a.to b.to] (by simp) .full
  have hz : FZ _ := FZ.intL (l := [cmpI a.fr b.fr, cmpI a.kd b.kd, cmpI a.lb b.lb, cmpI a.to b.to]) (tip := .full) rfl
  simp only [List.map_cons, List.map_nil, intR] at h hz
  first | refine FCall.go h (FZs.one hz) ?_ | refine FCall.go' h (FZs.one hz) ?_ | refine FCall.goQ h (FZs.one hz) ?_
  simp only [Cd.cd67, Tk.t67, base0, base1, base2, base3, Option.isNone_none, Option.isNone_some, Nat.reduceBEq, true_or, or_true, false_or, or_false, Nat.reduceLT, Nat.reduceMod, Nat.reducePow, rmaps, nsucc, List.flatten_cons, List.flatten_nil, Nat.reduceEqDiff, Nat.reduceLeDiff, Nat.reduceAdd, Nat.reduceMul, Nat.reduceSub, ↓reduceIte, reduceCtorEq, decide_true, decide_false]
  exact fin_v (by rw [orL4]; rfl)
end Go.Proofs.YtchpcjmgifnmdaaDoor

/- Walks: systems are checked, by the program and by the reference. -/
namespace Go.Proofs.YtchpcjmgifnmdaaDoor
open Go Go.Proofs.YtchpcjmgifnmdaaDoor.Ab
set_option maxRecDepth 100000
set_option linter.unusedSimpArgs false

theorem check_head {x : Re} (h : headErr x = true) : checkR x = (0, 3) := by unfold checkR; rw [if_pos h]
theorem check_large {x : Re} (h : headErr x = false) (h2 : 80 < x.mv.length) : checkR x = (0, 2) := by unfold checkR; rw [if_neg (by simp [h]), if_pos h2]
theorem check_move {x : Re} (h : headErr x = false) (h2 : ¬ 80 < x.mv.length) {i : Nat} (hi : i < x.mv.length) (hz : ∀ j, j < i → mvErr x j = 0) {e : Int} (he : mvErr x i = e) (hn : e ≠ 0) : checkR x = ((i : Int), e) := by
  unfold checkR
  rw [if_neg (by simp [h]), if_neg h2, firstIx_some hi (by simpa [he] using hn) fun j hj => by show (mvErr x j != 0) = false; rw [hz j hj]; rfl]
  simp [he]
theorem check_ok {x : Re} (h : headErr x = false) (h2 : ¬ 80 < x.mv.length) (hz : ∀ j, j < x.mv.length → mvErr x j = 0) : checkR x = (0, 0) := by
  unfold checkR
  rw [if_neg (by simp [h]), if_neg h2, firstIx_none fun j hj => by show (mvErr x j != 0) = false; rw [hz j hj]; rfl]
theorem mvErr_kind {x : Re} {i : Nat} (h : within (x.mv.getD i default).kd 0 2 = false) : mvErr x i = 4 := by
  unfold mvErr
  generalize x.mv.getD i default = m at *
  simp only [h, Bool.not_false, if_true]
theorem mvErr_range {x : Re} {i : Nat} (h : within (x.mv.getD i default).kd 0 2 = true)
    (h2 : within (x.mv.getD i default).fr 0 (IntKind.i64.wrap (x.st - 1)) = false ∨ within (x.mv.getD i default).to 0 (IntKind.i64.wrap (x.st - 1)) = false ∨ within (x.mv.getD i default).lb 0 (IntKind.i64.wrap (labels x (x.mv.getD i default) - 1)) = false) : mvErr x i = 3 := by
  unfold mvErr
  generalize x.mv.getD i default = m at *
  simp only [h, Bool.not_true, Bool.false_eq_true, if_false]
  rw [if_pos]
  rcases h2 with h | h | h <;> simp [h]
theorem mvErr_ord {x : Re} {i : Nat} (h : within (x.mv.getD i default).kd 0 2 = true)
    (h2 : within (x.mv.getD i default).fr 0 (IntKind.i64.wrap (x.st - 1)) = true) (h3 : within (x.mv.getD i default).to 0 (IntKind.i64.wrap (x.st - 1)) = true) (h4 : within (x.mv.getD i default).lb 0 (IntKind.i64.wrap (labels x (x.mv.getD i default) - 1)) = true) :
    mvErr x i = if decide (0 < i) && decide (0 ≤ cmpMv (x.mv.getD (i - 1) default) (x.mv.getD i default)) then 14 else 0 := by
  unfold mvErr
  simp only [h, h2, h3, h4, Bool.not_true, Bool.false_eq_true, if_false, Bool.or_false]
theorem kd_in {k : Int} : within k 0 2 = true ↔ k = 0 ∨ k = 1 ∨ k = 2 := by rw [within_iff]; omega
theorem kd_out {k : Int} (h0 : k ≠ 0) (h1 : k ≠ 1) (h2 : k ≠ 2) : within k 0 2 = false := by
  cases h : within k 0 2 with
  | false => rfl
  | true => rw [kd_in] at h; omega
set_option maxHeartbeats 2000000 in
theorem check23 (x : Re) : FCall Tryd.prog 23 [reV x] (· = .tup [.v (.int .i64 (checkR x).1), .v (.int .i64 (checkR x).2)]) := by
  simp only [reV, reL, mvsV]
  refine ACall.enter [] Cd.fn23 (by simp) ?_
  simp only [Cd.cd23, Tk.t23, base0, base1, base2, base3, Option.isNone_none, Option.isNone_some, Nat.reduceBEq, true_or, or_true, false_or, or_false, Nat.reduceLT, Nat.reduceMod, Nat.reducePow, rmaps, nsucc, List.flatten_cons, List.flatten_nil, Nat.reduceEqDiff, Nat.reduceLeDiff, Nat.reduceAdd, Nat.reduceMul, Nat.reduceSub, ↓reduceIte, reduceCtorEq, decide_true, decide_false]
  first | refine FCall.go (spans66 _ _ _) (FZs.v3 _ _ _) ?_ | refine FCall.go' (spans66 _ _ _) (FZs.v3 _ _ _) ?_ | refine FCall.goQ (spans66 _ _ _) (FZs.v3 _ _ _) ?_
  cases h1 : within x.st 1 10
  · simp only [Cd.cd23, Tk.t23, base0, base1, base2, base3, Option.isNone_none, Option.isNone_some, Nat.reduceBEq, true_or, or_true, false_or, or_false, Nat.reduceLT, Nat.reduceMod, Nat.reducePow, rmaps, nsucc, List.flatten_cons, List.flatten_nil, Nat.reduceEqDiff, Nat.reduceLeDiff, Nat.reduceAdd, Nat.reduceMul, Nat.reduceSub, ↓reduceIte, reduceCtorEq, decide_true, decide_false]
    exact fin_p (check_head (by simp [headErr, h1]))
  simp only [Cd.cd23, Tk.t23, base0, base1, base2, base3, Option.isNone_none, Option.isNone_some, Nat.reduceBEq, true_or, or_true, false_or, or_false, Nat.reduceLT, Nat.reduceMod, Nat.reducePow, rmaps, nsucc, List.flatten_cons, List.flatten_nil, Nat.reduceEqDiff, Nat.reduceLeDiff, Nat.reduceAdd, Nat.reduceMul, Nat.reduceSub, ↓reduceIte, reduceCtorEq, decide_true, decide_false]
  first | refine FCall.go (spans66 _ _ _) (FZs.v3 _ _ _) ?_ | refine FCall.go' (spans66 _ _ _) (FZs.v3 _ _ _) ?_ | refine FCall.goQ (spans66 _ _ _) (FZs.v3 _ _ _) ?_
  cases h2 : within x.s0 0 (IntKind.i64.wrap (x.st - 1))
  · simp only [Cd.cd23, Tk.t23, base0, base1, base2, base3, Option.isNone_none, Option.isNone_some, Nat.reduceBEq, true_or, or_true, false_or, or_false, Nat.reduceLT, Nat.reduceMod, Nat.reducePow, rmaps, nsucc, List.flatten_cons, List.flatten_nil, Nat.reduceEqDiff, Nat.reduceLeDiff, Nat.reduceAdd, Nat.reduceMul, Nat.reduceSub, ↓reduceIte, reduceCtorEq, decide_true, decide_false]
    exact fin_p (check_head (by simp [headErr, h2]))
  simp only [Cd.cd23, Tk.t23, base0, base1, base2, base3, Option.isNone_none, Option.isNone_some, Nat.reduceBEq, true_or, or_true, false_or, or_false, Nat.reduceLT, Nat.reduceMod, Nat.reducePow, rmaps, nsucc, List.flatten_cons, List.flatten_nil, Nat.reduceEqDiff, Nat.reduceLeDiff, Nat.reduceAdd, Nat.reduceMul, Nat.reduceSub, ↓reduceIte, reduceCtorEq, decide_true, decide_false]
  first | refine FCall.go (spans66 _ _ _) (FZs.v3 _ _ _) ?_ | refine FCall.go' (spans66 _ _ _) (FZs.v3 _ _ _) ?_ | refine FCall.goQ (spans66 _ _ _) (FZs.v3 _ _ _) ?_
  cases h3 : within x.inp 0 4
  · simp only [Cd.cd23, Tk.t23, base0, base1, base2, base3, Option.isNone_none, Option.isNone_some, Nat.reduceBEq, true_or, or_true, false_or, or_false, Nat.reduceLT, Nat.reduceMod, Nat.reducePow, rmaps, nsucc, List.flatten_cons, List.flatten_nil, Nat.reduceEqDiff, Nat.reduceLeDiff, Nat.reduceAdd, Nat.reduceMul, Nat.reduceSub, ↓reduceIte, reduceCtorEq, decide_true, decide_false]
    exact fin_p (check_head (by simp [headErr, h3]))
  simp only [Cd.cd23, Tk.t23, base0, base1, base2, base3, Option.isNone_none, Option.isNone_some, Nat.reduceBEq, true_or, or_true, false_or, or_false, Nat.reduceLT, Nat.reduceMod, Nat.reducePow, rmaps, nsucc, List.flatten_cons, List.flatten_nil, Nat.reduceEqDiff, Nat.reduceLeDiff, Nat.reduceAdd, Nat.reduceMul, Nat.reduceSub, ↓reduceIte, reduceCtorEq, decide_true, decide_false]
  first | refine FCall.go (spans66 _ _ _) (FZs.v3 _ _ _) ?_ | refine FCall.go' (spans66 _ _ _) (FZs.v3 _ _ _) ?_ | refine FCall.goQ (spans66 _ _ _) (FZs.v3 _ _ _) ?_
  cases h4 : within x.out 0 4
  · simp only [Cd.cd23, Tk.t23, base0, base1, base2, base3, Option.isNone_none, Option.isNone_some, Nat.reduceBEq, true_or, or_true, false_or, or_false, Nat.reduceLT, Nat.reduceMod, Nat.reducePow, rmaps, nsucc, List.flatten_cons, List.flatten_nil, Nat.reduceEqDiff, Nat.reduceLeDiff, Nat.reduceAdd, Nat.reduceMul, Nat.reduceSub, ↓reduceIte, reduceCtorEq, decide_true, decide_false]
    exact fin_p (check_head (by simp [headErr, h4]))
  have hh : headErr x = false := by simp [headErr, h1, h2, h3, h4]
  by_cases h5 : 80 < x.mv.length
  · simp only [List.length_map, show decide (((x.mv.length : Nat) : Int) > 80) = true from decide_eq_true (by omega), Cd.cd23, Tk.t23, base0, base1, base2, base3, Option.isNone_none, Option.isNone_some, Nat.reduceBEq, true_or, or_true, false_or, or_false, Nat.reduceLT, Nat.reduceMod, Nat.reducePow, rmaps, nsucc, List.flatten_cons, List.flatten_nil, Nat.reduceEqDiff, Nat.reduceLeDiff, Nat.reduceAdd, Nat.reduceMul, Nat.reduceSub, ↓reduceIte, reduceCtorEq, decide_true, decide_false]
    exact fin_p (check_large hh h5)
  simp only [List.length_map, show decide (((x.mv.length : Nat) : Int) > 80) = false from decide_eq_false (by omega), Cd.cd23, Tk.t23, base0, base1, base2, base3, Option.isNone_none, Option.isNone_some, Nat.reduceBEq, true_or, or_true, false_or, or_false, Nat.reduceLT, Nat.reduceMod, Nat.reducePow, rmaps, nsucc, List.flatten_cons, List.flatten_nil, Nat.reduceEqDiff, Nat.reduceLeDiff, Nat.reduceAdd, Nat.reduceMul, Nat.reduceSub, ↓reduceIte, reduceCtorEq, decide_true, decide_false]
  refine LWP.loop [] (fun m f H' => ∃ i, m = x.mv.length - i ∧ (i ≤ x.mv.length) ∧ (∀ j, j < i → mvErr x j = 0) ∧ f.t 1 = .box [.v (.int .i64 x.st), .v (.int .i64 x.s0), .v (.int .i64 x.inp), .v (.int .i64 x.out), .lst 4 (x.mv.map mvR) .unk] ∧ f.t 37 = .lst 4 (x.mv.map mvR) .unk ∧ f.t 38 = .v (.int .i64 (x.mv.length : Nat)) ∧ f.t 39 = .v (.int .i64 (i : Nat)) ∧ f.ds = [] ∧ True) ?_ ?_ (m := x.mv.length - (0))
  · exact ⟨0, rfl, (by omega), (fun j hj => by omega), rfl, rfl, rfl, rfl, rfl, trivial⟩
  · rintro m f H' ⟨i, rfl, hi, hz, f1, f37, f38, f39, hds, hH⟩
    by_cases hlt : i < x.mv.length
    · have hg := getD_map mvR x.mv i hlt
      generalize hm : x.mv.getD i default = mi at hg
      have ek : within mi.kd 0 2 = true → ∀ e, (labels x mi = e) → within mi.fr 0 (IntKind.i64.wrap (x.st - 1)) = false ∨ within mi.to 0 (IntKind.i64.wrap (x.st - 1)) = false ∨ within mi.lb 0 (IntKind.i64.wrap (e - 1)) = false → checkR x = ((i : Int), 3) := fun hk e he h => by
        subst he; subst hm
        exact check_move hh h5 hlt hz (mvErr_range hk h) (by omega)
      have fin : ∀ e, labels x mi = e → within mi.kd 0 2 = true → within mi.fr 0 (IntKind.i64.wrap (x.st - 1)) = true → within mi.to 0 (IntKind.i64.wrap (x.st - 1)) = true → within mi.lb 0 (IntKind.i64.wrap (e - 1)) = true →
          mvErr x i = if decide (0 < i) && decide (0 ≤ cmpMv (x.mv.getD (i - 1) default) mi) then 14 else 0 := fun e he a b c d => by
        subst he; subst hm; exact mvErr_ord a b c d
      by_cases k0 : mi.kd = 0
      · simp only [ltT hlt, List.length_map, inR hlt, Int.toNat_natCast, hg, mvR, show (mi.kd == 0) = true from beq_iff_eq.mpr k0, f1, f37, f38, f39, hds, Cd.cd23, Tk.t23, base0, base1, base2, base3, Option.isNone_none, Option.isNone_some, Nat.reduceBEq, true_or, or_true, false_or, or_false, Nat.reduceLT, Nat.reduceMod, Nat.reducePow, rmaps, nsucc, List.flatten_cons, List.flatten_nil, Nat.reduceEqDiff, Nat.reduceLeDiff, Nat.reduceAdd, Nat.reduceMul, Nat.reduceSub, ↓reduceIte, reduceCtorEq, decide_true, decide_false]
        first | refine FCall.go (spans66 _ _ _) (FZs.v3 _ _ _) ?_ | refine FCall.go' (spans66 _ _ _) (FZs.v3 _ _ _) ?_ | refine FCall.goQ (spans66 _ _ _) (FZs.v3 _ _ _) ?_
        cases r1 : within mi.fr 0 (IntKind.i64.wrap (x.st - 1))
        · simp only [f1, f37, f38, f39, hds, Cd.cd23, Tk.t23, base0, base1, base2, base3, Option.isNone_none, Option.isNone_some, Nat.reduceBEq, true_or, or_true, false_or, or_false, Nat.reduceLT, Nat.reduceMod, Nat.reducePow, rmaps, nsucc, List.flatten_cons, List.flatten_nil, Nat.reduceEqDiff, Nat.reduceLeDiff, Nat.reduceAdd, Nat.reduceMul, Nat.reduceSub, ↓reduceIte, reduceCtorEq, decide_true, decide_false]
          exact fin_p (ek (kd_in.mpr (.inl k0)) x.inp (by unfold labels; rw [if_pos k0]) (.inl r1))
        simp only [f1, f37, f38, f39, hds, Cd.cd23, Tk.t23, base0, base1, base2, base3, Option.isNone_none, Option.isNone_some, Nat.reduceBEq, true_or, or_true, false_or, or_false, Nat.reduceLT, Nat.reduceMod, Nat.reducePow, rmaps, nsucc, List.flatten_cons, List.flatten_nil, Nat.reduceEqDiff, Nat.reduceLeDiff, Nat.reduceAdd, Nat.reduceMul, Nat.reduceSub, ↓reduceIte, reduceCtorEq, decide_true, decide_false]
        first | refine FCall.go (spans66 _ _ _) (FZs.v3 _ _ _) ?_ | refine FCall.go' (spans66 _ _ _) (FZs.v3 _ _ _) ?_ | refine FCall.goQ (spans66 _ _ _) (FZs.v3 _ _ _) ?_
        cases r2 : within mi.to 0 (IntKind.i64.wrap (x.st - 1))
        · simp only [f1, f37, f38, f39, hds, Cd.cd23, Tk.t23, base0, base1, base2, base3, Option.isNone_none, Option.isNone_some, Nat.reduceBEq, true_or, or_true, false_or, or_false, Nat.reduceLT, Nat.reduceMod, Nat.reducePow, rmaps, nsucc, List.flatten_cons, List.flatten_nil, Nat.reduceEqDiff, Nat.reduceLeDiff, Nat.reduceAdd, Nat.reduceMul, Nat.reduceSub, ↓reduceIte, reduceCtorEq, decide_true, decide_false]
          exact fin_p (ek (kd_in.mpr (.inl k0)) x.inp (by unfold labels; rw [if_pos k0]) (.inr (.inl r2)))
        simp only [f1, f37, f38, f39, hds, Cd.cd23, Tk.t23, base0, base1, base2, base3, Option.isNone_none, Option.isNone_some, Nat.reduceBEq, true_or, or_true, false_or, or_false, Nat.reduceLT, Nat.reduceMod, Nat.reducePow, rmaps, nsucc, List.flatten_cons, List.flatten_nil, Nat.reduceEqDiff, Nat.reduceLeDiff, Nat.reduceAdd, Nat.reduceMul, Nat.reduceSub, ↓reduceIte, reduceCtorEq, decide_true, decide_false]
        first | refine FCall.go (spans66 _ _ _) (FZs.v3 _ _ _) ?_ | refine FCall.go' (spans66 _ _ _) (FZs.v3 _ _ _) ?_ | refine FCall.goQ (spans66 _ _ _) (FZs.v3 _ _ _) ?_
        cases r3 : within mi.lb 0 (IntKind.i64.wrap (x.inp - 1))
        · simp only [f1, f37, f38, f39, hds, Cd.cd23, Tk.t23, base0, base1, base2, base3, Option.isNone_none, Option.isNone_some, Nat.reduceBEq, true_or, or_true, false_or, or_false, Nat.reduceLT, Nat.reduceMod, Nat.reducePow, rmaps, nsucc, List.flatten_cons, List.flatten_nil, Nat.reduceEqDiff, Nat.reduceLeDiff, Nat.reduceAdd, Nat.reduceMul, Nat.reduceSub, ↓reduceIte, reduceCtorEq, decide_true, decide_false]
          exact fin_p (ek (kd_in.mpr (.inl k0)) x.inp (by unfold labels; rw [if_pos k0]) (.inr (.inr r3)))
        have hf := fin x.inp (by unfold labels; rw [if_pos k0]) (kd_in.mpr (.inl k0)) r1 r2 r3
        by_cases hi0 : 0 < i
        · have hl1 : i - 1 < x.mv.length := by omega
          have hw : IntKind.i64.wrap ((i : Int) - 1) = ((i - 1 : Nat) : Int) := by rw [wrapI (by omega) (by omega)]; omega
          have hg1 := getD_map mvR x.mv (i - 1) hl1
          simp only [List.length_map, show decide (((i : Nat) : Int) > 0) = true from decide_eq_true (by omega), hw, inR hl1, Int.toNat_natCast, hg1, mvR, f1, f37, f38, f39, hds, Cd.cd23, Tk.t23, base0, base1, base2, base3, Option.isNone_none, Option.isNone_some, Nat.reduceBEq, true_or, or_true, false_or, or_false, Nat.reduceLT, Nat.reduceMod, Nat.reducePow, rmaps, nsucc, List.flatten_cons, List.flatten_nil, Nat.reduceEqDiff, Nat.reduceLeDiff, Nat.reduceAdd, Nat.reduceMul, Nat.reduceSub, ↓reduceIte, reduceCtorEq, decide_true, decide_false]
          refine (cmpMv67 (x.mv.getD (i - 1) default) mi).go' (FZs.two (FZ.mvV _) (FZ.mvV _)) ?_
          by_cases hc : 0 ≤ cmpMv (x.mv.getD (i - 1) default) mi
          · simp only [show decide (cmpMv (x.mv.getD (i - 1) default) mi ≥ 0) = true from decide_eq_true hc, f1, f37, f38, f39, hds, Cd.cd23, Tk.t23, base0, base1, base2, base3, Option.isNone_none, Option.isNone_some, Nat.reduceBEq, true_or, or_true, false_or, or_false, Nat.reduceLT, Nat.reduceMod, Nat.reducePow, rmaps, nsucc, List.flatten_cons, List.flatten_nil, Nat.reduceEqDiff, Nat.reduceLeDiff, Nat.reduceAdd, Nat.reduceMul, Nat.reduceSub, ↓reduceIte, reduceCtorEq, decide_true, decide_false]
            exact fin_p (check_move hh h5 hlt hz (by rw [hf, decide_eq_true hi0, decide_eq_true hc]; rfl) (by omega))
          · simp only [show decide (cmpMv (x.mv.getD (i - 1) default) mi ≥ 0) = false from decide_eq_false hc, f1, f37, f38, f39, hds, Cd.cd23, Tk.t23, base0, base1, base2, base3, Option.isNone_none, Option.isNone_some, Nat.reduceBEq, true_or, or_true, false_or, or_false, Nat.reduceLT, Nat.reduceMod, Nat.reducePow, rmaps, nsucc, List.flatten_cons, List.flatten_nil, Nat.reduceEqDiff, Nat.reduceLeDiff, Nat.reduceAdd, Nat.reduceMul, Nat.reduceSub, ↓reduceIte, reduceCtorEq, decide_true, decide_false]
            refine ⟨_, by omega, i + 1, rfl, by omega, ?_⟩
            (repeat' apply And.intro) <;> first | rfl | (rw [wrapS (by omega)]) | omega | assumption | (exact allS hz (by rw [hf, decide_eq_false hc]; simp))
        · simp only [show decide (((i : Nat) : Int) > 0) = false from decide_eq_false (by omega), f1, f37, f38, f39, hds, Cd.cd23, Tk.t23, base0, base1, base2, base3, Option.isNone_none, Option.isNone_some, Nat.reduceBEq, true_or, or_true, false_or, or_false, Nat.reduceLT, Nat.reduceMod, Nat.reducePow, rmaps, nsucc, List.flatten_cons, List.flatten_nil, Nat.reduceEqDiff, Nat.reduceLeDiff, Nat.reduceAdd, Nat.reduceMul, Nat.reduceSub, ↓reduceIte, reduceCtorEq, decide_true, decide_false]
          refine ⟨_, by omega, i + 1, rfl, by omega, ?_⟩
          (repeat' apply And.intro) <;> first | rfl | (rw [wrapS (by omega)]) | omega | assumption | (exact allS hz (by rw [hf, decide_eq_false hi0]; simp))
      by_cases k1 : mi.kd = 1
      · simp only [ltT hlt, List.length_map, inR hlt, Int.toNat_natCast, hg, mvR, show (mi.kd == 0) = false from beq_eq_false_iff_ne.mpr k0, show (mi.kd == 1) = true from beq_iff_eq.mpr k1, f1, f37, f38, f39, hds, Cd.cd23, Tk.t23, base0, base1, base2, base3, Option.isNone_none, Option.isNone_some, Nat.reduceBEq, true_or, or_true, false_or, or_false, Nat.reduceLT, Nat.reduceMod, Nat.reducePow, rmaps, nsucc, List.flatten_cons, List.flatten_nil, Nat.reduceEqDiff, Nat.reduceLeDiff, Nat.reduceAdd, Nat.reduceMul, Nat.reduceSub, ↓reduceIte, reduceCtorEq, decide_true, decide_false]
        first | refine FCall.go (spans66 _ _ _) (FZs.v3 _ _ _) ?_ | refine FCall.go' (spans66 _ _ _) (FZs.v3 _ _ _) ?_ | refine FCall.goQ (spans66 _ _ _) (FZs.v3 _ _ _) ?_
        cases r1 : within mi.fr 0 (IntKind.i64.wrap (x.st - 1))
        · simp only [f1, f37, f38, f39, hds, Cd.cd23, Tk.t23, base0, base1, base2, base3, Option.isNone_none, Option.isNone_some, Nat.reduceBEq, true_or, or_true, false_or, or_false, Nat.reduceLT, Nat.reduceMod, Nat.reducePow, rmaps, nsucc, List.flatten_cons, List.flatten_nil, Nat.reduceEqDiff, Nat.reduceLeDiff, Nat.reduceAdd, Nat.reduceMul, Nat.reduceSub, ↓reduceIte, reduceCtorEq, decide_true, decide_false]
          exact fin_p (ek (kd_in.mpr (.inr (.inl k1))) x.out (by unfold labels; rw [if_neg k0, if_pos k1]) (.inl r1))
        simp only [f1, f37, f38, f39, hds, Cd.cd23, Tk.t23, base0, base1, base2, base3, Option.isNone_none, Option.isNone_some, Nat.reduceBEq, true_or, or_true, false_or, or_false, Nat.reduceLT, Nat.reduceMod, Nat.reducePow, rmaps, nsucc, List.flatten_cons, List.flatten_nil, Nat.reduceEqDiff, Nat.reduceLeDiff, Nat.reduceAdd, Nat.reduceMul, Nat.reduceSub, ↓reduceIte, reduceCtorEq, decide_true, decide_false]
        first | refine FCall.go (spans66 _ _ _) (FZs.v3 _ _ _) ?_ | refine FCall.go' (spans66 _ _ _) (FZs.v3 _ _ _) ?_ | refine FCall.goQ (spans66 _ _ _) (FZs.v3 _ _ _) ?_
        cases r2 : within mi.to 0 (IntKind.i64.wrap (x.st - 1))
        · simp only [f1, f37, f38, f39, hds, Cd.cd23, Tk.t23, base0, base1, base2, base3, Option.isNone_none, Option.isNone_some, Nat.reduceBEq, true_or, or_true, false_or, or_false, Nat.reduceLT, Nat.reduceMod, Nat.reducePow, rmaps, nsucc, List.flatten_cons, List.flatten_nil, Nat.reduceEqDiff, Nat.reduceLeDiff, Nat.reduceAdd, Nat.reduceMul, Nat.reduceSub, ↓reduceIte, reduceCtorEq, decide_true, decide_false]
          exact fin_p (ek (kd_in.mpr (.inr (.inl k1))) x.out (by unfold labels; rw [if_neg k0, if_pos k1]) (.inr (.inl r2)))
        simp only [f1, f37, f38, f39, hds, Cd.cd23, Tk.t23, base0, base1, base2, base3, Option.isNone_none, Option.isNone_some, Nat.reduceBEq, true_or, or_true, false_or, or_false, Nat.reduceLT, Nat.reduceMod, Nat.reducePow, rmaps, nsucc, List.flatten_cons, List.flatten_nil, Nat.reduceEqDiff, Nat.reduceLeDiff, Nat.reduceAdd, Nat.reduceMul, Nat.reduceSub, ↓reduceIte, reduceCtorEq, decide_true, decide_false]
        first | refine FCall.go (spans66 _ _ _) (FZs.v3 _ _ _) ?_ | refine FCall.go' (spans66 _ _ _) (FZs.v3 _ _ _) ?_ | refine FCall.goQ (spans66 _ _ _) (FZs.v3 _ _ _) ?_
        cases r3 : within mi.lb 0 (IntKind.i64.wrap (x.out - 1))
        · simp only [f1, f37, f38, f39, hds, Cd.cd23, Tk.t23, base0, base1, base2, base3, Option.isNone_none, Option.isNone_some, Nat.reduceBEq, true_or, or_true, false_or, or_false, Nat.reduceLT, Nat.reduceMod, Nat.reducePow, rmaps, nsucc, List.flatten_cons, List.flatten_nil, Nat.reduceEqDiff, Nat.reduceLeDiff, Nat.reduceAdd, Nat.reduceMul, Nat.reduceSub, ↓reduceIte, reduceCtorEq, decide_true, decide_false]
          exact fin_p (ek (kd_in.mpr (.inr (.inl k1))) x.out (by unfold labels; rw [if_neg k0, if_pos k1]) (.inr (.inr r3)))
        have hf := fin x.out (by unfold labels; rw [if_neg k0, if_pos k1]) (kd_in.mpr (.inr (.inl k1))) r1 r2 r3
        by_cases hi0 : 0 < i
        · have hl1 : i - 1 < x.mv.length := by omega
          have hw : IntKind.i64.wrap ((i : Int) - 1) = ((i - 1 : Nat) : Int) := by rw [wrapI (by omega) (by omega)]; omega
          have hg1 := getD_map mvR x.mv (i - 1) hl1
          simp only [List.length_map, show decide (((i : Nat) : Int) > 0) = true from decide_eq_true (by omega), hw, inR hl1, Int.toNat_natCast, hg1, mvR, f1, f37, f38, f39, hds, Cd.cd23, Tk.t23, base0, base1, base2, base3, Option.isNone_none, Option.isNone_some, Nat.reduceBEq, true_or, or_true, false_or, or_false, Nat.reduceLT, Nat.reduceMod, Nat.reducePow, rmaps, nsucc, List.flatten_cons, List.flatten_nil, Nat.reduceEqDiff, Nat.reduceLeDiff, Nat.reduceAdd, Nat.reduceMul, Nat.reduceSub, ↓reduceIte, reduceCtorEq, decide_true, decide_false]
          refine (cmpMv67 (x.mv.getD (i - 1) default) mi).go' (FZs.two (FZ.mvV _) (FZ.mvV _)) ?_
          by_cases hc : 0 ≤ cmpMv (x.mv.getD (i - 1) default) mi
          · simp only [show decide (cmpMv (x.mv.getD (i - 1) default) mi ≥ 0) = true from decide_eq_true hc, f1, f37, f38, f39, hds, Cd.cd23, Tk.t23, base0, base1, base2, base3, Option.isNone_none, Option.isNone_some, Nat.reduceBEq, true_or, or_true, false_or, or_false, Nat.reduceLT, Nat.reduceMod, Nat.reducePow, rmaps, nsucc, List.flatten_cons, List.flatten_nil, Nat.reduceEqDiff, Nat.reduceLeDiff, Nat.reduceAdd, Nat.reduceMul, Nat.reduceSub, ↓reduceIte, reduceCtorEq, decide_true, decide_false]
            exact fin_p (check_move hh h5 hlt hz (by rw [hf, decide_eq_true hi0, decide_eq_true hc]; rfl) (by omega))
          · simp only [show decide (cmpMv (x.mv.getD (i - 1) default) mi ≥ 0) = false from decide_eq_false hc, f1, f37, f38, f39, hds, Cd.cd23, Tk.t23, base0, base1, base2, base3, Option.isNone_none, Option.isNone_some, Nat.reduceBEq, true_or, or_true, false_or, or_false, Nat.reduceLT, Nat.reduceMod, Nat.reducePow, rmaps, nsucc, List.flatten_cons, List.flatten_nil, Nat.reduceEqDiff, Nat.reduceLeDiff, Nat.reduceAdd, Nat.reduceMul, Nat.reduceSub, ↓reduceIte, reduceCtorEq, decide_true, decide_false]
            refine ⟨_, by omega, i + 1, rfl, by omega, ?_⟩
            (repeat' apply And.intro) <;> first | rfl | (rw [wrapS (by omega)]) | omega | assumption | (exact allS hz (by rw [hf, decide_eq_false hc]; simp))
        · simp only [show decide (((i : Nat) : Int) > 0) = false from decide_eq_false (by omega), f1, f37, f38, f39, hds, Cd.cd23, Tk.t23, base0, base1, base2, base3, Option.isNone_none, Option.isNone_some, Nat.reduceBEq, true_or, or_true, false_or, or_false, Nat.reduceLT, Nat.reduceMod, Nat.reducePow, rmaps, nsucc, List.flatten_cons, List.flatten_nil, Nat.reduceEqDiff, Nat.reduceLeDiff, Nat.reduceAdd, Nat.reduceMul, Nat.reduceSub, ↓reduceIte, reduceCtorEq, decide_true, decide_false]
          refine ⟨_, by omega, i + 1, rfl, by omega, ?_⟩
          (repeat' apply And.intro) <;> first | rfl | (rw [wrapS (by omega)]) | omega | assumption | (exact allS hz (by rw [hf, decide_eq_false hi0]; simp))
      by_cases k2 : mi.kd = 2
      · simp only [ltT hlt, List.length_map, inR hlt, Int.toNat_natCast, hg, mvR, show (mi.kd == 0) = false from beq_eq_false_iff_ne.mpr k0, show (mi.kd == 1) = false from beq_eq_false_iff_ne.mpr k1, show (mi.kd == 2) = true from beq_iff_eq.mpr k2, f1, f37, f38, f39, hds, Cd.cd23, Tk.t23, base0, base1, base2, base3, Option.isNone_none, Option.isNone_some, Nat.reduceBEq, true_or, or_true, false_or, or_false, Nat.reduceLT, Nat.reduceMod, Nat.reducePow, rmaps, nsucc, List.flatten_cons, List.flatten_nil, Nat.reduceEqDiff, Nat.reduceLeDiff, Nat.reduceAdd, Nat.reduceMul, Nat.reduceSub, ↓reduceIte, reduceCtorEq, decide_true, decide_false]
        first | refine FCall.go (spans66 _ _ _) (FZs.v3 _ _ _) ?_ | refine FCall.go' (spans66 _ _ _) (FZs.v3 _ _ _) ?_ | refine FCall.goQ (spans66 _ _ _) (FZs.v3 _ _ _) ?_
        cases r1 : within mi.fr 0 (IntKind.i64.wrap (x.st - 1))
        · simp only [f1, f37, f38, f39, hds, Cd.cd23, Tk.t23, base0, base1, base2, base3, Option.isNone_none, Option.isNone_some, Nat.reduceBEq, true_or, or_true, false_or, or_false, Nat.reduceLT, Nat.reduceMod, Nat.reducePow, rmaps, nsucc, List.flatten_cons, List.flatten_nil, Nat.reduceEqDiff, Nat.reduceLeDiff, Nat.reduceAdd, Nat.reduceMul, Nat.reduceSub, ↓reduceIte, reduceCtorEq, decide_true, decide_false]
          exact fin_p (ek (kd_in.mpr (.inr (.inr k2))) 1 (by unfold labels; rw [if_neg k0, if_neg k1]) (.inl r1))
        simp only [f1, f37, f38, f39, hds, Cd.cd23, Tk.t23, base0, base1, base2, base3, Option.isNone_none, Option.isNone_some, Nat.reduceBEq, true_or, or_true, false_or, or_false, Nat.reduceLT, Nat.reduceMod, Nat.reducePow, rmaps, nsucc, List.flatten_cons, List.flatten_nil, Nat.reduceEqDiff, Nat.reduceLeDiff, Nat.reduceAdd, Nat.reduceMul, Nat.reduceSub, ↓reduceIte, reduceCtorEq, decide_true, decide_false]
        first | refine FCall.go (spans66 _ _ _) (FZs.v3 _ _ _) ?_ | refine FCall.go' (spans66 _ _ _) (FZs.v3 _ _ _) ?_ | refine FCall.goQ (spans66 _ _ _) (FZs.v3 _ _ _) ?_
        cases r2 : within mi.to 0 (IntKind.i64.wrap (x.st - 1))
        · simp only [f1, f37, f38, f39, hds, Cd.cd23, Tk.t23, base0, base1, base2, base3, Option.isNone_none, Option.isNone_some, Nat.reduceBEq, true_or, or_true, false_or, or_false, Nat.reduceLT, Nat.reduceMod, Nat.reducePow, rmaps, nsucc, List.flatten_cons, List.flatten_nil, Nat.reduceEqDiff, Nat.reduceLeDiff, Nat.reduceAdd, Nat.reduceMul, Nat.reduceSub, ↓reduceIte, reduceCtorEq, decide_true, decide_false]
          exact fin_p (ek (kd_in.mpr (.inr (.inr k2))) 1 (by unfold labels; rw [if_neg k0, if_neg k1]) (.inr (.inl r2)))
        simp only [f1, f37, f38, f39, hds, Cd.cd23, Tk.t23, base0, base1, base2, base3, Option.isNone_none, Option.isNone_some, Nat.reduceBEq, true_or, or_true, false_or, or_false, Nat.reduceLT, Nat.reduceMod, Nat.reducePow, rmaps, nsucc, List.flatten_cons, List.flatten_nil, Nat.reduceEqDiff, Nat.reduceLeDiff, Nat.reduceAdd, Nat.reduceMul, Nat.reduceSub, ↓reduceIte, reduceCtorEq, decide_true, decide_false]
        first | refine FCall.go (spans66 _ _ _) (FZs.v3 _ _ _) ?_ | refine FCall.go' (spans66 _ _ _) (FZs.v3 _ _ _) ?_ | refine FCall.goQ (spans66 _ _ _) (FZs.v3 _ _ _) ?_
        cases r3 : within mi.lb 0 (IntKind.i64.wrap (1 - 1))
        · simp only [f1, f37, f38, f39, hds, Cd.cd23, Tk.t23, base0, base1, base2, base3, Option.isNone_none, Option.isNone_some, Nat.reduceBEq, true_or, or_true, false_or, or_false, Nat.reduceLT, Nat.reduceMod, Nat.reducePow, rmaps, nsucc, List.flatten_cons, List.flatten_nil, Nat.reduceEqDiff, Nat.reduceLeDiff, Nat.reduceAdd, Nat.reduceMul, Nat.reduceSub, ↓reduceIte, reduceCtorEq, decide_true, decide_false]
          exact fin_p (ek (kd_in.mpr (.inr (.inr k2))) 1 (by unfold labels; rw [if_neg k0, if_neg k1]) (.inr (.inr r3)))
        have hf := fin 1 (by unfold labels; rw [if_neg k0, if_neg k1]) (kd_in.mpr (.inr (.inr k2))) r1 r2 r3
        by_cases hi0 : 0 < i
        · have hl1 : i - 1 < x.mv.length := by omega
          have hw : IntKind.i64.wrap ((i : Int) - 1) = ((i - 1 : Nat) : Int) := by rw [wrapI (by omega) (by omega)]; omega
          have hg1 := getD_map mvR x.mv (i - 1) hl1
          simp only [List.length_map, show decide (((i : Nat) : Int) > 0) = true from decide_eq_true (by omega), hw, inR hl1, Int.toNat_natCast, hg1, mvR, f1, f37, f38, f39, hds, Cd.cd23, Tk.t23, base0, base1, base2, base3, Option.isNone_none, Option.isNone_some, Nat.reduceBEq, true_or, or_true, false_or, or_false, Nat.reduceLT, Nat.reduceMod, Nat.reducePow, rmaps, nsucc, List.flatten_cons, List.flatten_nil, Nat.reduceEqDiff, Nat.reduceLeDiff, Nat.reduceAdd, Nat.reduceMul, Nat.reduceSub, ↓reduceIte, reduceCtorEq, decide_true, decide_false]
          refine (cmpMv67 (x.mv.getD (i - 1) default) mi).go' (FZs.two (FZ.mvV _) (FZ.mvV _)) ?_
          by_cases hc : 0 ≤ cmpMv (x.mv.getD (i - 1) default) mi
          · simp only [show decide (cmpMv (x.mv.getD (i - 1) default) mi ≥ 0) = true from decide_eq_true hc, f1, f37, f38, f39, hds, Cd.cd23, Tk.t23, base0, base1, base2, base3, Option.isNone_none, Option.isNone_some, Nat.reduceBEq, true_or, or_true, false_or, or_false, Nat.reduceLT, Nat.reduceMod, Nat.reducePow, rmaps, nsucc, List.flatten_cons, List.flatten_nil, Nat.reduceEqDiff, Nat.reduceLeDiff, Nat.reduceAdd, Nat.reduceMul, Nat.reduceSub, ↓reduceIte, reduceCtorEq, decide_true, decide_false]
            exact fin_p (check_move hh h5 hlt hz (by rw [hf, decide_eq_true hi0, decide_eq_true hc]; rfl) (by omega))
          · simp only [show decide (cmpMv (x.mv.getD (i - 1) default) mi ≥ 0) = false from decide_eq_false hc, f1, f37, f38, f39, hds, Cd.cd23, Tk.t23, base0, base1, base2, base3, Option.isNone_none, Option.isNone_some, Nat.reduceBEq, true_or, or_true, false_or, or_false, Nat.reduceLT, Nat.reduceMod, Nat.reducePow, rmaps, nsucc, List.flatten_cons, List.flatten_nil, Nat.reduceEqDiff, Nat.reduceLeDiff, Nat.reduceAdd, Nat.reduceMul, Nat.reduceSub, ↓reduceIte, reduceCtorEq, decide_true, decide_false]
            refine ⟨_, by omega, i + 1, rfl, by omega, ?_⟩
            (repeat' apply And.intro) <;> first | rfl | (rw [wrapS (by omega)]) | omega | assumption | (exact allS hz (by rw [hf, decide_eq_false hc]; simp))
        · simp only [show decide (((i : Nat) : Int) > 0) = false from decide_eq_false (by omega), f1, f37, f38, f39, hds, Cd.cd23, Tk.t23, base0, base1, base2, base3, Option.isNone_none, Option.isNone_some, Nat.reduceBEq, true_or, or_true, false_or, or_false, Nat.reduceLT, Nat.reduceMod, Nat.reducePow, rmaps, nsucc, List.flatten_cons, List.flatten_nil, Nat.reduceEqDiff, Nat.reduceLeDiff, Nat.reduceAdd, Nat.reduceMul, Nat.reduceSub, ↓reduceIte, reduceCtorEq, decide_true, decide_false]
          refine ⟨_, by omega, i + 1, rfl, by omega, ?_⟩
          (repeat' apply And.intro) <;> first | rfl | (rw [wrapS (by omega)]) | omega | assumption | (exact allS hz (by rw [hf, decide_eq_false hi0]; simp))
      · simp only [ltT hlt, List.length_map, inR hlt, Int.toNat_natCast, hg, mvR, show (mi.kd == 0) = false from beq_eq_false_iff_ne.mpr k0, show (mi.kd == 1) = false from beq_eq_false_iff_ne.mpr k1, show (mi.kd == 2) = false from beq_eq_false_iff_ne.mpr k2, f1, f37, f38, f39, hds, Cd.cd23, Tk.t23, base0, base1, base2, base3, Option.isNone_none, Option.isNone_some, Nat.reduceBEq, true_or, or_true, false_or, or_false, Nat.reduceLT, Nat.reduceMod, Nat.reducePow, rmaps, nsucc, List.flatten_cons, List.flatten_nil, Nat.reduceEqDiff, Nat.reduceLeDiff, Nat.reduceAdd, Nat.reduceMul, Nat.reduceSub, ↓reduceIte, reduceCtorEq, decide_true, decide_false]
        exact fin_p (check_move hh h5 hlt hz (mvErr_kind (by rw [hm]; exact kd_out k0 k1 k2)) (by omega))
    · have hi' : i = x.mv.length := by omega
      simp only [ltF hlt, f1, f37, f38, f39, hds, Cd.cd23, Tk.t23, base0, base1, base2, base3, Option.isNone_none, Option.isNone_some, Nat.reduceBEq, true_or, or_true, false_or, or_false, Nat.reduceLT, Nat.reduceMod, Nat.reducePow, rmaps, nsucc, List.flatten_cons, List.flatten_nil, Nat.reduceEqDiff, Nat.reduceLeDiff, Nat.reduceAdd, Nat.reduceMul, Nat.reduceSub, ↓reduceIte, reduceCtorEq, decide_true, decide_false]
      exact fin_p (check_ok hh h5 (by rw [← hi']; exact hz))
end Go.Proofs.YtchpcjmgifnmdaaDoor

/- Walks: the reference checks systems. -/
namespace Go.Proofs.YtchpcjmgifnmdaaDoor
open Go Go.Proofs.YtchpcjmgifnmdaaDoor.Ab
set_option maxRecDepth 100000
set_option linter.unusedSimpArgs false

theorem sysErr70 (x : Re) : FCall Tryd.prog 70 [reV x] (· = .v (.int .i64 (errR x))) := by
  simp only [reV, reL, mvsV]
  refine ACall.enter [] Cd.fn70 (by simp) ?_
  simp only [Cd.cd70, Tk.t70, base0, base1, base2, base3, Option.isNone_none, Option.isNone_some, Nat.reduceBEq, true_or, or_true, false_or, or_false, Nat.reduceLT, Nat.reduceMod, Nat.reducePow, rmaps, nsucc, List.flatten_cons, List.flatten_nil, Nat.reduceEqDiff, Nat.reduceLeDiff, Nat.reduceAdd, Nat.reduceMul, Nat.reduceSub, ↓reduceIte, reduceCtorEq, decide_true, decide_false]
  refine (check23 x).go (FZs.one (FZ.reV x)) ?_
  simp only [Cd.cd70, Tk.t70, base0, base1, base2, base3, Option.isNone_none, Option.isNone_some, Nat.reduceBEq, true_or, or_true, false_or, or_false, Nat.reduceLT, Nat.reduceMod, Nat.reducePow, rmaps, nsucc, List.flatten_cons, List.flatten_nil, Nat.reduceEqDiff, Nat.reduceLeDiff, Nat.reduceAdd, Nat.reduceMul, Nat.reduceSub, ↓reduceIte, reduceCtorEq, decide_true, decide_false]
  exact fin_v rfl
def bothR (x y : Re) : Int := orI (errR x) (orI (errR y) (if decide (x.inp = y.inp) && decide (x.out = y.out) then 0 else 6))
theorem orL3 (a b c : Int) : orL [a, b, c] = orI a (orI b c) := by
  simp only [orL, orI]
  by_cases h1 : a = 0 <;> by_cases h2 : b = 0 <;> by_cases h3 : c = 0 <;> simp [h1, h2, h3]
theorem both58 (x y : Re) : FCall Tryd.prog 58 [reV x, reV y] (· = .v (.int .i64 (bothR x y))) := by
  simp only [reV, reL, mvsV]
  refine ACall.enter [] Cd.fn58 (by simp) ?_
  simp only [Cd.cd58, Tk.t58, base0, base1, base2, base3, Option.isNone_none, Option.isNone_some, Nat.reduceBEq, true_or, or_true, false_or, or_false, Nat.reduceLT, Nat.reduceMod, Nat.reducePow, rmaps, nsucc, List.flatten_cons, List.flatten_nil, Nat.reduceEqDiff, Nat.reduceLeDiff, Nat.reduceAdd, Nat.reduceMul, Nat.reduceSub, ↓reduceIte, reduceCtorEq, decide_true, decide_false]
  refine (sysErr70 x).go' (FZs.one (FZ.reV x)) ?_
  simp only [Cd.cd58, Tk.t58, base0, base1, base2, base3, Option.isNone_none, Option.isNone_some, Nat.reduceBEq, true_or, or_true, false_or, or_false, Nat.reduceLT, Nat.reduceMod, Nat.reducePow, rmaps, nsucc, List.flatten_cons, List.flatten_nil, Nat.reduceEqDiff, Nat.reduceLeDiff, Nat.reduceAdd, Nat.reduceMul, Nat.reduceSub, ↓reduceIte, reduceCtorEq, decide_true, decide_false]
  refine (sysErr70 y).go' (FZs.one (FZ.reV y)) ?_
  have fin : ∀ b, (decide (x.inp = y.inp) && decide (x.out = y.out)) = b → orL [errR x, errR y, if b = true then 0 else 6] = bothR x y := fun b hb => by subst hb; rw [orL3]; rfl
  by_cases h1 : x.inp = y.inp
  · by_cases h2 : x.out = y.out
    · have hb : (decide (x.inp = y.inp) && decide (x.out = y.out)) = true := by simp [h1, h2]
      have hf := fin _ hb
      have h := or82 [errR x, errR y, if true = true then 0 else 6] (by simp) .full
      have hz : FZ _ := FZ.intL (l := [errR x, errR y, if true = true then 0 else 6]) (tip := .full) rfl
      simp only [List.map_cons, List.map_nil, intR] at h hz
      simp only [show (x.inp == y.inp) = true from beq_iff_eq.mpr h1, show (x.out == y.out) = true from beq_iff_eq.mpr h2, Cd.cd58, Tk.t58, base0, base1, base2, base3, Option.isNone_none, Option.isNone_some, Nat.reduceBEq, true_or, or_true, false_or, or_false, Nat.reduceLT, Nat.reduceMod, Nat.reducePow, rmaps, nsucc, List.flatten_cons, List.flatten_nil, Nat.reduceEqDiff, Nat.reduceLeDiff, Nat.reduceAdd, Nat.reduceMul, Nat.reduceSub, ↓reduceIte, reduceCtorEq, decide_true, decide_false]
      first | refine FCall.go (unless61 _ _) (FZs.v2 _ _) ?_ | refine FCall.go' (unless61 _ _) (FZs.v2 _ _) ?_ | refine FCall.goQ (unless61 _ _) (FZs.v2 _ _) ?_
      simp only [Cd.cd58, Tk.t58, base0, base1, base2, base3, Option.isNone_none, Option.isNone_some, Nat.reduceBEq, true_or, or_true, false_or, or_false, Nat.reduceLT, Nat.reduceMod, Nat.reducePow, rmaps, nsucc, List.flatten_cons, List.flatten_nil, Nat.reduceEqDiff, Nat.reduceLeDiff, Nat.reduceAdd, Nat.reduceMul, Nat.reduceSub, ↓reduceIte, reduceCtorEq, decide_true, decide_false]
      first | refine FCall.go h (FZs.one hz) ?_ | refine FCall.go' h (FZs.one hz) ?_ | refine FCall.goQ h (FZs.one hz) ?_
      simp only [Cd.cd58, Tk.t58, base0, base1, base2, base3, Option.isNone_none, Option.isNone_some, Nat.reduceBEq, true_or, or_true, false_or, or_false, Nat.reduceLT, Nat.reduceMod, Nat.reducePow, rmaps, nsucc, List.flatten_cons, List.flatten_nil, Nat.reduceEqDiff, Nat.reduceLeDiff, Nat.reduceAdd, Nat.reduceMul, Nat.reduceSub, ↓reduceIte, reduceCtorEq, decide_true, decide_false]
      exact fin_v (by rw [← hf]; rfl)
    · have hb : (decide (x.inp = y.inp) && decide (x.out = y.out)) = false := by simp [h2]
      have hf := fin _ hb
      have h := or82 [errR x, errR y, if false = true then 0 else 6] (by simp) .full
      have hz : FZ _ := FZ.intL (l := [errR x, errR y, if false = true then 0 else 6]) (tip := .full) rfl
      simp only [List.map_cons, List.map_nil, intR] at h hz
      simp only [show (x.inp == y.inp) = true from beq_iff_eq.mpr h1, show (x.out == y.out) = false from beq_eq_false_iff_ne.mpr h2, Cd.cd58, Tk.t58, base0, base1, base2, base3, Option.isNone_none, Option.isNone_some, Nat.reduceBEq, true_or, or_true, false_or, or_false, Nat.reduceLT, Nat.reduceMod, Nat.reducePow, rmaps, nsucc, List.flatten_cons, List.flatten_nil, Nat.reduceEqDiff, Nat.reduceLeDiff, Nat.reduceAdd, Nat.reduceMul, Nat.reduceSub, ↓reduceIte, reduceCtorEq, decide_true, decide_false]
      first | refine FCall.go (unless61 _ _) (FZs.v2 _ _) ?_ | refine FCall.go' (unless61 _ _) (FZs.v2 _ _) ?_ | refine FCall.goQ (unless61 _ _) (FZs.v2 _ _) ?_
      simp only [Cd.cd58, Tk.t58, base0, base1, base2, base3, Option.isNone_none, Option.isNone_some, Nat.reduceBEq, true_or, or_true, false_or, or_false, Nat.reduceLT, Nat.reduceMod, Nat.reducePow, rmaps, nsucc, List.flatten_cons, List.flatten_nil, Nat.reduceEqDiff, Nat.reduceLeDiff, Nat.reduceAdd, Nat.reduceMul, Nat.reduceSub, ↓reduceIte, reduceCtorEq, decide_true, decide_false]
      first | refine FCall.go h (FZs.one hz) ?_ | refine FCall.go' h (FZs.one hz) ?_ | refine FCall.goQ h (FZs.one hz) ?_
      simp only [Cd.cd58, Tk.t58, base0, base1, base2, base3, Option.isNone_none, Option.isNone_some, Nat.reduceBEq, true_or, or_true, false_or, or_false, Nat.reduceLT, Nat.reduceMod, Nat.reducePow, rmaps, nsucc, List.flatten_cons, List.flatten_nil, Nat.reduceEqDiff, Nat.reduceLeDiff, Nat.reduceAdd, Nat.reduceMul, Nat.reduceSub, ↓reduceIte, reduceCtorEq, decide_true, decide_false]
      exact fin_v (by rw [← hf]; rfl)
  · have hb : (decide (x.inp = y.inp) && decide (x.out = y.out)) = false := by simp [h1]
    have hf := fin _ hb
    have h := or82 [errR x, errR y, if false = true then 0 else 6] (by simp) .full
    have hz : FZ _ := FZ.intL (l := [errR x, errR y, if false = true then 0 else 6]) (tip := .full) rfl
    simp only [List.map_cons, List.map_nil, intR] at h hz
    simp only [show (x.inp == y.inp) = false from beq_eq_false_iff_ne.mpr h1, Cd.cd58, Tk.t58, base0, base1, base2, base3, Option.isNone_none, Option.isNone_some, Nat.reduceBEq, true_or, or_true, false_or, or_false, Nat.reduceLT, Nat.reduceMod, Nat.reducePow, rmaps, nsucc, List.flatten_cons, List.flatten_nil, Nat.reduceEqDiff, Nat.reduceLeDiff, Nat.reduceAdd, Nat.reduceMul, Nat.reduceSub, ↓reduceIte, reduceCtorEq, decide_true, decide_false]
    first | refine FCall.go (unless61 _ _) (FZs.v2 _ _) ?_ | refine FCall.go' (unless61 _ _) (FZs.v2 _ _) ?_ | refine FCall.goQ (unless61 _ _) (FZs.v2 _ _) ?_
    simp only [Cd.cd58, Tk.t58, base0, base1, base2, base3, Option.isNone_none, Option.isNone_some, Nat.reduceBEq, true_or, or_true, false_or, or_false, Nat.reduceLT, Nat.reduceMod, Nat.reducePow, rmaps, nsucc, List.flatten_cons, List.flatten_nil, Nat.reduceEqDiff, Nat.reduceLeDiff, Nat.reduceAdd, Nat.reduceMul, Nat.reduceSub, ↓reduceIte, reduceCtorEq, decide_true, decide_false]
    first | refine FCall.go h (FZs.one hz) ?_ | refine FCall.go' h (FZs.one hz) ?_ | refine FCall.goQ h (FZs.one hz) ?_
    simp only [Cd.cd58, Tk.t58, base0, base1, base2, base3, Option.isNone_none, Option.isNone_some, Nat.reduceBEq, true_or, or_true, false_or, or_false, Nat.reduceLT, Nat.reduceMod, Nat.reducePow, rmaps, nsucc, List.flatten_cons, List.flatten_nil, Nat.reduceEqDiff, Nat.reduceLeDiff, Nat.reduceAdd, Nat.reduceMul, Nat.reduceSub, ↓reduceIte, reduceCtorEq, decide_true, decide_false]
    exact fin_v (by rw [← hf]; rfl)
theorem list69 (m : Mv) : FCall Tryd.prog 69 [mvV m] (· = ints [m.fr, m.kd, m.lb, m.to]) := by
  simp only [mvV, mvR]
  refine ACall.enter [] Cd.fn69 (by simp) ?_
  simp only [Cd.cd69, Tk.t69, base0, base1, base2, base3, Option.isNone_none, Option.isNone_some, Nat.reduceBEq, true_or, or_true, false_or, or_false, Nat.reduceLT, Nat.reduceMod, Nat.reducePow, rmaps, nsucc, List.flatten_cons, List.flatten_nil, Nat.reduceEqDiff, Nat.reduceLeDiff, Nat.reduceAdd, Nat.reduceMul, Nat.reduceSub, ↓reduceIte, reduceCtorEq, decide_true, decide_false]
  exact ⟨_, _, rfl, View.tip (fun r hr => by
    simp only [List.mem_cons, List.not_mem_nil, or_false] at hr
    rcases hr with rfl | rfl | rfl | rfl <;> exact FZs.v1 _), FZ.ints [m.fr, m.kd, m.lb, m.to], rfl⟩
def cmpL (a b : List Int) : Int := match firstIx a.length (fun i => a.getD i 0 != b.getD i 0) with
  | some i => if b.getD i 0 < a.getD i 0 then 1 else -1
  | none => 0
theorem cmpL4 (a b : Mv) : cmpL [a.fr, a.kd, a.lb, a.to] [b.fr, b.kd, b.lb, b.to] = cmpMv a b := by
  obtain ⟨a1, a2, a3, a4⟩ := a
  obtain ⟨b1, b2, b3, b4⟩ := b
  have hr : List.range 4 = [0, 1, 2, 3] := rfl
  unfold cmpL firstIx cmpMv
  simp only [List.length_cons, List.length_nil, Nat.zero_add, Nat.reduceAdd, hr, List.find?_cons, List.find?_nil, List.getD_cons_zero, List.getD_cons_succ]
  have key : ∀ p q : Int, p ≠ q → (if q < p then (1 : Int) else -1) = cmpI p q ∧ cmpI p q ≠ 0 := fun p q h => by
    unfold cmpI; constructor
    · split <;> split <;> omega
    · split
      · omega
      · split <;> omega
  have key0 : ∀ p q : Int, p = q → cmpI p q = 0 := fun p q h => by subst h; simp [cmpI]
  by_cases h1 : a1 = b1
  · rw [key0 _ _ h1, show orI 0 (orI (cmpI a2 b2) (orI (cmpI a3 b3) (cmpI a4 b4))) = orI (cmpI a2 b2) (orI (cmpI a3 b3) (cmpI a4 b4)) from rfl, show (a1 != b1) = false from by simp [h1]]
    by_cases h2 : a2 = b2
    · rw [key0 _ _ h2, show orI 0 (orI (cmpI a3 b3) (cmpI a4 b4)) = orI (cmpI a3 b3) (cmpI a4 b4) from rfl, show (a2 != b2) = false from by simp [h2]]
      by_cases h3 : a3 = b3
      · rw [key0 _ _ h3, show orI 0 (cmpI a4 b4) = cmpI a4 b4 from rfl, show (a3 != b3) = false from by simp [h3]]
        by_cases h4 : a4 = b4
        · rw [key0 _ _ h4, show (a4 != b4) = false from by simp [h4]]
        · rw [show (a4 != b4) = true from by simp [h4]]
          exact (key _ _ h4).1
      · rw [show (a3 != b3) = true from by simp [h3]]
        simp only [List.getD_cons_zero, List.getD_cons_succ]
        rw [(key _ _ h3).1, orI, if_pos (key _ _ h3).2]
    · rw [show (a2 != b2) = true from by simp [h2]]
      simp only [List.getD_cons_zero, List.getD_cons_succ]
      rw [(key _ _ h2).1, orI, if_pos (key _ _ h2).2]
  · rw [show (a1 != b1) = true from by simp [h1]]
    simp only [List.getD_cons_zero, List.getD_cons_succ]
    rw [(key _ _ h1).1, orI, if_pos (key _ _ h1).2]
theorem cmp68 (a b : List Int) (hl : a.length ≤ 100) (hab : b.length = a.length) : FCall Tryd.prog 68 [ints a, ints b] (· = .v (.int .i64 (cmpL a b))) := by
  simp only [ints]
  refine ACall.enter [] Cd.fn68 (by simp) ?_
  simp only [Cd.cd68, Tk.t68, base0, base1, base2, base3, Option.isNone_none, Option.isNone_some, Nat.reduceBEq, true_or, or_true, false_or, or_false, Nat.reduceLT, Nat.reduceMod, Nat.reducePow, rmaps, nsucc, List.flatten_cons, List.flatten_nil, Nat.reduceEqDiff, Nat.reduceLeDiff, Nat.reduceAdd, Nat.reduceMul, Nat.reduceSub, ↓reduceIte, reduceCtorEq, decide_true, decide_false]
  refine LWP.loop [] (fun m f H' => ∃ i, m = a.length - i ∧ (i ≤ a.length) ∧ (∀ j, j < i → (a.getD j 0 != b.getD j 0) = false) ∧ f.t 0 = .lst 1 (a.map fun x => [.v (.int .i64 x)]) .unk ∧ f.t 1 = .lst 1 (b.map fun x => [.v (.int .i64 x)]) .unk ∧ f.t 5 = .v (.int .i64 (i : Nat)) ∧ f.ds = [] ∧ H' = AH.none) ?_ ?_ (m := a.length - (0))
  · exact ⟨0, rfl, (by omega), (fun j hj => by omega), rfl, rfl, rfl, rfl, rfl⟩
  · rintro m f H' ⟨i, rfl, hi, hz, f0, f1, f5, hds, rfl⟩
    by_cases hlt : i < a.length
    · by_cases hn : a.getD i 0 = b.getD i 0
      · simp only [List.length_map, ltT hlt, inR hlt, hab, Int.toNat_natCast, getD_ints a i hlt, getD_ints b i (by omega), show (a.getD i 0 != b.getD i 0) = false from by rw [hn]; simp, f0, f1, f5, hds, Cd.cd68, Tk.t68, base0, base1, base2, base3, Option.isNone_none, Option.isNone_some, Nat.reduceBEq, true_or, or_true, false_or, or_false, Nat.reduceLT, Nat.reduceMod, Nat.reducePow, rmaps, nsucc, List.flatten_cons, List.flatten_nil, Nat.reduceEqDiff, Nat.reduceLeDiff, Nat.reduceAdd, Nat.reduceMul, Nat.reduceSub, ↓reduceIte, reduceCtorEq, decide_true, decide_false]
        refine ⟨_, by omega, i + 1, rfl, by omega, ?_⟩
        (repeat' apply And.intro) <;> first | rfl | (rw [wrapS (by omega)]) | omega | assumption | (exact allS hz (by rw [hn]; simp))
      · have hb : (a.getD i 0 != b.getD i 0) = true := by simpa using hn
        by_cases hg : b.getD i 0 < a.getD i 0
        · simp only [List.length_map, ltT hlt, inR hlt, hab, Int.toNat_natCast, getD_ints a i hlt, getD_ints b i (by omega), hb, show decide (a.getD i 0 > b.getD i 0) = true from decide_eq_true hg, f0, f1, f5, hds, Cd.cd68, Tk.t68, base0, base1, base2, base3, Option.isNone_none, Option.isNone_some, Nat.reduceBEq, true_or, or_true, false_or, or_false, Nat.reduceLT, Nat.reduceMod, Nat.reducePow, rmaps, nsucc, List.flatten_cons, List.flatten_nil, Nat.reduceEqDiff, Nat.reduceLeDiff, Nat.reduceAdd, Nat.reduceMul, Nat.reduceSub, ↓reduceIte, reduceCtorEq, decide_true, decide_false]
          first | refine FCall.go (count107 _) (FZs.v1 _) ?_ | refine FCall.go' (count107 _) (FZs.v1 _) ?_ | refine FCall.goQ (count107 _) (FZs.v1 _) ?_
          simp only [f0, f1, f5, hds, Cd.cd68, Tk.t68, base0, base1, base2, base3, Option.isNone_none, Option.isNone_some, Nat.reduceBEq, true_or, or_true, false_or, or_false, Nat.reduceLT, Nat.reduceMod, Nat.reducePow, rmaps, nsucc, List.flatten_cons, List.flatten_nil, Nat.reduceEqDiff, Nat.reduceLeDiff, Nat.reduceAdd, Nat.reduceMul, Nat.reduceSub, ↓reduceIte, reduceCtorEq, decide_true, decide_false]
          exact fin_v (by rw [cmpL, firstIx_some hlt hb hz]; simp only [if_pos hg]; rfl)
        · simp only [List.length_map, ltT hlt, inR hlt, hab, Int.toNat_natCast, getD_ints a i hlt, getD_ints b i (by omega), hb, show decide (a.getD i 0 > b.getD i 0) = false from decide_eq_false hg, f0, f1, f5, hds, Cd.cd68, Tk.t68, base0, base1, base2, base3, Option.isNone_none, Option.isNone_some, Nat.reduceBEq, true_or, or_true, false_or, or_false, Nat.reduceLT, Nat.reduceMod, Nat.reducePow, rmaps, nsucc, List.flatten_cons, List.flatten_nil, Nat.reduceEqDiff, Nat.reduceLeDiff, Nat.reduceAdd, Nat.reduceMul, Nat.reduceSub, ↓reduceIte, reduceCtorEq, decide_true, decide_false]
          first | refine FCall.go (count107 _) (FZs.v1 _) ?_ | refine FCall.go' (count107 _) (FZs.v1 _) ?_ | refine FCall.goQ (count107 _) (FZs.v1 _) ?_
          simp only [f0, f1, f5, hds, Cd.cd68, Tk.t68, base0, base1, base2, base3, Option.isNone_none, Option.isNone_some, Nat.reduceBEq, true_or, or_true, false_or, or_false, Nat.reduceLT, Nat.reduceMod, Nat.reducePow, rmaps, nsucc, List.flatten_cons, List.flatten_nil, Nat.reduceEqDiff, Nat.reduceLeDiff, Nat.reduceAdd, Nat.reduceMul, Nat.reduceSub, ↓reduceIte, reduceCtorEq, decide_true, decide_false]
          exact fin_v (by rw [cmpL, firstIx_some hlt hb hz]; simp only [if_neg hg]; rfl)
    · have hi' : i = a.length := by omega
      subst hi'
      simp only [List.length_map, ltF hlt, hab, show decide (((a.length : Nat) : Int) > ((a.length : Nat) : Int)) = false from decide_eq_false (by omega), show decide (((a.length : Nat) : Int) < ((a.length : Nat) : Int)) = false from decide_eq_false (by omega), f0, f1, f5, hds, Cd.cd68, Tk.t68, base0, base1, base2, base3, Option.isNone_none, Option.isNone_some, Nat.reduceBEq, true_or, or_true, false_or, or_false, Nat.reduceLT, Nat.reduceMod, Nat.reducePow, rmaps, nsucc, List.flatten_cons, List.flatten_nil, Nat.reduceEqDiff, Nat.reduceLeDiff, Nat.reduceAdd, Nat.reduceMul, Nat.reduceSub, ↓reduceIte, reduceCtorEq, decide_true, decide_false]
      first | refine FCall.go (count107 _) (FZs.v1 _) ?_ | refine FCall.go' (count107 _) (FZs.v1 _) ?_ | refine FCall.goQ (count107 _) (FZs.v1 _) ?_
      simp only [List.length_map, hab, show decide (((a.length : Nat) : Int) < ((a.length : Nat) : Int)) = false from decide_eq_false (by omega), f0, f1, f5, hds, Cd.cd68, Tk.t68, base0, base1, base2, base3, Option.isNone_none, Option.isNone_some, Nat.reduceBEq, true_or, or_true, false_or, or_false, Nat.reduceLT, Nat.reduceMod, Nat.reducePow, rmaps, nsucc, List.flatten_cons, List.flatten_nil, Nat.reduceEqDiff, Nat.reduceLeDiff, Nat.reduceAdd, Nat.reduceMul, Nat.reduceSub, ↓reduceIte, reduceCtorEq, decide_true, decide_false]
      first | refine FCall.go (count107 _) (FZs.v1 _) ?_ | refine FCall.go' (count107 _) (FZs.v1 _) ?_ | refine FCall.goQ (count107 _) (FZs.v1 _) ?_
      simp only [f0, f1, f5, hds, Cd.cd68, Tk.t68, base0, base1, base2, base3, Option.isNone_none, Option.isNone_some, Nat.reduceBEq, true_or, or_true, false_or, or_false, Nat.reduceLT, Nat.reduceMod, Nat.reducePow, rmaps, nsucc, List.flatten_cons, List.flatten_nil, Nat.reduceEqDiff, Nat.reduceLeDiff, Nat.reduceAdd, Nat.reduceMul, Nat.reduceSub, ↓reduceIte, reduceCtorEq, decide_true, decide_false]
      exact fin_v (by rw [cmpL, firstIx_none hz]; rfl)
theorem cmp68m (a b : Mv) : FCall Tryd.prog 68 [ints [a.fr, a.kd, a.lb, a.to], ints [b.fr, b.kd, b.lb, b.to]] (· = .v (.int .i64 (cmpMv a b))) := by
  rw [← cmpL4]; exact cmp68 _ _ (by simp) rfl
theorem silence41 (x : Re) : FCall Tryd.prog 41 [reV x] (· = .v (.int .i64 (IntKind.i64.wrap (x.inp + x.out)))) := by
  simp only [reV, reL, mvsV]
  refine ACall.enter [] Cd.fn41 (by simp) ?_
  simp only [Cd.cd41, Tk.t41, base0, base1, base2, base3, Option.isNone_none, Option.isNone_some, Nat.reduceBEq, true_or, or_true, false_or, or_false, Nat.reduceLT, Nat.reduceMod, Nat.reducePow, rmaps, nsucc, List.flatten_cons, List.flatten_nil, Nat.reduceEqDiff, Nat.reduceLeDiff, Nat.reduceAdd, Nat.reduceMul, Nat.reduceSub, ↓reduceIte, reduceCtorEq, decide_true, decide_false]
  exact fin_v rfl
def quietR (x : Re) (a : Int) : Bool := x.mv.all fun m => decide (m.fr ≠ a) || decide (m.kd = 0)
theorem quiet104 (x : Re) (a : Int) (hl : x.mv.length ≤ 1000) : FCall Tryd.prog 104 [reV x, .v (.int .i64 a)] (· = .v (.bool (quietR x a))) := by
  simp only [reV, reL, mvsV]
  refine ACall.enter [] Cd.fn104 (by simp) ?_
  simp only [Cd.cd104, Tk.t104, base0, base1, base2, base3, Option.isNone_none, Option.isNone_some, Nat.reduceBEq, true_or, or_true, false_or, or_false, Nat.reduceLT, Nat.reduceMod, Nat.reducePow, rmaps, nsucc, List.flatten_cons, List.flatten_nil, Nat.reduceEqDiff, Nat.reduceLeDiff, Nat.reduceAdd, Nat.reduceMul, Nat.reduceSub, ↓reduceIte, reduceCtorEq, decide_true, decide_false]
  refine LWP.loop [] (fun m f H' => ∃ i, m = x.mv.length - i ∧ (i ≤ x.mv.length) ∧ (∀ j, j < i → (decide ((x.mv.getD j default).fr ≠ a) || decide ((x.mv.getD j default).kd = 0)) = true) ∧ f.t 1 = .v (.int .i64 a) ∧ f.t 2 = .box [.v (.int .i64 x.st), .v (.int .i64 x.s0), .v (.int .i64 x.inp), .v (.int .i64 x.out), .lst 4 (x.mv.map mvR) .unk] ∧ f.t 5 = .v (.int .i64 (i : Nat)) ∧ f.ds = [] ∧ H' = AH.none) ?_ ?_ (m := x.mv.length - (0))
  · exact ⟨0, rfl, (by omega), (fun j hj => by omega), rfl, rfl, rfl, rfl, rfl⟩
  · rintro m f H' ⟨i, rfl, hi, hz, f1, f2, f5, hds, rfl⟩
    by_cases hlt : i < x.mv.length
    · have hg := getD_map mvR x.mv i hlt
      generalize hm : x.mv.getD i default = mi at hg
      by_cases h1 : mi.fr = a
      · by_cases h2 : mi.kd = 0
        · simp only [List.length_map, ltT hlt, inR hlt, Int.toNat_natCast, hg, mvR, show (mi.fr == a) = true from beq_iff_eq.mpr h1, show (mi.kd != 0) = false from by rw [h2]; rfl, f1, f2, f5, hds, Cd.cd104, Tk.t104, base0, base1, base2, base3, Option.isNone_none, Option.isNone_some, Nat.reduceBEq, true_or, or_true, false_or, or_false, Nat.reduceLT, Nat.reduceMod, Nat.reducePow, rmaps, nsucc, List.flatten_cons, List.flatten_nil, Nat.reduceEqDiff, Nat.reduceLeDiff, Nat.reduceAdd, Nat.reduceMul, Nat.reduceSub, ↓reduceIte, reduceCtorEq, decide_true, decide_false]
          refine ⟨_, by omega, i + 1, rfl, by omega, ?_⟩
          (repeat' apply And.intro) <;> first | rfl | (rw [wrapS (by omega)]) | omega | assumption | (exact allS hz (by rw [hm, decide_eq_true h2]; simp))
        · simp only [List.length_map, ltT hlt, inR hlt, Int.toNat_natCast, hg, mvR, show (mi.fr == a) = true from beq_iff_eq.mpr h1, show (mi.kd != 0) = true from bneT h2, f1, f2, f5, hds, Cd.cd104, Tk.t104, base0, base1, base2, base3, Option.isNone_none, Option.isNone_some, Nat.reduceBEq, true_or, or_true, false_or, or_false, Nat.reduceLT, Nat.reduceMod, Nat.reducePow, rmaps, nsucc, List.flatten_cons, List.flatten_nil, Nat.reduceEqDiff, Nat.reduceLeDiff, Nat.reduceAdd, Nat.reduceMul, Nat.reduceSub, ↓reduceIte, reduceCtorEq, decide_true, decide_false]
          exact fin_v (by rw [quietR, List.all_eq_false.mpr ⟨_, getD_mem hlt, by rw [hm]; simp [h1, h2]⟩])
      · simp only [List.length_map, ltT hlt, inR hlt, Int.toNat_natCast, hg, mvR, show (mi.fr == a) = false from beq_eq_false_iff_ne.mpr h1, f1, f2, f5, hds, Cd.cd104, Tk.t104, base0, base1, base2, base3, Option.isNone_none, Option.isNone_some, Nat.reduceBEq, true_or, or_true, false_or, or_false, Nat.reduceLT, Nat.reduceMod, Nat.reducePow, rmaps, nsucc, List.flatten_cons, List.flatten_nil, Nat.reduceEqDiff, Nat.reduceLeDiff, Nat.reduceAdd, Nat.reduceMul, Nat.reduceSub, ↓reduceIte, reduceCtorEq, decide_true, decide_false]
        refine ⟨_, by omega, i + 1, rfl, by omega, ?_⟩
        (repeat' apply And.intro) <;> first | rfl | (rw [wrapS (by omega)]) | omega | assumption | (exact allS hz (by rw [hm, decide_eq_true h1]; simp))
    · have hi' : i = x.mv.length := by omega
      simp only [List.length_map, ltF hlt, f1, f2, f5, hds, Cd.cd104, Tk.t104, base0, base1, base2, base3, Option.isNone_none, Option.isNone_some, Nat.reduceBEq, true_or, or_true, false_or, or_false, Nat.reduceLT, Nat.reduceMod, Nat.reducePow, rmaps, nsucc, List.flatten_cons, List.flatten_nil, Nat.reduceEqDiff, Nat.reduceLeDiff, Nat.reduceAdd, Nat.reduceMul, Nat.reduceSub, ↓reduceIte, reduceCtorEq, decide_true, decide_false]
      exact fin_v (by
        rw [quietR, List.all_eq_true.mpr]
        intro m hm
        obtain ⟨j, hj, rfl⟩ := mem_getD hm
        exact hz j (by omega))
end Go.Proofs.YtchpcjmgifnmdaaDoor

/- Walks: the reference checks systems, each move. -/
namespace Go.Proofs.YtchpcjmgifnmdaaDoor
open Go Go.Proofs.YtchpcjmgifnmdaaDoor.Ab
set_option maxRecDepth 100000
set_option linter.unusedSimpArgs false

set_option maxHeartbeats 2000000 in
theorem react24 (x : Re) : FCall Tryd.prog 24 [reV x] (· = .tup [.v (.int .i64 (checkR x).1), .v (.int .i64 (checkR x).2)]) := by
  simp only [reV, reL, mvsV]
  refine ACall.enter [] Cd.fn24 (by simp) ?_
  simp only [Cd.cd24, Tk.t24, base0, base1, base2, base3, Option.isNone_none, Option.isNone_some, Nat.reduceBEq, true_or, or_true, false_or, or_false, Nat.reduceLT, Nat.reduceMod, Nat.reducePow, rmaps, nsucc, List.flatten_cons, List.flatten_nil, Nat.reduceEqDiff, Nat.reduceLeDiff, Nat.reduceAdd, Nat.reduceMul, Nat.reduceSub, ↓reduceIte, reduceCtorEq, decide_true, decide_false]
  first | refine FCall.go (within36 _ _ _) (FZs.v3 _ _ _) ?_ | refine FCall.go' (within36 _ _ _) (FZs.v3 _ _ _) ?_ | refine FCall.goQ (within36 _ _ _) (FZs.v3 _ _ _) ?_
  cases h1 : within x.st 1 10
  · simp only [Cd.cd24, Tk.t24, base0, base1, base2, base3, Option.isNone_none, Option.isNone_some, Nat.reduceBEq, true_or, or_true, false_or, or_false, Nat.reduceLT, Nat.reduceMod, Nat.reducePow, rmaps, nsucc, List.flatten_cons, List.flatten_nil, Nat.reduceEqDiff, Nat.reduceLeDiff, Nat.reduceAdd, Nat.reduceMul, Nat.reduceSub, ↓reduceIte, reduceCtorEq, decide_true, decide_false]
    exact fin_p (check_head (by simp [headErr, h1]))
  simp only [Cd.cd24, Tk.t24, base0, base1, base2, base3, Option.isNone_none, Option.isNone_some, Nat.reduceBEq, true_or, or_true, false_or, or_false, Nat.reduceLT, Nat.reduceMod, Nat.reducePow, rmaps, nsucc, List.flatten_cons, List.flatten_nil, Nat.reduceEqDiff, Nat.reduceLeDiff, Nat.reduceAdd, Nat.reduceMul, Nat.reduceSub, ↓reduceIte, reduceCtorEq, decide_true, decide_false]
  first | refine FCall.go (within36 _ _ _) (FZs.v3 _ _ _) ?_ | refine FCall.go' (within36 _ _ _) (FZs.v3 _ _ _) ?_ | refine FCall.goQ (within36 _ _ _) (FZs.v3 _ _ _) ?_
  cases h2 : within x.s0 0 (IntKind.i64.wrap (x.st - 1))
  · simp only [Cd.cd24, Tk.t24, base0, base1, base2, base3, Option.isNone_none, Option.isNone_some, Nat.reduceBEq, true_or, or_true, false_or, or_false, Nat.reduceLT, Nat.reduceMod, Nat.reducePow, rmaps, nsucc, List.flatten_cons, List.flatten_nil, Nat.reduceEqDiff, Nat.reduceLeDiff, Nat.reduceAdd, Nat.reduceMul, Nat.reduceSub, ↓reduceIte, reduceCtorEq, decide_true, decide_false]
    exact fin_p (check_head (by simp [headErr, h2]))
  simp only [Cd.cd24, Tk.t24, base0, base1, base2, base3, Option.isNone_none, Option.isNone_some, Nat.reduceBEq, true_or, or_true, false_or, or_false, Nat.reduceLT, Nat.reduceMod, Nat.reducePow, rmaps, nsucc, List.flatten_cons, List.flatten_nil, Nat.reduceEqDiff, Nat.reduceLeDiff, Nat.reduceAdd, Nat.reduceMul, Nat.reduceSub, ↓reduceIte, reduceCtorEq, decide_true, decide_false]
  first | refine FCall.go (within36 _ _ _) (FZs.v3 _ _ _) ?_ | refine FCall.go' (within36 _ _ _) (FZs.v3 _ _ _) ?_ | refine FCall.goQ (within36 _ _ _) (FZs.v3 _ _ _) ?_
  cases h3 : within x.inp 0 4
  · simp only [Cd.cd24, Tk.t24, base0, base1, base2, base3, Option.isNone_none, Option.isNone_some, Nat.reduceBEq, true_or, or_true, false_or, or_false, Nat.reduceLT, Nat.reduceMod, Nat.reducePow, rmaps, nsucc, List.flatten_cons, List.flatten_nil, Nat.reduceEqDiff, Nat.reduceLeDiff, Nat.reduceAdd, Nat.reduceMul, Nat.reduceSub, ↓reduceIte, reduceCtorEq, decide_true, decide_false]
    exact fin_p (check_head (by simp [headErr, h3]))
  simp only [Cd.cd24, Tk.t24, base0, base1, base2, base3, Option.isNone_none, Option.isNone_some, Nat.reduceBEq, true_or, or_true, false_or, or_false, Nat.reduceLT, Nat.reduceMod, Nat.reducePow, rmaps, nsucc, List.flatten_cons, List.flatten_nil, Nat.reduceEqDiff, Nat.reduceLeDiff, Nat.reduceAdd, Nat.reduceMul, Nat.reduceSub, ↓reduceIte, reduceCtorEq, decide_true, decide_false]
  first | refine FCall.go (within36 _ _ _) (FZs.v3 _ _ _) ?_ | refine FCall.go' (within36 _ _ _) (FZs.v3 _ _ _) ?_ | refine FCall.goQ (within36 _ _ _) (FZs.v3 _ _ _) ?_
  cases h4 : within x.out 0 4
  · simp only [Cd.cd24, Tk.t24, base0, base1, base2, base3, Option.isNone_none, Option.isNone_some, Nat.reduceBEq, true_or, or_true, false_or, or_false, Nat.reduceLT, Nat.reduceMod, Nat.reducePow, rmaps, nsucc, List.flatten_cons, List.flatten_nil, Nat.reduceEqDiff, Nat.reduceLeDiff, Nat.reduceAdd, Nat.reduceMul, Nat.reduceSub, ↓reduceIte, reduceCtorEq, decide_true, decide_false]
    exact fin_p (check_head (by simp [headErr, h4]))
  have hh : headErr x = false := by simp [headErr, h1, h2, h3, h4]
  by_cases h5 : 80 < x.mv.length
  · simp only [List.length_map, show decide (((x.mv.length : Nat) : Int) > 80) = true from decide_eq_true (by omega), Cd.cd24, Tk.t24, base0, base1, base2, base3, Option.isNone_none, Option.isNone_some, Nat.reduceBEq, true_or, or_true, false_or, or_false, Nat.reduceLT, Nat.reduceMod, Nat.reducePow, rmaps, nsucc, List.flatten_cons, List.flatten_nil, Nat.reduceEqDiff, Nat.reduceLeDiff, Nat.reduceAdd, Nat.reduceMul, Nat.reduceSub, ↓reduceIte, reduceCtorEq, decide_true, decide_false]
    exact fin_p (check_large hh h5)
  simp only [List.length_map, show decide (((x.mv.length : Nat) : Int) > 80) = false from decide_eq_false (by omega), Cd.cd24, Tk.t24, base0, base1, base2, base3, Option.isNone_none, Option.isNone_some, Nat.reduceBEq, true_or, or_true, false_or, or_false, Nat.reduceLT, Nat.reduceMod, Nat.reducePow, rmaps, nsucc, List.flatten_cons, List.flatten_nil, Nat.reduceEqDiff, Nat.reduceLeDiff, Nat.reduceAdd, Nat.reduceMul, Nat.reduceSub, ↓reduceIte, reduceCtorEq, decide_true, decide_false]
  refine LWP.loop [] (fun m f H' => ∃ i, m = x.mv.length - i ∧ (i ≤ x.mv.length) ∧ (∀ j, j < i → mvErr x j = 0) ∧ f.t 1 = .box [.v (.int .i64 x.st), .v (.int .i64 x.s0), .v (.int .i64 x.inp), .v (.int .i64 x.out), .lst 4 (x.mv.map mvR) .unk] ∧ f.t 4 = .v (.int .i64 (i : Nat)) ∧ f.ds = [] ∧ True) ?_ ?_ (m := x.mv.length - (0))
  · exact ⟨0, rfl, (by omega), (fun j hj => by omega), rfl, rfl, rfl, trivial⟩
  · rintro m f H' ⟨i, rfl, hi, hz, f1, f4, hds, hH⟩
    by_cases hlt : i < x.mv.length
    · have hg := getD_map mvR x.mv i hlt
      generalize hm : x.mv.getD i default = mi at hg
      have ek : within mi.kd 0 2 = true → ∀ e, (labels x mi = e) → within mi.fr 0 (IntKind.i64.wrap (x.st - 1)) = false ∨ within mi.to 0 (IntKind.i64.wrap (x.st - 1)) = false ∨ within mi.lb 0 (IntKind.i64.wrap (e - 1)) = false → checkR x = ((i : Int), 3) := fun hk e he h => by
        subst he; subst hm
        exact check_move hh h5 hlt hz (mvErr_range hk h) (by omega)
      have fin : ∀ e, labels x mi = e → within mi.kd 0 2 = true → within mi.fr 0 (IntKind.i64.wrap (x.st - 1)) = true → within mi.to 0 (IntKind.i64.wrap (x.st - 1)) = true → within mi.lb 0 (IntKind.i64.wrap (e - 1)) = true →
          mvErr x i = if decide (0 < i) && decide (0 ≤ cmpMv (x.mv.getD (i - 1) default) mi) then 14 else 0 := fun e he a b c d => by
        subst he; subst hm; exact mvErr_ord a b c d
      by_cases k0 : mi.kd = 0
      · simp only [ltT hlt, List.length_map, inR hlt, Int.toNat_natCast, hg, mvR, f1, f4, hds, Cd.cd24, Tk.t24, base0, base1, base2, base3, Option.isNone_none, Option.isNone_some, Nat.reduceBEq, true_or, or_true, false_or, or_false, Nat.reduceLT, Nat.reduceMod, Nat.reducePow, rmaps, nsucc, List.flatten_cons, List.flatten_nil, Nat.reduceEqDiff, Nat.reduceLeDiff, Nat.reduceAdd, Nat.reduceMul, Nat.reduceSub, ↓reduceIte, reduceCtorEq, decide_true, decide_false]
        first | refine FCall.go (within36 _ _ _) (FZs.v3 _ _ _) ?_ | refine FCall.go' (within36 _ _ _) (FZs.v3 _ _ _) ?_ | refine FCall.goQ (within36 _ _ _) (FZs.v3 _ _ _) ?_
        rw [(kd_in.mpr (.inl k0))]
        simp only [show (mi.kd == 0) = true from beq_iff_eq.mpr k0, show (mi.kd == 1) = false from beq_eq_false_iff_ne.mpr (by omega), f1, f4, hds, Cd.cd24, Tk.t24, base0, base1, base2, base3, Option.isNone_none, Option.isNone_some, Nat.reduceBEq, true_or, or_true, false_or, or_false, Nat.reduceLT, Nat.reduceMod, Nat.reducePow, rmaps, nsucc, List.flatten_cons, List.flatten_nil, Nat.reduceEqDiff, Nat.reduceLeDiff, Nat.reduceAdd, Nat.reduceMul, Nat.reduceSub, ↓reduceIte, reduceCtorEq, decide_true, decide_false]
        first | refine FCall.go (within36 _ _ _) (FZs.v3 _ _ _) ?_ | refine FCall.go' (within36 _ _ _) (FZs.v3 _ _ _) ?_ | refine FCall.goQ (within36 _ _ _) (FZs.v3 _ _ _) ?_
        cases r1 : within mi.fr 0 (IntKind.i64.wrap (x.st - 1))
        · simp only [f1, f4, hds, Cd.cd24, Tk.t24, base0, base1, base2, base3, Option.isNone_none, Option.isNone_some, Nat.reduceBEq, true_or, or_true, false_or, or_false, Nat.reduceLT, Nat.reduceMod, Nat.reducePow, rmaps, nsucc, List.flatten_cons, List.flatten_nil, Nat.reduceEqDiff, Nat.reduceLeDiff, Nat.reduceAdd, Nat.reduceMul, Nat.reduceSub, ↓reduceIte, reduceCtorEq, decide_true, decide_false]
          exact fin_p (ek (kd_in.mpr (.inl k0)) x.inp (by unfold labels; rw [if_pos k0]) (.inl r1))
        simp only [f1, f4, hds, Cd.cd24, Tk.t24, base0, base1, base2, base3, Option.isNone_none, Option.isNone_some, Nat.reduceBEq, true_or, or_true, false_or, or_false, Nat.reduceLT, Nat.reduceMod, Nat.reducePow, rmaps, nsucc, List.flatten_cons, List.flatten_nil, Nat.reduceEqDiff, Nat.reduceLeDiff, Nat.reduceAdd, Nat.reduceMul, Nat.reduceSub, ↓reduceIte, reduceCtorEq, decide_true, decide_false]
        first | refine FCall.go (within36 _ _ _) (FZs.v3 _ _ _) ?_ | refine FCall.go' (within36 _ _ _) (FZs.v3 _ _ _) ?_ | refine FCall.goQ (within36 _ _ _) (FZs.v3 _ _ _) ?_
        cases r2 : within mi.to 0 (IntKind.i64.wrap (x.st - 1))
        · simp only [f1, f4, hds, Cd.cd24, Tk.t24, base0, base1, base2, base3, Option.isNone_none, Option.isNone_some, Nat.reduceBEq, true_or, or_true, false_or, or_false, Nat.reduceLT, Nat.reduceMod, Nat.reducePow, rmaps, nsucc, List.flatten_cons, List.flatten_nil, Nat.reduceEqDiff, Nat.reduceLeDiff, Nat.reduceAdd, Nat.reduceMul, Nat.reduceSub, ↓reduceIte, reduceCtorEq, decide_true, decide_false]
          exact fin_p (ek (kd_in.mpr (.inl k0)) x.inp (by unfold labels; rw [if_pos k0]) (.inr (.inl r2)))
        simp only [f1, f4, hds, Cd.cd24, Tk.t24, base0, base1, base2, base3, Option.isNone_none, Option.isNone_some, Nat.reduceBEq, true_or, or_true, false_or, or_false, Nat.reduceLT, Nat.reduceMod, Nat.reducePow, rmaps, nsucc, List.flatten_cons, List.flatten_nil, Nat.reduceEqDiff, Nat.reduceLeDiff, Nat.reduceAdd, Nat.reduceMul, Nat.reduceSub, ↓reduceIte, reduceCtorEq, decide_true, decide_false]
        first | refine FCall.go (within36 _ _ _) (FZs.v3 _ _ _) ?_ | refine FCall.go' (within36 _ _ _) (FZs.v3 _ _ _) ?_ | refine FCall.goQ (within36 _ _ _) (FZs.v3 _ _ _) ?_
        cases r3 : within mi.lb 0 (IntKind.i64.wrap (x.inp - 1))
        · simp only [f1, f4, hds, Cd.cd24, Tk.t24, base0, base1, base2, base3, Option.isNone_none, Option.isNone_some, Nat.reduceBEq, true_or, or_true, false_or, or_false, Nat.reduceLT, Nat.reduceMod, Nat.reducePow, rmaps, nsucc, List.flatten_cons, List.flatten_nil, Nat.reduceEqDiff, Nat.reduceLeDiff, Nat.reduceAdd, Nat.reduceMul, Nat.reduceSub, ↓reduceIte, reduceCtorEq, decide_true, decide_false]
          exact fin_p (ek (kd_in.mpr (.inl k0)) x.inp (by unfold labels; rw [if_pos k0]) (.inr (.inr r3)))
        have hf := fin x.inp (by unfold labels; rw [if_pos k0]) (kd_in.mpr (.inl k0)) r1 r2 r3
        by_cases hi0 : 0 < i
        · have hl1 : i - 1 < x.mv.length := by omega
          have hw : IntKind.i64.wrap ((i : Int) - 1) = ((i - 1 : Nat) : Int) := by rw [wrapI (by omega) (by omega)]; omega
          have hg1 := getD_map mvR x.mv (i - 1) hl1
          simp only [List.length_map, show decide (((i : Nat) : Int) > 0) = true from decide_eq_true (by omega), hw, inR hl1, Int.toNat_natCast, hg1, mvR, f1, f4, hds, Cd.cd24, Tk.t24, base0, base1, base2, base3, Option.isNone_none, Option.isNone_some, Nat.reduceBEq, true_or, or_true, false_or, or_false, Nat.reduceLT, Nat.reduceMod, Nat.reducePow, rmaps, nsucc, List.flatten_cons, List.flatten_nil, Nat.reduceEqDiff, Nat.reduceLeDiff, Nat.reduceAdd, Nat.reduceMul, Nat.reduceSub, ↓reduceIte, reduceCtorEq, decide_true, decide_false]
          first | refine FCall.go (list69 (x.mv.getD (i - 1) default)) (FZs.one (FZ.mvV _)) ?_ | refine FCall.go' (list69 (x.mv.getD (i - 1) default)) (FZs.one (FZ.mvV _)) ?_ | refine FCall.goQ (list69 (x.mv.getD (i - 1) default)) (FZs.one (FZ.mvV _)) ?_
          simp only [f1, f4, hds, Cd.cd24, Tk.t24, base0, base1, base2, base3, Option.isNone_none, Option.isNone_some, Nat.reduceBEq, true_or, or_true, false_or, or_false, Nat.reduceLT, Nat.reduceMod, Nat.reducePow, rmaps, nsucc, List.flatten_cons, List.flatten_nil, Nat.reduceEqDiff, Nat.reduceLeDiff, Nat.reduceAdd, Nat.reduceMul, Nat.reduceSub, ↓reduceIte, reduceCtorEq, decide_true, decide_false]
          first | refine FCall.go (list69 mi) (FZs.one (FZ.mvV _)) ?_ | refine FCall.go' (list69 mi) (FZs.one (FZ.mvV _)) ?_ | refine FCall.goQ (list69 mi) (FZs.one (FZ.mvV _)) ?_
          simp only [f1, f4, hds, Cd.cd24, Tk.t24, base0, base1, base2, base3, Option.isNone_none, Option.isNone_some, Nat.reduceBEq, true_or, or_true, false_or, or_false, Nat.reduceLT, Nat.reduceMod, Nat.reducePow, rmaps, nsucc, List.flatten_cons, List.flatten_nil, Nat.reduceEqDiff, Nat.reduceLeDiff, Nat.reduceAdd, Nat.reduceMul, Nat.reduceSub, ↓reduceIte, reduceCtorEq, decide_true, decide_false]
          first | refine FCall.go (cmp68m (x.mv.getD (i - 1) default) mi) (FZs.two (FZ.ints _) (FZ.ints _)) ?_ | refine FCall.go' (cmp68m (x.mv.getD (i - 1) default) mi) (FZs.two (FZ.ints _) (FZ.ints _)) ?_ | refine FCall.goQ (cmp68m (x.mv.getD (i - 1) default) mi) (FZs.two (FZ.ints _) (FZ.ints _)) ?_
          by_cases hc : 0 ≤ cmpMv (x.mv.getD (i - 1) default) mi
          · simp only [show decide (cmpMv (x.mv.getD (i - 1) default) mi ≥ 0) = true from decide_eq_true hc, f1, f4, hds, Cd.cd24, Tk.t24, base0, base1, base2, base3, Option.isNone_none, Option.isNone_some, Nat.reduceBEq, true_or, or_true, false_or, or_false, Nat.reduceLT, Nat.reduceMod, Nat.reducePow, rmaps, nsucc, List.flatten_cons, List.flatten_nil, Nat.reduceEqDiff, Nat.reduceLeDiff, Nat.reduceAdd, Nat.reduceMul, Nat.reduceSub, ↓reduceIte, reduceCtorEq, decide_true, decide_false]
            exact fin_p (check_move hh h5 hlt hz (by rw [hf, decide_eq_true hi0, decide_eq_true hc]; rfl) (by omega))
          · simp only [show decide (cmpMv (x.mv.getD (i - 1) default) mi ≥ 0) = false from decide_eq_false hc, f1, f4, hds, Cd.cd24, Tk.t24, base0, base1, base2, base3, Option.isNone_none, Option.isNone_some, Nat.reduceBEq, true_or, or_true, false_or, or_false, Nat.reduceLT, Nat.reduceMod, Nat.reducePow, rmaps, nsucc, List.flatten_cons, List.flatten_nil, Nat.reduceEqDiff, Nat.reduceLeDiff, Nat.reduceAdd, Nat.reduceMul, Nat.reduceSub, ↓reduceIte, reduceCtorEq, decide_true, decide_false]
            refine ⟨_, by omega, i + 1, rfl, by omega, ?_⟩
            (repeat' apply And.intro) <;> first | rfl | (rw [wrapS (by omega)]) | omega | assumption | (exact allS hz (by rw [hf, decide_eq_false hc]; simp))
        · simp only [show decide (((i : Nat) : Int) > 0) = false from decide_eq_false (by omega), f1, f4, hds, Cd.cd24, Tk.t24, base0, base1, base2, base3, Option.isNone_none, Option.isNone_some, Nat.reduceBEq, true_or, or_true, false_or, or_false, Nat.reduceLT, Nat.reduceMod, Nat.reducePow, rmaps, nsucc, List.flatten_cons, List.flatten_nil, Nat.reduceEqDiff, Nat.reduceLeDiff, Nat.reduceAdd, Nat.reduceMul, Nat.reduceSub, ↓reduceIte, reduceCtorEq, decide_true, decide_false]
          refine ⟨_, by omega, i + 1, rfl, by omega, ?_⟩
          (repeat' apply And.intro) <;> first | rfl | (rw [wrapS (by omega)]) | omega | assumption | (exact allS hz (by rw [hf, decide_eq_false hi0]; simp))
      by_cases k1 : mi.kd = 1
      · simp only [ltT hlt, List.length_map, inR hlt, Int.toNat_natCast, hg, mvR, f1, f4, hds, Cd.cd24, Tk.t24, base0, base1, base2, base3, Option.isNone_none, Option.isNone_some, Nat.reduceBEq, true_or, or_true, false_or, or_false, Nat.reduceLT, Nat.reduceMod, Nat.reducePow, rmaps, nsucc, List.flatten_cons, List.flatten_nil, Nat.reduceEqDiff, Nat.reduceLeDiff, Nat.reduceAdd, Nat.reduceMul, Nat.reduceSub, ↓reduceIte, reduceCtorEq, decide_true, decide_false]
        first | refine FCall.go (within36 _ _ _) (FZs.v3 _ _ _) ?_ | refine FCall.go' (within36 _ _ _) (FZs.v3 _ _ _) ?_ | refine FCall.goQ (within36 _ _ _) (FZs.v3 _ _ _) ?_
        rw [(kd_in.mpr (.inr (.inl k1)))]
        simp only [show (mi.kd == 0) = false from beq_eq_false_iff_ne.mpr k0, show (mi.kd == 1) = true from beq_iff_eq.mpr k1, f1, f4, hds, Cd.cd24, Tk.t24, base0, base1, base2, base3, Option.isNone_none, Option.isNone_some, Nat.reduceBEq, true_or, or_true, false_or, or_false, Nat.reduceLT, Nat.reduceMod, Nat.reducePow, rmaps, nsucc, List.flatten_cons, List.flatten_nil, Nat.reduceEqDiff, Nat.reduceLeDiff, Nat.reduceAdd, Nat.reduceMul, Nat.reduceSub, ↓reduceIte, reduceCtorEq, decide_true, decide_false]
        first | refine FCall.go (within36 _ _ _) (FZs.v3 _ _ _) ?_ | refine FCall.go' (within36 _ _ _) (FZs.v3 _ _ _) ?_ | refine FCall.goQ (within36 _ _ _) (FZs.v3 _ _ _) ?_
        cases r1 : within mi.fr 0 (IntKind.i64.wrap (x.st - 1))
        · simp only [f1, f4, hds, Cd.cd24, Tk.t24, base0, base1, base2, base3, Option.isNone_none, Option.isNone_some, Nat.reduceBEq, true_or, or_true, false_or, or_false, Nat.reduceLT, Nat.reduceMod, Nat.reducePow, rmaps, nsucc, List.flatten_cons, List.flatten_nil, Nat.reduceEqDiff, Nat.reduceLeDiff, Nat.reduceAdd, Nat.reduceMul, Nat.reduceSub, ↓reduceIte, reduceCtorEq, decide_true, decide_false]
          exact fin_p (ek (kd_in.mpr (.inr (.inl k1))) x.out (by unfold labels; rw [if_neg k0, if_pos k1]) (.inl r1))
        simp only [f1, f4, hds, Cd.cd24, Tk.t24, base0, base1, base2, base3, Option.isNone_none, Option.isNone_some, Nat.reduceBEq, true_or, or_true, false_or, or_false, Nat.reduceLT, Nat.reduceMod, Nat.reducePow, rmaps, nsucc, List.flatten_cons, List.flatten_nil, Nat.reduceEqDiff, Nat.reduceLeDiff, Nat.reduceAdd, Nat.reduceMul, Nat.reduceSub, ↓reduceIte, reduceCtorEq, decide_true, decide_false]
        first | refine FCall.go (within36 _ _ _) (FZs.v3 _ _ _) ?_ | refine FCall.go' (within36 _ _ _) (FZs.v3 _ _ _) ?_ | refine FCall.goQ (within36 _ _ _) (FZs.v3 _ _ _) ?_
        cases r2 : within mi.to 0 (IntKind.i64.wrap (x.st - 1))
        · simp only [f1, f4, hds, Cd.cd24, Tk.t24, base0, base1, base2, base3, Option.isNone_none, Option.isNone_some, Nat.reduceBEq, true_or, or_true, false_or, or_false, Nat.reduceLT, Nat.reduceMod, Nat.reducePow, rmaps, nsucc, List.flatten_cons, List.flatten_nil, Nat.reduceEqDiff, Nat.reduceLeDiff, Nat.reduceAdd, Nat.reduceMul, Nat.reduceSub, ↓reduceIte, reduceCtorEq, decide_true, decide_false]
          exact fin_p (ek (kd_in.mpr (.inr (.inl k1))) x.out (by unfold labels; rw [if_neg k0, if_pos k1]) (.inr (.inl r2)))
        simp only [f1, f4, hds, Cd.cd24, Tk.t24, base0, base1, base2, base3, Option.isNone_none, Option.isNone_some, Nat.reduceBEq, true_or, or_true, false_or, or_false, Nat.reduceLT, Nat.reduceMod, Nat.reducePow, rmaps, nsucc, List.flatten_cons, List.flatten_nil, Nat.reduceEqDiff, Nat.reduceLeDiff, Nat.reduceAdd, Nat.reduceMul, Nat.reduceSub, ↓reduceIte, reduceCtorEq, decide_true, decide_false]
        first | refine FCall.go (within36 _ _ _) (FZs.v3 _ _ _) ?_ | refine FCall.go' (within36 _ _ _) (FZs.v3 _ _ _) ?_ | refine FCall.goQ (within36 _ _ _) (FZs.v3 _ _ _) ?_
        cases r3 : within mi.lb 0 (IntKind.i64.wrap (x.out - 1))
        · simp only [f1, f4, hds, Cd.cd24, Tk.t24, base0, base1, base2, base3, Option.isNone_none, Option.isNone_some, Nat.reduceBEq, true_or, or_true, false_or, or_false, Nat.reduceLT, Nat.reduceMod, Nat.reducePow, rmaps, nsucc, List.flatten_cons, List.flatten_nil, Nat.reduceEqDiff, Nat.reduceLeDiff, Nat.reduceAdd, Nat.reduceMul, Nat.reduceSub, ↓reduceIte, reduceCtorEq, decide_true, decide_false]
          exact fin_p (ek (kd_in.mpr (.inr (.inl k1))) x.out (by unfold labels; rw [if_neg k0, if_pos k1]) (.inr (.inr r3)))
        have hf := fin x.out (by unfold labels; rw [if_neg k0, if_pos k1]) (kd_in.mpr (.inr (.inl k1))) r1 r2 r3
        by_cases hi0 : 0 < i
        · have hl1 : i - 1 < x.mv.length := by omega
          have hw : IntKind.i64.wrap ((i : Int) - 1) = ((i - 1 : Nat) : Int) := by rw [wrapI (by omega) (by omega)]; omega
          have hg1 := getD_map mvR x.mv (i - 1) hl1
          simp only [List.length_map, show decide (((i : Nat) : Int) > 0) = true from decide_eq_true (by omega), hw, inR hl1, Int.toNat_natCast, hg1, mvR, f1, f4, hds, Cd.cd24, Tk.t24, base0, base1, base2, base3, Option.isNone_none, Option.isNone_some, Nat.reduceBEq, true_or, or_true, false_or, or_false, Nat.reduceLT, Nat.reduceMod, Nat.reducePow, rmaps, nsucc, List.flatten_cons, List.flatten_nil, Nat.reduceEqDiff, Nat.reduceLeDiff, Nat.reduceAdd, Nat.reduceMul, Nat.reduceSub, ↓reduceIte, reduceCtorEq, decide_true, decide_false]
          first | refine FCall.go (list69 (x.mv.getD (i - 1) default)) (FZs.one (FZ.mvV _)) ?_ | refine FCall.go' (list69 (x.mv.getD (i - 1) default)) (FZs.one (FZ.mvV _)) ?_ | refine FCall.goQ (list69 (x.mv.getD (i - 1) default)) (FZs.one (FZ.mvV _)) ?_
          simp only [f1, f4, hds, Cd.cd24, Tk.t24, base0, base1, base2, base3, Option.isNone_none, Option.isNone_some, Nat.reduceBEq, true_or, or_true, false_or, or_false, Nat.reduceLT, Nat.reduceMod, Nat.reducePow, rmaps, nsucc, List.flatten_cons, List.flatten_nil, Nat.reduceEqDiff, Nat.reduceLeDiff, Nat.reduceAdd, Nat.reduceMul, Nat.reduceSub, ↓reduceIte, reduceCtorEq, decide_true, decide_false]
          first | refine FCall.go (list69 mi) (FZs.one (FZ.mvV _)) ?_ | refine FCall.go' (list69 mi) (FZs.one (FZ.mvV _)) ?_ | refine FCall.goQ (list69 mi) (FZs.one (FZ.mvV _)) ?_
          simp only [f1, f4, hds, Cd.cd24, Tk.t24, base0, base1, base2, base3, Option.isNone_none, Option.isNone_some, Nat.reduceBEq, true_or, or_true, false_or, or_false, Nat.reduceLT, Nat.reduceMod, Nat.reducePow, rmaps, nsucc, List.flatten_cons, List.flatten_nil, Nat.reduceEqDiff, Nat.reduceLeDiff, Nat.reduceAdd, Nat.reduceMul, Nat.reduceSub, ↓reduceIte, reduceCtorEq, decide_true, decide_false]
          first | refine FCall.go (cmp68m (x.mv.getD (i - 1) default) mi) (FZs.two (FZ.ints _) (FZ.ints _)) ?_ | refine FCall.go' (cmp68m (x.mv.getD (i - 1) default) mi) (FZs.two (FZ.ints _) (FZ.ints _)) ?_ | refine FCall.goQ (cmp68m (x.mv.getD (i - 1) default) mi) (FZs.two (FZ.ints _) (FZ.ints _)) ?_
          by_cases hc : 0 ≤ cmpMv (x.mv.getD (i - 1) default) mi
          · simp only [show decide (cmpMv (x.mv.getD (i - 1) default) mi ≥ 0) = true from decide_eq_true hc, f1, f4, hds, Cd.cd24, Tk.t24, base0, base1, base2, base3, Option.isNone_none, Option.isNone_some, Nat.reduceBEq, true_or, or_true, false_or, or_false, Nat.reduceLT, Nat.reduceMod, Nat.reducePow, rmaps, nsucc, List.flatten_cons, List.flatten_nil, Nat.reduceEqDiff, Nat.reduceLeDiff, Nat.reduceAdd, Nat.reduceMul, Nat.reduceSub, ↓reduceIte, reduceCtorEq, decide_true, decide_false]
            exact fin_p (check_move hh h5 hlt hz (by rw [hf, decide_eq_true hi0, decide_eq_true hc]; rfl) (by omega))
          · simp only [show decide (cmpMv (x.mv.getD (i - 1) default) mi ≥ 0) = false from decide_eq_false hc, f1, f4, hds, Cd.cd24, Tk.t24, base0, base1, base2, base3, Option.isNone_none, Option.isNone_some, Nat.reduceBEq, true_or, or_true, false_or, or_false, Nat.reduceLT, Nat.reduceMod, Nat.reducePow, rmaps, nsucc, List.flatten_cons, List.flatten_nil, Nat.reduceEqDiff, Nat.reduceLeDiff, Nat.reduceAdd, Nat.reduceMul, Nat.reduceSub, ↓reduceIte, reduceCtorEq, decide_true, decide_false]
            refine ⟨_, by omega, i + 1, rfl, by omega, ?_⟩
            (repeat' apply And.intro) <;> first | rfl | (rw [wrapS (by omega)]) | omega | assumption | (exact allS hz (by rw [hf, decide_eq_false hc]; simp))
        · simp only [show decide (((i : Nat) : Int) > 0) = false from decide_eq_false (by omega), f1, f4, hds, Cd.cd24, Tk.t24, base0, base1, base2, base3, Option.isNone_none, Option.isNone_some, Nat.reduceBEq, true_or, or_true, false_or, or_false, Nat.reduceLT, Nat.reduceMod, Nat.reducePow, rmaps, nsucc, List.flatten_cons, List.flatten_nil, Nat.reduceEqDiff, Nat.reduceLeDiff, Nat.reduceAdd, Nat.reduceMul, Nat.reduceSub, ↓reduceIte, reduceCtorEq, decide_true, decide_false]
          refine ⟨_, by omega, i + 1, rfl, by omega, ?_⟩
          (repeat' apply And.intro) <;> first | rfl | (rw [wrapS (by omega)]) | omega | assumption | (exact allS hz (by rw [hf, decide_eq_false hi0]; simp))
      by_cases k2 : mi.kd = 2
      · simp only [ltT hlt, List.length_map, inR hlt, Int.toNat_natCast, hg, mvR, f1, f4, hds, Cd.cd24, Tk.t24, base0, base1, base2, base3, Option.isNone_none, Option.isNone_some, Nat.reduceBEq, true_or, or_true, false_or, or_false, Nat.reduceLT, Nat.reduceMod, Nat.reducePow, rmaps, nsucc, List.flatten_cons, List.flatten_nil, Nat.reduceEqDiff, Nat.reduceLeDiff, Nat.reduceAdd, Nat.reduceMul, Nat.reduceSub, ↓reduceIte, reduceCtorEq, decide_true, decide_false]
        first | refine FCall.go (within36 _ _ _) (FZs.v3 _ _ _) ?_ | refine FCall.go' (within36 _ _ _) (FZs.v3 _ _ _) ?_ | refine FCall.goQ (within36 _ _ _) (FZs.v3 _ _ _) ?_
        rw [(kd_in.mpr (.inr (.inr k2)))]
        simp only [show (mi.kd == 0) = false from beq_eq_false_iff_ne.mpr k0, show (mi.kd == 1) = false from beq_eq_false_iff_ne.mpr k1, f1, f4, hds, Cd.cd24, Tk.t24, base0, base1, base2, base3, Option.isNone_none, Option.isNone_some, Nat.reduceBEq, true_or, or_true, false_or, or_false, Nat.reduceLT, Nat.reduceMod, Nat.reducePow, rmaps, nsucc, List.flatten_cons, List.flatten_nil, Nat.reduceEqDiff, Nat.reduceLeDiff, Nat.reduceAdd, Nat.reduceMul, Nat.reduceSub, ↓reduceIte, reduceCtorEq, decide_true, decide_false]
        first | refine FCall.go (within36 _ _ _) (FZs.v3 _ _ _) ?_ | refine FCall.go' (within36 _ _ _) (FZs.v3 _ _ _) ?_ | refine FCall.goQ (within36 _ _ _) (FZs.v3 _ _ _) ?_
        cases r1 : within mi.fr 0 (IntKind.i64.wrap (x.st - 1))
        · simp only [f1, f4, hds, Cd.cd24, Tk.t24, base0, base1, base2, base3, Option.isNone_none, Option.isNone_some, Nat.reduceBEq, true_or, or_true, false_or, or_false, Nat.reduceLT, Nat.reduceMod, Nat.reducePow, rmaps, nsucc, List.flatten_cons, List.flatten_nil, Nat.reduceEqDiff, Nat.reduceLeDiff, Nat.reduceAdd, Nat.reduceMul, Nat.reduceSub, ↓reduceIte, reduceCtorEq, decide_true, decide_false]
          exact fin_p (ek (kd_in.mpr (.inr (.inr k2))) 1 (by unfold labels; rw [if_neg k0, if_neg k1]) (.inl r1))
        simp only [f1, f4, hds, Cd.cd24, Tk.t24, base0, base1, base2, base3, Option.isNone_none, Option.isNone_some, Nat.reduceBEq, true_or, or_true, false_or, or_false, Nat.reduceLT, Nat.reduceMod, Nat.reducePow, rmaps, nsucc, List.flatten_cons, List.flatten_nil, Nat.reduceEqDiff, Nat.reduceLeDiff, Nat.reduceAdd, Nat.reduceMul, Nat.reduceSub, ↓reduceIte, reduceCtorEq, decide_true, decide_false]
        first | refine FCall.go (within36 _ _ _) (FZs.v3 _ _ _) ?_ | refine FCall.go' (within36 _ _ _) (FZs.v3 _ _ _) ?_ | refine FCall.goQ (within36 _ _ _) (FZs.v3 _ _ _) ?_
        cases r2 : within mi.to 0 (IntKind.i64.wrap (x.st - 1))
        · simp only [f1, f4, hds, Cd.cd24, Tk.t24, base0, base1, base2, base3, Option.isNone_none, Option.isNone_some, Nat.reduceBEq, true_or, or_true, false_or, or_false, Nat.reduceLT, Nat.reduceMod, Nat.reducePow, rmaps, nsucc, List.flatten_cons, List.flatten_nil, Nat.reduceEqDiff, Nat.reduceLeDiff, Nat.reduceAdd, Nat.reduceMul, Nat.reduceSub, ↓reduceIte, reduceCtorEq, decide_true, decide_false]
          exact fin_p (ek (kd_in.mpr (.inr (.inr k2))) 1 (by unfold labels; rw [if_neg k0, if_neg k1]) (.inr (.inl r2)))
        simp only [f1, f4, hds, Cd.cd24, Tk.t24, base0, base1, base2, base3, Option.isNone_none, Option.isNone_some, Nat.reduceBEq, true_or, or_true, false_or, or_false, Nat.reduceLT, Nat.reduceMod, Nat.reducePow, rmaps, nsucc, List.flatten_cons, List.flatten_nil, Nat.reduceEqDiff, Nat.reduceLeDiff, Nat.reduceAdd, Nat.reduceMul, Nat.reduceSub, ↓reduceIte, reduceCtorEq, decide_true, decide_false]
        first | refine FCall.go (within36 _ _ _) (FZs.v3 _ _ _) ?_ | refine FCall.go' (within36 _ _ _) (FZs.v3 _ _ _) ?_ | refine FCall.goQ (within36 _ _ _) (FZs.v3 _ _ _) ?_
        cases r3 : within mi.lb 0 0
        · simp only [f1, f4, hds, Cd.cd24, Tk.t24, base0, base1, base2, base3, Option.isNone_none, Option.isNone_some, Nat.reduceBEq, true_or, or_true, false_or, or_false, Nat.reduceLT, Nat.reduceMod, Nat.reducePow, rmaps, nsucc, List.flatten_cons, List.flatten_nil, Nat.reduceEqDiff, Nat.reduceLeDiff, Nat.reduceAdd, Nat.reduceMul, Nat.reduceSub, ↓reduceIte, reduceCtorEq, decide_true, decide_false]
          exact fin_p (ek (kd_in.mpr (.inr (.inr k2))) 1 (by unfold labels; rw [if_neg k0, if_neg k1]) (.inr (.inr (show within mi.lb 0 (IntKind.i64.wrap (1 - 1)) = false from r3))))
        have hf := fin 1 (by unfold labels; rw [if_neg k0, if_neg k1]) (kd_in.mpr (.inr (.inr k2))) r1 r2 (show within mi.lb 0 (IntKind.i64.wrap (1 - 1)) = true from r3)
        by_cases hi0 : 0 < i
        · have hl1 : i - 1 < x.mv.length := by omega
          have hw : IntKind.i64.wrap ((i : Int) - 1) = ((i - 1 : Nat) : Int) := by rw [wrapI (by omega) (by omega)]; omega
          have hg1 := getD_map mvR x.mv (i - 1) hl1
          simp only [List.length_map, show decide (((i : Nat) : Int) > 0) = true from decide_eq_true (by omega), hw, inR hl1, Int.toNat_natCast, hg1, mvR, f1, f4, hds, Cd.cd24, Tk.t24, base0, base1, base2, base3, Option.isNone_none, Option.isNone_some, Nat.reduceBEq, true_or, or_true, false_or, or_false, Nat.reduceLT, Nat.reduceMod, Nat.reducePow, rmaps, nsucc, List.flatten_cons, List.flatten_nil, Nat.reduceEqDiff, Nat.reduceLeDiff, Nat.reduceAdd, Nat.reduceMul, Nat.reduceSub, ↓reduceIte, reduceCtorEq, decide_true, decide_false]
          first | refine FCall.go (list69 (x.mv.getD (i - 1) default)) (FZs.one (FZ.mvV _)) ?_ | refine FCall.go' (list69 (x.mv.getD (i - 1) default)) (FZs.one (FZ.mvV _)) ?_ | refine FCall.goQ (list69 (x.mv.getD (i - 1) default)) (FZs.one (FZ.mvV _)) ?_
          simp only [f1, f4, hds, Cd.cd24, Tk.t24, base0, base1, base2, base3, Option.isNone_none, Option.isNone_some, Nat.reduceBEq, true_or, or_true, false_or, or_false, Nat.reduceLT, Nat.reduceMod, Nat.reducePow, rmaps, nsucc, List.flatten_cons, List.flatten_nil, Nat.reduceEqDiff, Nat.reduceLeDiff, Nat.reduceAdd, Nat.reduceMul, Nat.reduceSub, ↓reduceIte, reduceCtorEq, decide_true, decide_false]
          first | refine FCall.go (list69 mi) (FZs.one (FZ.mvV _)) ?_ | refine FCall.go' (list69 mi) (FZs.one (FZ.mvV _)) ?_ | refine FCall.goQ (list69 mi) (FZs.one (FZ.mvV _)) ?_
          simp only [f1, f4, hds, Cd.cd24, Tk.t24, base0, base1, base2, base3, Option.isNone_none, Option.isNone_some, Nat.reduceBEq, true_or, or_true, false_or, or_false, Nat.reduceLT, Nat.reduceMod, Nat.reducePow, rmaps, nsucc, List.flatten_cons, List.flatten_nil, Nat.reduceEqDiff, Nat.reduceLeDiff, Nat.reduceAdd, Nat.reduceMul, Nat.reduceSub, ↓reduceIte, reduceCtorEq, decide_true, decide_false]
          first | refine FCall.go (cmp68m (x.mv.getD (i - 1) default) mi) (FZs.two (FZ.ints _) (FZ.ints _)) ?_ | refine FCall.go' (cmp68m (x.mv.getD (i - 1) default) mi) (FZs.two (FZ.ints _) (FZ.ints _)) ?_ | refine FCall.goQ (cmp68m (x.mv.getD (i - 1) default) mi) (FZs.two (FZ.ints _) (FZ.ints _)) ?_
          by_cases hc : 0 ≤ cmpMv (x.mv.getD (i - 1) default) mi
          · simp only [show decide (cmpMv (x.mv.getD (i - 1) default) mi ≥ 0) = true from decide_eq_true hc, f1, f4, hds, Cd.cd24, Tk.t24, base0, base1, base2, base3, Option.isNone_none, Option.isNone_some, Nat.reduceBEq, true_or, or_true, false_or, or_false, Nat.reduceLT, Nat.reduceMod, Nat.reducePow, rmaps, nsucc, List.flatten_cons, List.flatten_nil, Nat.reduceEqDiff, Nat.reduceLeDiff, Nat.reduceAdd, Nat.reduceMul, Nat.reduceSub, ↓reduceIte, reduceCtorEq, decide_true, decide_false]
            exact fin_p (check_move hh h5 hlt hz (by rw [hf, decide_eq_true hi0, decide_eq_true hc]; rfl) (by omega))
          · simp only [show decide (cmpMv (x.mv.getD (i - 1) default) mi ≥ 0) = false from decide_eq_false hc, f1, f4, hds, Cd.cd24, Tk.t24, base0, base1, base2, base3, Option.isNone_none, Option.isNone_some, Nat.reduceBEq, true_or, or_true, false_or, or_false, Nat.reduceLT, Nat.reduceMod, Nat.reducePow, rmaps, nsucc, List.flatten_cons, List.flatten_nil, Nat.reduceEqDiff, Nat.reduceLeDiff, Nat.reduceAdd, Nat.reduceMul, Nat.reduceSub, ↓reduceIte, reduceCtorEq, decide_true, decide_false]
            refine ⟨_, by omega, i + 1, rfl, by omega, ?_⟩
            (repeat' apply And.intro) <;> first | rfl | (rw [wrapS (by omega)]) | omega | assumption | (exact allS hz (by rw [hf, decide_eq_false hc]; simp))
        · simp only [show decide (((i : Nat) : Int) > 0) = false from decide_eq_false (by omega), f1, f4, hds, Cd.cd24, Tk.t24, base0, base1, base2, base3, Option.isNone_none, Option.isNone_some, Nat.reduceBEq, true_or, or_true, false_or, or_false, Nat.reduceLT, Nat.reduceMod, Nat.reducePow, rmaps, nsucc, List.flatten_cons, List.flatten_nil, Nat.reduceEqDiff, Nat.reduceLeDiff, Nat.reduceAdd, Nat.reduceMul, Nat.reduceSub, ↓reduceIte, reduceCtorEq, decide_true, decide_false]
          refine ⟨_, by omega, i + 1, rfl, by omega, ?_⟩
          (repeat' apply And.intro) <;> first | rfl | (rw [wrapS (by omega)]) | omega | assumption | (exact allS hz (by rw [hf, decide_eq_false hi0]; simp))
      · simp only [ltT hlt, List.length_map, inR hlt, Int.toNat_natCast, hg, mvR, f1, f4, hds, Cd.cd24, Tk.t24, base0, base1, base2, base3, Option.isNone_none, Option.isNone_some, Nat.reduceBEq, true_or, or_true, false_or, or_false, Nat.reduceLT, Nat.reduceMod, Nat.reducePow, rmaps, nsucc, List.flatten_cons, List.flatten_nil, Nat.reduceEqDiff, Nat.reduceLeDiff, Nat.reduceAdd, Nat.reduceMul, Nat.reduceSub, ↓reduceIte, reduceCtorEq, decide_true, decide_false]
        first | refine FCall.go (within36 _ _ _) (FZs.v3 _ _ _) ?_ | refine FCall.go' (within36 _ _ _) (FZs.v3 _ _ _) ?_ | refine FCall.goQ (within36 _ _ _) (FZs.v3 _ _ _) ?_
        rw [kd_out k0 k1 k2]
        simp only [f1, f4, hds, Cd.cd24, Tk.t24, base0, base1, base2, base3, Option.isNone_none, Option.isNone_some, Nat.reduceBEq, true_or, or_true, false_or, or_false, Nat.reduceLT, Nat.reduceMod, Nat.reducePow, rmaps, nsucc, List.flatten_cons, List.flatten_nil, Nat.reduceEqDiff, Nat.reduceLeDiff, Nat.reduceAdd, Nat.reduceMul, Nat.reduceSub, ↓reduceIte, reduceCtorEq, decide_true, decide_false]
        exact fin_p (check_move hh h5 hlt hz (mvErr_kind (by rw [hm]; exact kd_out k0 k1 k2)) (by omega))
    · have hi' : i = x.mv.length := by omega
      simp only [List.length_map, ltF hlt, f1, f4, hds, Cd.cd24, Tk.t24, base0, base1, base2, base3, Option.isNone_none, Option.isNone_some, Nat.reduceBEq, true_or, or_true, false_or, or_false, Nat.reduceLT, Nat.reduceMod, Nat.reducePow, rmaps, nsucc, List.flatten_cons, List.flatten_nil, Nat.reduceEqDiff, Nat.reduceLeDiff, Nat.reduceAdd, Nat.reduceMul, Nat.reduceSub, ↓reduceIte, reduceCtorEq, decide_true, decide_false]
      exact fin_p (check_ok hh h5 (by rw [← hi']; exact hz))
theorem err27 (x : Re) : FCall Tryd.prog 27 [reV x] (· = .v (.int .i64 (errR x))) := by
  simp only [reV, reL, mvsV]
  refine ACall.enter [] Cd.fn27 (by simp) ?_
  simp only [Cd.cd27, Tk.t27, base0, base1, base2, base3, Option.isNone_none, Option.isNone_some, Nat.reduceBEq, true_or, or_true, false_or, or_false, Nat.reduceLT, Nat.reduceMod, Nat.reducePow, rmaps, nsucc, List.flatten_cons, List.flatten_nil, Nat.reduceEqDiff, Nat.reduceLeDiff, Nat.reduceAdd, Nat.reduceMul, Nat.reduceSub, ↓reduceIte, reduceCtorEq, decide_true, decide_false]
  refine (react24 x).go (FZs.one (FZ.reV x)) ?_
  simp only [Cd.cd27, Tk.t27, base0, base1, base2, base3, Option.isNone_none, Option.isNone_some, Nat.reduceBEq, true_or, or_true, false_or, or_false, Nat.reduceLT, Nat.reduceMod, Nat.reducePow, rmaps, nsucc, List.flatten_cons, List.flatten_nil, Nat.reduceEqDiff, Nat.reduceLeDiff, Nat.reduceAdd, Nat.reduceMul, Nat.reduceSub, ↓reduceIte, reduceCtorEq, decide_true, decide_false]
  exact fin_v rfl
theorem two20 (x y : Re) : FCall Tryd.prog 20 [reV x, reV y] (· = .v (.int .i64 (bothR x y))) := by
  simp only [reV, reL, mvsV]
  refine ACall.enter [] Cd.fn20 (by simp) ?_
  simp only [Cd.cd20, Tk.t20, base0, base1, base2, base3, Option.isNone_none, Option.isNone_some, Nat.reduceBEq, true_or, or_true, false_or, or_false, Nat.reduceLT, Nat.reduceMod, Nat.reducePow, rmaps, nsucc, List.flatten_cons, List.flatten_nil, Nat.reduceEqDiff, Nat.reduceLeDiff, Nat.reduceAdd, Nat.reduceMul, Nat.reduceSub, ↓reduceIte, reduceCtorEq, decide_true, decide_false]
  refine (err27 x).go (FZs.one (FZ.reV x)) ?_
  by_cases e1 : errR x = 0
  · simp only [show (errR x != 0) = false from by rw [e1]; rfl, Cd.cd20, Tk.t20, base0, base1, base2, base3, Option.isNone_none, Option.isNone_some, Nat.reduceBEq, true_or, or_true, false_or, or_false, Nat.reduceLT, Nat.reduceMod, Nat.reducePow, rmaps, nsucc, List.flatten_cons, List.flatten_nil, Nat.reduceEqDiff, Nat.reduceLeDiff, Nat.reduceAdd, Nat.reduceMul, Nat.reduceSub, ↓reduceIte, reduceCtorEq, decide_true, decide_false]
    refine (err27 y).go (FZs.one (FZ.reV y)) ?_
    by_cases e2 : errR y = 0
    · by_cases h1 : x.inp = y.inp
      · by_cases h2 : x.out = y.out
        · simp only [show (errR y != 0) = false from by rw [e2]; rfl, show (x.inp != y.inp) = false from by simp [h1], show (x.out != y.out) = false from by simp [h2], Cd.cd20, Tk.t20, base0, base1, base2, base3, Option.isNone_none, Option.isNone_some, Nat.reduceBEq, true_or, or_true, false_or, or_false, Nat.reduceLT, Nat.reduceMod, Nat.reducePow, rmaps, nsucc, List.flatten_cons, List.flatten_nil, Nat.reduceEqDiff, Nat.reduceLeDiff, Nat.reduceAdd, Nat.reduceMul, Nat.reduceSub, ↓reduceIte, reduceCtorEq, decide_true, decide_false]
          exact fin_v (by rw [bothR, e1, e2, decide_eq_true h1, decide_eq_true h2]; rfl)
        · simp only [show (errR y != 0) = false from by rw [e2]; rfl, show (x.inp != y.inp) = false from by simp [h1], show (x.out != y.out) = true from by simp [h2], Cd.cd20, Tk.t20, base0, base1, base2, base3, Option.isNone_none, Option.isNone_some, Nat.reduceBEq, true_or, or_true, false_or, or_false, Nat.reduceLT, Nat.reduceMod, Nat.reducePow, rmaps, nsucc, List.flatten_cons, List.flatten_nil, Nat.reduceEqDiff, Nat.reduceLeDiff, Nat.reduceAdd, Nat.reduceMul, Nat.reduceSub, ↓reduceIte, reduceCtorEq, decide_true, decide_false]
          exact fin_v (by rw [bothR, e1, e2, decide_eq_false h2]; simp [orI])
      · simp only [show (errR y != 0) = false from by rw [e2]; rfl, show (x.inp != y.inp) = true from by simp [h1], Cd.cd20, Tk.t20, base0, base1, base2, base3, Option.isNone_none, Option.isNone_some, Nat.reduceBEq, true_or, or_true, false_or, or_false, Nat.reduceLT, Nat.reduceMod, Nat.reducePow, rmaps, nsucc, List.flatten_cons, List.flatten_nil, Nat.reduceEqDiff, Nat.reduceLeDiff, Nat.reduceAdd, Nat.reduceMul, Nat.reduceSub, ↓reduceIte, reduceCtorEq, decide_true, decide_false]
        exact fin_v (by rw [bothR, e1, e2, decide_eq_false h1]; simp [orI])
    · simp only [bneT e2, Cd.cd20, Tk.t20, base0, base1, base2, base3, Option.isNone_none, Option.isNone_some, Nat.reduceBEq, true_or, or_true, false_or, or_false, Nat.reduceLT, Nat.reduceMod, Nat.reducePow, rmaps, nsucc, List.flatten_cons, List.flatten_nil, Nat.reduceEqDiff, Nat.reduceLeDiff, Nat.reduceAdd, Nat.reduceMul, Nat.reduceSub, ↓reduceIte, reduceCtorEq, decide_true, decide_false]
      exact fin_v (by rw [bothR, e1]; simp [orI, e2])
  · simp only [bneT e1, Cd.cd20, Tk.t20, base0, base1, base2, base3, Option.isNone_none, Option.isNone_some, Nat.reduceBEq, true_or, or_true, false_or, or_false, Nat.reduceLT, Nat.reduceMod, Nat.reducePow, rmaps, nsucc, List.flatten_cons, List.flatten_nil, Nat.reduceEqDiff, Nat.reduceLeDiff, Nat.reduceAdd, Nat.reduceMul, Nat.reduceSub, ↓reduceIte, reduceCtorEq, decide_true, decide_false]
    exact fin_v (by rw [bothR, orI, if_pos e1])
end Go.Proofs.YtchpcjmgifnmdaaDoor

/- Walks: what a system does with sets of states. -/
namespace Go.Proofs.YtchpcjmgifnmdaaDoor
open Go Go.Proofs.YtchpcjmgifnmdaaDoor.Ab
set_option maxRecDepth 100000
set_option linter.unusedSimpArgs false

/-- a system by states, as the program keeps it -/
def rowU (k : Nat) (f : Nat → Nat) : AV := .lst 1 ((List.range k).map fun e => [uv (f e)]) .unk
def byV (x : Re) : AV := .lst 1 ((List.range (nst x)).map fun a => [rowU (silc x) (byM x a)]) .unk
def silV (x : Re) : AV := rowU (nst x) (silM x)
def sysL (x : Re) : List AV := reL x ++ [byV x, silV x]
def sysV (x : Re) : AV := .box (sysL x)
theorem FZ.rowU (k : Nat) (f : Nat → Nat) : FZ (rowU k f) := FZ.lst rfl fun r hr => by
  obtain ⟨x, _, rfl⟩ := List.mem_map.mp hr
  exact FZs.v1 _
theorem FZ.byV (x : Re) : FZ (byV x) := FZ.lst rfl fun r hr => by
  obtain ⟨a, _, rfl⟩ := List.mem_map.mp hr
  exact FZs.one (FZ.rowU _ _)
theorem FZs.append {a b : List AV} (h : FZs a) (h' : FZs b) : FZs (a ++ b) := fun c hc => by
  rcases List.mem_append.mp hc with hc | hc
  · exact h c hc
  · exact h' c hc
theorem FZ.sysV (x : Re) : FZ (sysV x) := FZ.box (FZs.append (FZs.reL x) (FZs.two (FZ.byV x) (FZ.rowU _ _)))
theorem getD_range {β : Type} (f : Nat → List β) (k : Nat) (i : Nat) (h : i < k) : ((List.range k).map f).getD i [] = f i := by
  rw [List.getD_eq_getElem?_getD, List.getElem?_map, List.getElem?_range h]; rfl
theorem sys_eq (x : Re) : sysL x = [.v (.int .i64 x.st), .v (.int .i64 x.s0), .v (.int .i64 x.inp), .v (.int .i64 x.out), .lst 4 (x.mv.map mvR) .unk, .lst 1 ((List.range (nst x)).map fun a => [rowU (silc x) (byM x a)]) .unk, .lst 1 ((List.range (nst x)).map fun e => [uv (silM x e)]) .unk] := rfl
theorem silc_eq {x : Re} (hx : Ok x) : IntKind.i64.wrap (x.inp + x.out) = ((silc x : Nat) : Int) := by
  have := hx.inp; have := hx.out
  rw [wrapI (by omega) (by omega)]; unfold silc; omega
theorem silence73 (x : Re) (hx : Ok x) : FCall Tryd.prog 73 [sysV x] (· = .v (.int .i64 (silc x : Nat))) := by
  simp only [sysV, sys_eq]
  refine ACall.enter [] Cd.fn73 (by simp) ?_
  simp only [silc_eq hx, Cd.cd73, Tk.t73, base0, base1, base2, base3, Option.isNone_none, Option.isNone_some, Nat.reduceBEq, true_or, or_true, false_or, or_false, Nat.reduceLT, Nat.reduceMod, Nat.reducePow, rmaps, nsucc, List.flatten_cons, List.flatten_nil, Nat.reduceEqDiff, Nat.reduceLeDiff, Nat.reduceAdd, Nat.reduceMul, Nat.reduceSub, ↓reduceIte, reduceCtorEq, decide_true, decide_false]
  exact fin_v rfl
theorem foldl_succ {α β : Type} [Inhabited α] (f : β → α → β) (z : β) {l : List α} {i : Nat} (h : i < l.length) : (l.take (i + 1)).foldl f z = f ((l.take i).foldl f z) (l.getD i default) := by
  have : l.take (i + 1) = l.take i ++ [l.getD i default] := by
    rw [List.take_add_one, List.getElem?_eq_getElem h, List.getD_eq_getElem?_getD, List.getElem?_eq_getElem h]; rfl
  rw [this, List.foldl_append]; rfl
def stepP (x : Re) (l i : Nat) : Nat := ((bitsN l).take i).foldl (fun acc a => if true then acc ||| silM x a else acc) l
theorem stepP_lt {x : Re} (hx : Ok x) {l : Nat} (h : l < 2 ^ nst x) (i : Nat) : stepP x l i < 2 ^ nst x := foldor_lt (fun _ => true) _ _ _ h fun a _ _ => silM_lt hx a
theorem stepP_succ (x : Re) (l : Nat) {i : Nat} (h : i < (bitsN l).length) : stepP x l (i + 1) = stepP x l i ||| silM x ((bitsN l).getD i 0) := by
  unfold stepP; rw [foldl_succ _ _ h]; rfl
theorem getD_bits {l i : Nat} (h : i < (bitsN l).length) : ((bitsI l).map fun x => [AV.v (.int .i64 x)]).getD i [] = [.v (.int .i64 (((bitsN l).getD i 0 : Nat) : Int))] := by
  rw [getD_ints _ _ (by unfold bitsI; simpa using h)]
  unfold bitsI
  simp [List.getD_eq_getElem?_getD, List.getElem?_map, List.getElem?_eq_getElem h]
theorem bits_at {l i : Nat} (h : i < (bitsN l).length) : (bitsN l).getD i 0 ∈ bitsN l := by
  rw [List.getD_eq_getElem?_getD, List.getElem?_eq_getElem h]; exact List.getElem_mem h
theorem bitsI_len (l : Nat) : (bitsI l).length = (bitsN l).length := by unfold bitsI; simp
theorem bitsN_len (l : Nat) : (bitsN l).length ≤ 10 := by rw [← bitsI_len]; exact setL_len l
theorem eqU {a b : Nat} : ((a : Int) == (b : Int)) = decide (a = b) := by
  by_cases h : a = b
  · subst h; simp
  · simp [h]; omega
set_option maxHeartbeats 1000000 in
theorem closed75 (x : Re) (hx : Ok x) (l : Nat) (hl : l < 2 ^ nst x) : FCall Tryd.prog 75 [sysV x, uv l] (· = uv (cl x l)) := by
  simp only [sysV, sys_eq, uv]
  refine ACall.enter [1] Cd.fn75 (by simp) ?_
  simp only [Cd.cd75, Tk.t75, base0, base1, base2, base3, Option.isNone_none, Option.isNone_some, Nat.reduceBEq, true_or, or_true, false_or, or_false, Nat.reduceLT, Nat.reduceMod, Nat.reducePow, rmaps, nsucc, List.flatten_cons, List.flatten_nil, Nat.reduceEqDiff, Nat.reduceLeDiff, Nat.reduceAdd, Nat.reduceMul, Nat.reduceSub, ↓reduceIte, reduceCtorEq, decide_true, decide_false]
  refine LWP.loop [] (fun m f H' => ∃ c k, m = 1024 - c + 0 ∧ (c < 2 ^ nst x) ∧ (clF x k c = cl x l) ∧ (1024 - c ≤ k) ∧ f.t 0 = .box [.v (.int .i64 x.st), .v (.int .i64 x.s0), .v (.int .i64 x.inp), .v (.int .i64 x.out), .lst 4 (x.mv.map mvR) .unk, .lst 1 ((List.range (nst x)).map fun a => [rowU (silc x) (byM x a)]) .unk, .lst 1 ((List.range (nst x)).map fun e => [.v (.int .u64 (silM x e : Nat))]) .unk] ∧ f.t 1 = .v (.int .u64 (c : Nat)) ∧ f.ds = [] ∧ True) ?_ ?_ (m := 1024 - (l) + 0)
  · exact ⟨l, 1024, rfl, (hl), (rfl), (by omega), rfl, rfl, rfl, trivial⟩
  · rintro m f H' ⟨c, k, rfl, hc, hk, hk2, f0, f1, hds, hH⟩
    have hc' := hx.pw hc
    simp only [f0, f1, hds, Cd.cd75, Tk.t75, base0, base1, base2, base3, Option.isNone_none, Option.isNone_some, Nat.reduceBEq, true_or, or_true, false_or, or_false, Nat.reduceLT, Nat.reduceMod, Nat.reducePow, rmaps, nsucc, List.flatten_cons, List.flatten_nil, Nat.reduceEqDiff, Nat.reduceLeDiff, Nat.reduceAdd, Nat.reduceMul, Nat.reduceSub, ↓reduceIte, reduceCtorEq, decide_true, decide_false]
    refine (states62 c hc').go (FZs.v1 _) ?_
    simp only [setV, ints, List.length_map, bitsI_len, f0, f1, hds, Cd.cd75, Tk.t75, base0, base1, base2, base3, Option.isNone_none, Option.isNone_some, Nat.reduceBEq, true_or, or_true, false_or, or_false, Nat.reduceLT, Nat.reduceMod, Nat.reducePow, rmaps, nsucc, List.flatten_cons, List.flatten_nil, Nat.reduceEqDiff, Nat.reduceLeDiff, Nat.reduceAdd, Nat.reduceMul, Nat.reduceSub, ↓reduceIte, reduceCtorEq, decide_true, decide_false]
    refine LWP.loop [] (fun m f H' => ∃ i, m = (bitsN c).length - i ∧ (i ≤ (bitsN c).length) ∧ f.t 0 = .box [.v (.int .i64 x.st), .v (.int .i64 x.s0), .v (.int .i64 x.inp), .v (.int .i64 x.out), .lst 4 (x.mv.map mvR) .unk, .lst 1 ((List.range (nst x)).map fun a => [rowU (silc x) (byM x a)]) .unk, .lst 1 ((List.range (nst x)).map fun e => [.v (.int .u64 (silM x e : Nat))]) .unk] ∧ f.t 1 = .v (.int .u64 (c : Nat)) ∧ f.t 5 = .v (.int .u64 (stepP x c i : Nat)) ∧ f.t 10 = .lst 1 ((bitsI c).map fun x => [.v (.int .i64 x)]) .unk ∧ f.t 11 = .v (.int .i64 ((bitsN c).length : Nat)) ∧ f.t 12 = .v (.int .i64 (i : Nat)) ∧ f.ds = [] ∧ True) ?_ ?_ (m := (bitsN c).length - (0))
    · exact ⟨0, rfl, (by omega), f0, f1, by rfl, (by first | rfl | exact f10), (by first | rfl | exact f11), (by first | rfl | exact f12), rfl, trivial⟩
    · rintro m f H' ⟨i, rfl, hi, f0, f1, f5, f10, f11, f12, hds, hH2⟩
      have hbl := bitsN_len c
      by_cases hlt : i < (bitsN c).length
      · have ha := bits_n hx hc (bitsN_bit (bits_at hlt))
        have hs1 := hx.pw (stepP_lt hx hc i)
        have hs2 := hx.pw (silM_lt hx ((bitsN c).getD i 0))
        simp only [ltT hlt, List.length_map, bitsI_len, inR hlt, Int.toNat_natCast, getD_bits hlt, List.length_range, inR ha, getD_range _ _ _ ha, orU hs1 hs2, f0, f1, f5, f10, f11, f12, hds, Cd.cd75, Tk.t75, base0, base1, base2, base3, Option.isNone_none, Option.isNone_some, Nat.reduceBEq, true_or, or_true, false_or, or_false, Nat.reduceLT, Nat.reduceMod, Nat.reducePow, rmaps, nsucc, List.flatten_cons, List.flatten_nil, Nat.reduceEqDiff, Nat.reduceLeDiff, Nat.reduceAdd, Nat.reduceMul, Nat.reduceSub, ↓reduceIte, reduceCtorEq, decide_true, decide_false]
        refine ⟨_, by omega, i + 1, rfl, by omega, ?_⟩
        (repeat' apply And.intro) <;> first | rfl | (rw [wrapS (by omega)]) | omega | assumption | (rw [stepP_succ x c hlt])
      · have hi' : i = (bitsN c).length := by omega
        have hst : stepP x c i = stepM x c := by subst hi'; unfold stepP stepM; rw [List.take_length]
        by_cases he : stepM x c = c
        · simp only [ltF hlt, hst, eqU, decide_eq_true he, f0, f1, f5, f10, f11, f12, hds, Cd.cd75, Tk.t75, base0, base1, base2, base3, Option.isNone_none, Option.isNone_some, Nat.reduceBEq, true_or, or_true, false_or, or_false, Nat.reduceLT, Nat.reduceMod, Nat.reducePow, rmaps, nsucc, List.flatten_cons, List.flatten_nil, Nat.reduceEqDiff, Nat.reduceLeDiff, Nat.reduceAdd, Nat.reduceMul, Nat.reduceSub, ↓reduceIte, reduceCtorEq, decide_true, decide_false]
          have e : cl x l = c := by rw [← hk]; exact clF_of_fix he
          exact fin_v (by rw [e])
        · simp only [ltF hlt, hst, eqU, decide_eq_false he, f0, f1, f5, f10, f11, f12, hds, Cd.cd75, Tk.t75, base0, base1, base2, base3, Option.isNone_none, Option.isNone_some, Nat.reduceBEq, true_or, or_true, false_or, or_false, Nat.reduceLT, Nat.reduceMod, Nat.reducePow, rmaps, nsucc, List.flatten_cons, List.flatten_nil, Nat.reduceEqDiff, Nat.reduceLeDiff, Nat.reduceAdd, Nat.reduceMul, Nat.reduceSub, ↓reduceIte, reduceCtorEq, decide_true, decide_false]
          have h1 := stepM_ge (x := x) c
          have h2 := hx.pw (stepM_lt hx hc)
          cases k with
          | zero => omega
          | succ k =>
            have hk3 : clF x k (stepM x c) = cl x l := by rw [← hk, clF, if_neg he]
            exact ⟨_, by omega, stepM x c, k, rfl, stepM_lt hx hc, hk3, by omega, rfl⟩
end Go.Proofs.YtchpcjmgifnmdaaDoor

/- Walks: what a system does after events. -/
namespace Go.Proofs.YtchpcjmgifnmdaaDoor
open Go Go.Proofs.YtchpcjmgifnmdaaDoor.Ab
set_option maxRecDepth 100000
set_option linter.unusedSimpArgs false

def boxV (x : Re) : AV := .box [.v (.int .i64 x.st), .v (.int .i64 x.s0), .v (.int .i64 x.inp), .v (.int .i64 x.out), .lst 4 (x.mv.map mvR) .unk, .lst 1 ((List.range (nst x)).map fun a => [.lst 1 ((List.range (silc x)).map fun e => [.v (.int .u64 (byM x a e : Nat))]) .unk]) .unk, .lst 1 ((List.range (nst x)).map fun e => [.v (.int .u64 (silM x e : Nat))]) .unk]
theorem box_eq (x : Re) : sysV x = boxV x := rfl
theorem neU {a b : Nat} : ((a : Int) != (b : Int)) = decide (a ≠ b) := by
  by_cases h : a = b
  · subst h; simp
  · simp [h]; omega
theorem neU0 {a : Nat} : ((a : Int) != 0) = decide (a ≠ 0) := neU (b := 0)
theorem eqU0 {a : Nat} : ((a : Int) == 0) = decide (a = 0) := eqU (b := 0)
theorem quiet108 (x : Re) (hx : Ok x) (a : Nat) (ha : a < nst x) : FCall Tryd.prog 108 [sysV x, .v (.int .i64 (a : Nat))] (· = .v (.bool (quietM x a))) := by
  have hinp := hx.inp
  have hout := hx.out
  simp only [box_eq, boxV]
  refine ACall.enter [] Cd.fn108 (by simp) ?_
  simp only [Cd.cd108, Tk.t108, base0, base1, base2, base3, Option.isNone_none, Option.isNone_some, Nat.reduceBEq, true_or, or_true, false_or, or_false, Nat.reduceLT, Nat.reduceMod, Nat.reducePow, rmaps, nsucc, List.flatten_cons, List.flatten_nil, Nat.reduceEqDiff, Nat.reduceLeDiff, Nat.reduceAdd, Nat.reduceMul, Nat.reduceSub, ↓reduceIte, reduceCtorEq, decide_true, decide_false]
  refine LWP.loop [] (fun m f H' => ∃ i, m = x.out.toNat - i ∧ (i ≤ x.out.toNat) ∧ (∀ j, j < i → (byM x a (x.inp.toNat + j) == 0) = true) ∧ f.t 0 = boxV x ∧ f.t 1 = .v (.int .i64 (a : Nat)) ∧ f.t 10 = .v (.int .i64 x.out) ∧ f.t 11 = .v (.int .i64 (i : Nat)) ∧ f.ds = [] ∧ H' = AH.none) ?_ ?_ (m := x.out.toNat - (0))
  · exact ⟨0, rfl, (by omega), (fun j hj => by omega), rfl, rfl, rfl, rfl, rfl, rfl⟩
  · rintro m f H' ⟨i, rfl, hi, hz, f0, f1, f10, f11, hds, rfl⟩
    by_cases hlt : i < x.out.toNat
    · have hw : IntKind.i64.wrap (x.inp + (i : Int)) = ((x.inp.toNat + i : Nat) : Int) := by rw [wrapI (by omega) (by omega)]; omega
      have hs : x.inp.toNat + i < silc x := by unfold silc; omega
      by_cases hz0 : byM x a (x.inp.toNat + i) = 0
      · simp only [boxV, show decide ((i : Int) < x.out) = true from decide_eq_true (by omega), hw, List.length_map, List.length_range, inR ha, inR hs, Int.toNat_natCast, getD_range _ _ _ ha, getD_range _ _ _ hs, neU0, show decide (byM x a (x.inp.toNat + i) ≠ 0) = false from decide_eq_false (by simpa using hz0), f0, f1, f10, f11, hds, Cd.cd108, Tk.t108, base0, base1, base2, base3, Option.isNone_none, Option.isNone_some, Nat.reduceBEq, true_or, or_true, false_or, or_false, Nat.reduceLT, Nat.reduceMod, Nat.reducePow, rmaps, nsucc, List.flatten_cons, List.flatten_nil, Nat.reduceEqDiff, Nat.reduceLeDiff, Nat.reduceAdd, Nat.reduceMul, Nat.reduceSub, ↓reduceIte, reduceCtorEq, decide_true, decide_false]
        refine ⟨_, by omega, i + 1, rfl, by omega, ?_⟩
        (repeat' apply And.intro) <;> first | rfl | (rw [wrapS (by omega)]) | omega | assumption | (exact allS hz (by simpa using hz0))
      · simp only [boxV, show decide ((i : Int) < x.out) = true from decide_eq_true (by omega), hw, List.length_map, List.length_range, inR ha, inR hs, Int.toNat_natCast, getD_range _ _ _ ha, getD_range _ _ _ hs, neU0, show decide (byM x a (x.inp.toNat + i) ≠ 0) = true from decide_eq_true hz0, f0, f1, f10, f11, hds, Cd.cd108, Tk.t108, base0, base1, base2, base3, Option.isNone_none, Option.isNone_some, Nat.reduceBEq, true_or, or_true, false_or, or_false, Nat.reduceLT, Nat.reduceMod, Nat.reducePow, rmaps, nsucc, List.flatten_cons, List.flatten_nil, Nat.reduceEqDiff, Nat.reduceLeDiff, Nat.reduceAdd, Nat.reduceMul, Nat.reduceSub, ↓reduceIte, reduceCtorEq, decide_true, decide_false]
        exact fin_v (by rw [quietM, List.all_eq_false.mpr ⟨i, List.mem_range.mpr hlt, by simpa using hz0⟩]; rfl)
    · have hi' : i = x.out.toNat := by omega
      simp only [boxV, show decide ((i : Int) < x.out) = false from decide_eq_false (by omega), List.length_map, List.length_range, inR ha, Int.toNat_natCast, getD_range _ _ _ ha, eqU0, f0, f1, f10, f11, hds, Cd.cd108, Tk.t108, base0, base1, base2, base3, Option.isNone_none, Option.isNone_some, Nat.reduceBEq, true_or, or_true, false_or, or_false, Nat.reduceLT, Nat.reduceMod, Nat.reducePow, rmaps, nsucc, List.flatten_cons, List.flatten_nil, Nat.reduceEqDiff, Nat.reduceLeDiff, Nat.reduceAdd, Nat.reduceMul, Nat.reduceSub, ↓reduceIte, reduceCtorEq, decide_true, decide_false]
      refine fin_v ?_
      rw [quietM, List.all_eq_true.mpr fun j hj => hz j (by have := List.mem_range.mp hj; omega)]
      by_cases h : silM x a = 0 <;> simp [h]
def rawP (x : Re) (l e i : Nat) : Nat := ((bitsN l).take i).foldl (fun acc a => if decide (e < silc x) || quietM x a then acc ||| (if e < silc x then byM x a e else 2 ^ a) else acc) 0
theorem rawP_lt {x : Re} (hx : Ok x) {l : Nat} (hl : l < 2 ^ nst x) (e i : Nat) : rawP x l e i < 2 ^ nst x := by
  unfold rawP
  refine foldor_lt _ _ _ _ (Nat.pow_pos (by omega)) fun a ha _ => ?_
  split
  · exact byM_lt hx a e
  · exact Nat.pow_lt_pow_right (by omega) (bits_n hx hl (bitsN_bit (List.mem_of_mem_take ha)))
theorem rawP_succ (x : Re) (l e : Nat) {i : Nat} (h : i < (bitsN l).length) : rawP x l e (i + 1) = if decide (e < silc x) || quietM x ((bitsN l).getD i 0) then rawP x l e i ||| (if e < silc x then byM x ((bitsN l).getD i 0) e else 2 ^ ((bitsN l).getD i 0)) else rawP x l e i := by
  unfold rawP; rw [foldl_succ _ _ h]; rfl
theorem ltD {a b : Nat} : decide ((a : Int) < (b : Int)) = decide (a < b) := by simp
set_option maxHeartbeats 1000000 in
theorem after74 (x : Re) (hx : Ok x) (l e : Nat) (hl : l < 2 ^ nst x) : FCall Tryd.prog 74 [sysV x, uv l, .v (.int .i64 (e : Nat))] (· = uv (aft x l e)) := by
  have hl' := hx.pw hl
  simp only [uv]
  refine ACall.enter [] Cd.fn74 (by simp) ?_
  simp only [Cd.cd74, Tk.t74, base0, base1, base2, base3, Option.isNone_none, Option.isNone_some, Nat.reduceBEq, true_or, or_true, false_or, or_false, Nat.reduceLT, Nat.reduceMod, Nat.reducePow, rmaps, nsucc, List.flatten_cons, List.flatten_nil, Nat.reduceEqDiff, Nat.reduceLeDiff, Nat.reduceAdd, Nat.reduceMul, Nat.reduceSub, ↓reduceIte, reduceCtorEq, decide_true, decide_false]
  refine (states62 l hl').go (FZs.v1 _) ?_
  simp only [setV, ints, List.length_map, bitsI_len, Cd.cd74, Tk.t74, base0, base1, base2, base3, Option.isNone_none, Option.isNone_some, Nat.reduceBEq, true_or, or_true, false_or, or_false, Nat.reduceLT, Nat.reduceMod, Nat.reducePow, rmaps, nsucc, List.flatten_cons, List.flatten_nil, Nat.reduceEqDiff, Nat.reduceLeDiff, Nat.reduceAdd, Nat.reduceMul, Nat.reduceSub, ↓reduceIte, reduceCtorEq, decide_true, decide_false]
  refine LWP.loop [] (fun m f H' => ∃ i, m = (bitsN l).length - i ∧ (i ≤ (bitsN l).length) ∧ f.t 0 = sysV x ∧ f.t 2 = .v (.int .i64 (e : Nat)) ∧ f.t 7 = .v (.int .u64 (rawP x l e i : Nat)) ∧ f.t 11 = .lst 1 ((bitsI l).map fun x => [.v (.int .i64 x)]) .unk ∧ f.t 12 = .v (.int .i64 ((bitsN l).length : Nat)) ∧ f.t 13 = .v (.int .i64 (i : Nat)) ∧ f.ds = [] ∧ H' = AH.none) ?_ ?_ (m := (bitsN l).length - (0))
  · exact ⟨0, rfl, (by omega), rfl, rfl, by rfl, rfl, rfl, rfl, rfl, rfl⟩
  · rintro m f H' ⟨i, rfl, hi, f0, f2, f7, f11, f12, f13, hds, rfl⟩
    have hbl := bitsN_len l
    by_cases hlt : i < (bitsN l).length
    · have ha := bits_n hx hl (bitsN_bit (bits_at hlt))
      have ha10 := bitsN_lt (bits_at hlt)
      have hs1 := hx.pw (rawP_lt hx hl e i)
      have hs2 := hx.pw (byM_lt hx ((bitsN l).getD i 0) e)
      have hsu := rawP_succ x l e hlt
      simp only [ltT hlt, List.length_map, bitsI_len, inR hlt, Int.toNat_natCast, getD_bits hlt, f0, f2, f7, f11, f12, f13, hds, Cd.cd74, Tk.t74, base0, base1, base2, base3, Option.isNone_none, Option.isNone_some, Nat.reduceBEq, true_or, or_true, false_or, or_false, Nat.reduceLT, Nat.reduceMod, Nat.reducePow, rmaps, nsucc, List.flatten_cons, List.flatten_nil, Nat.reduceEqDiff, Nat.reduceLeDiff, Nat.reduceAdd, Nat.reduceMul, Nat.reduceSub, ↓reduceIte, reduceCtorEq, decide_true, decide_false]
      refine (silence73 x hx).go (FZs.one (FZ.sysV x)) ?_
      by_cases he : e < silc x
      · rw [decide_eq_true he, if_pos he] at hsu
        simp only [ltD, decide_eq_true he, box_eq, boxV, List.length_map, List.length_range, inR ha, inR he, Int.toNat_natCast, getD_range _ _ _ ha, getD_range _ _ _ he, orU hs1 hs2, f0, f2, f7, f11, f12, f13, hds, Cd.cd74, Tk.t74, base0, base1, base2, base3, Option.isNone_none, Option.isNone_some, Nat.reduceBEq, true_or, or_true, false_or, or_false, Nat.reduceLT, Nat.reduceMod, Nat.reducePow, rmaps, nsucc, List.flatten_cons, List.flatten_nil, Nat.reduceEqDiff, Nat.reduceLeDiff, Nat.reduceAdd, Nat.reduceMul, Nat.reduceSub, ↓reduceIte, reduceCtorEq, decide_true, decide_false]
        refine ⟨_, by omega, i + 1, rfl, by omega, ?_⟩
        (repeat' apply And.intro) <;> first | rfl | (rw [wrapS (by omega)]) | omega | assumption | ((rw [hsu]; rfl))
      · rw [decide_eq_false he, if_neg he] at hsu
        simp only [ltD, decide_eq_false he, f0, f2, f7, f11, f12, f13, hds, Cd.cd74, Tk.t74, base0, base1, base2, base3, Option.isNone_none, Option.isNone_some, Nat.reduceBEq, true_or, or_true, false_or, or_false, Nat.reduceLT, Nat.reduceMod, Nat.reducePow, rmaps, nsucc, List.flatten_cons, List.flatten_nil, Nat.reduceEqDiff, Nat.reduceLeDiff, Nat.reduceAdd, Nat.reduceMul, Nat.reduceSub, ↓reduceIte, reduceCtorEq, decide_true, decide_false]
        refine (quiet108 x hx _ ha).go (FZs.two (FZ.sysV x) (FZ.v _)) ?_
        cases hq : quietM x ((bitsN l).getD i 0)
        · rw [hq] at hsu
          simp only [f0, f2, f7, f11, f12, f13, hds, Cd.cd74, Tk.t74, base0, base1, base2, base3, Option.isNone_none, Option.isNone_some, Nat.reduceBEq, true_or, or_true, false_or, or_false, Nat.reduceLT, Nat.reduceMod, Nat.reducePow, rmaps, nsucc, List.flatten_cons, List.flatten_nil, Nat.reduceEqDiff, Nat.reduceLeDiff, Nat.reduceAdd, Nat.reduceMul, Nat.reduceSub, ↓reduceIte, reduceCtorEq, decide_true, decide_false]
          refine ⟨_, by omega, i + 1, rfl, by omega, ?_⟩
          (repeat' apply And.intro) <;> first | rfl | (rw [wrapS (by omega)]) | omega | assumption | ((rw [hsu]; rfl))
        · rw [hq] at hsu
          have h2 : 2 ^ ((bitsN l).getD i 0) < 1024 := (Nat.pow_lt_pow_right (by omega : 1 < 2) ha10 : 2 ^ _ < 2 ^ 10)
          simp only [show ((((bitsN l).getD i 0 : Nat) : Int) < 0) = False from by simp, shlU ha10, orU hs1 h2, f0, f2, f7, f11, f12, f13, hds, Cd.cd74, Tk.t74, base0, base1, base2, base3, Option.isNone_none, Option.isNone_some, Nat.reduceBEq, true_or, or_true, false_or, or_false, Nat.reduceLT, Nat.reduceMod, Nat.reducePow, rmaps, nsucc, List.flatten_cons, List.flatten_nil, Nat.reduceEqDiff, Nat.reduceLeDiff, Nat.reduceAdd, Nat.reduceMul, Nat.reduceSub, ↓reduceIte, reduceCtorEq, decide_true, decide_false]
          refine ⟨_, by omega, i + 1, rfl, by omega, ?_⟩
          (repeat' apply And.intro) <;> first | rfl | (rw [wrapS (by omega)]) | omega | assumption | ((rw [hsu]; rfl))
    · have hi' : i = (bitsN l).length := by omega
      have hst : rawP x l e i = rawA x l e := by subst hi'; unfold rawP rawA; rw [List.take_length]
      simp only [ltF hlt, hst, f0, f2, f7, f11, f12, f13, hds, Cd.cd74, Tk.t74, base0, base1, base2, base3, Option.isNone_none, Option.isNone_some, Nat.reduceBEq, true_or, or_true, false_or, or_false, Nat.reduceLT, Nat.reduceMod, Nat.reducePow, rmaps, nsucc, List.flatten_cons, List.flatten_nil, Nat.reduceEqDiff, Nat.reduceLeDiff, Nat.reduceAdd, Nat.reduceMul, Nat.reduceSub, ↓reduceIte, reduceCtorEq, decide_true, decide_false]
      refine (closed75 x hx _ (rawA_lt hx hl e)).go (FZs.two (FZ.sysV x) (FZ.v _)) ?_
      simp only [f0, f2, f7, f11, f12, f13, hds, Cd.cd74, Tk.t74, base0, base1, base2, base3, Option.isNone_none, Option.isNone_some, Nat.reduceBEq, true_or, or_true, false_or, or_false, Nat.reduceLT, Nat.reduceMod, Nat.reducePow, rmaps, nsucc, List.flatten_cons, List.flatten_nil, Nat.reduceEqDiff, Nat.reduceLeDiff, Nat.reduceAdd, Nat.reduceMul, Nat.reduceSub, ↓reduceIte, reduceCtorEq, decide_true, decide_false]
      exact fin_v rfl
theorem first72 (x : Re) (hx : Ok x) : FCall Tryd.prog 72 [sysV x] (· = uv (fstM x)) := by
  have h0 := hx.s0
  have h1 := hx.st
  have e : (x.s0 : Int) = ((x.s0.toNat : Nat) : Int) := by omega
  have hp : 2 ^ x.s0.toNat < 2 ^ nst x := Nat.pow_lt_pow_right (by omega) (by unfold nst; omega)
  have hs : IntKind.u64.wrap (1 * 2 ^ (min x.s0.toNat IntKind.u64.bits)) = ((2 ^ x.s0.toNat : Nat) : Int) := by
    have := shlU (n := x.s0.toNat) (by omega)
    rwa [Int.toNat_natCast] at this
  refine ACall.enter [] Cd.fn72 (by simp) ?_
  simp only [box_eq, boxV, show (x.s0 < 0) = False from by simp; omega, hs, Cd.cd72, Tk.t72, base0, base1, base2, base3, Option.isNone_none, Option.isNone_some, Nat.reduceBEq, true_or, or_true, false_or, or_false, Nat.reduceLT, Nat.reduceMod, Nat.reducePow, rmaps, nsucc, List.flatten_cons, List.flatten_nil, Nat.reduceEqDiff, Nat.reduceLeDiff, Nat.reduceAdd, Nat.reduceMul, Nat.reduceSub, ↓reduceIte, reduceCtorEq, decide_true, decide_false]
  refine (closed75 x hx _ hp).go (FZs.two (FZ.sysV x) (FZ.v _)) ?_
  simp only [Cd.cd72, Tk.t72, base0, base1, base2, base3, Option.isNone_none, Option.isNone_some, Nat.reduceBEq, true_or, or_true, false_or, or_false, Nat.reduceLT, Nat.reduceMod, Nat.reducePow, rmaps, nsucc, List.flatten_cons, List.flatten_nil, Nat.reduceEqDiff, Nat.reduceLeDiff, Nat.reduceAdd, Nat.reduceMul, Nat.reduceSub, ↓reduceIte, reduceCtorEq, decide_true, decide_false]
  exact fin_v rfl
theorem shows80 (x : Re) (hx : Ok x) (l e : Nat) (hl : l < 2 ^ nst x) : FCall Tryd.prog 80 [sysV x, uv l, .v (.int .i64 (e : Nat))] (· = .v (.bool (shw x l e))) := by
  have hinp := hx.inp
  simp only [uv]
  refine ACall.enter [] Cd.fn80 (by simp) ?_
  by_cases h : x.inp.toNat ≤ e
  · simp only [box_eq, boxV, show decide (((e : Nat) : Int) ≥ x.inp) = true from decide_eq_true (by omega), Cd.cd80, Tk.t80, base0, base1, base2, base3, Option.isNone_none, Option.isNone_some, Nat.reduceBEq, true_or, or_true, false_or, or_false, Nat.reduceLT, Nat.reduceMod, Nat.reducePow, rmaps, nsucc, List.flatten_cons, List.flatten_nil, Nat.reduceEqDiff, Nat.reduceLeDiff, Nat.reduceAdd, Nat.reduceMul, Nat.reduceSub, ↓reduceIte, reduceCtorEq, decide_true, decide_false]
    refine (after74 x hx l e hl).go (FZs.three (FZ.sysV x) (FZ.v _) (FZ.v _)) ?_
    simp only [uv, neU0, Cd.cd80, Tk.t80, base0, base1, base2, base3, Option.isNone_none, Option.isNone_some, Nat.reduceBEq, true_or, or_true, false_or, or_false, Nat.reduceLT, Nat.reduceMod, Nat.reducePow, rmaps, nsucc, List.flatten_cons, List.flatten_nil, Nat.reduceEqDiff, Nat.reduceLeDiff, Nat.reduceAdd, Nat.reduceMul, Nat.reduceSub, ↓reduceIte, reduceCtorEq, decide_true, decide_false]
    refine fin_v ?_
    rw [shw, decide_eq_true h]
    by_cases h2 : aft x l e = 0 <;> simp [h2]
  · simp only [box_eq, boxV, show decide (((e : Nat) : Int) ≥ x.inp) = false from decide_eq_false (by omega), Cd.cd80, Tk.t80, base0, base1, base2, base3, Option.isNone_none, Option.isNone_some, Nat.reduceBEq, true_or, or_true, false_or, or_false, Nat.reduceLT, Nat.reduceMod, Nat.reducePow, rmaps, nsucc, List.flatten_cons, List.flatten_nil, Nat.reduceEqDiff, Nat.reduceLeDiff, Nat.reduceAdd, Nat.reduceMul, Nat.reduceSub, ↓reduceIte, reduceCtorEq, decide_true, decide_false]
    refine fin_v ?_
    rw [shw, decide_eq_false h]; rfl
def alongP (x : Re) (tr : List Int) (i : Nat) : Nat := (tr.take i).foldl (fun l e => aft x l e.toNat) (fstM x)
theorem alongP_lt {x : Re} (hx : Ok x) : ∀ (tr : List Int) (l : Nat), l < 2 ^ nst x → tr.foldl (fun l e => aft x l e.toNat) l < 2 ^ nst x
  | [], _, h => h
  | e :: tr, l, h => alongP_lt hx tr _ (aft_lt hx h _)
theorem along_lt {x : Re} (hx : Ok x) (tr : List Int) : alongM x tr < 2 ^ nst x := alongP_lt hx tr _ (fst_lt hx)
theorem along78 (x : Re) (hx : Ok x) (tr : List Int) (hl : tr.length ≤ 1000000) (ht : ∀ e ∈ tr, 0 ≤ e) : FCall Tryd.prog 78 [sysV x, ints tr] (· = uv (alongM x tr)) := by
  refine ACall.enter [] Cd.fn78 (by simp) ?_
  simp only [Cd.cd78, Tk.t78, base0, base1, base2, base3, Option.isNone_none, Option.isNone_some, Nat.reduceBEq, true_or, or_true, false_or, or_false, Nat.reduceLT, Nat.reduceMod, Nat.reducePow, rmaps, nsucc, List.flatten_cons, List.flatten_nil, Nat.reduceEqDiff, Nat.reduceLeDiff, Nat.reduceAdd, Nat.reduceMul, Nat.reduceSub, ↓reduceIte, reduceCtorEq, decide_true, decide_false]
  refine (first72 x hx).go (FZs.one (FZ.sysV x)) ?_
  simp only [ints, List.length_map, Cd.cd78, Tk.t78, base0, base1, base2, base3, Option.isNone_none, Option.isNone_some, Nat.reduceBEq, true_or, or_true, false_or, or_false, Nat.reduceLT, Nat.reduceMod, Nat.reducePow, rmaps, nsucc, List.flatten_cons, List.flatten_nil, Nat.reduceEqDiff, Nat.reduceLeDiff, Nat.reduceAdd, Nat.reduceMul, Nat.reduceSub, ↓reduceIte, reduceCtorEq, decide_true, decide_false]
  refine LWP.loop [] (fun m f H' => ∃ i, m = tr.length - i ∧ (i ≤ tr.length) ∧ f.t 0 = sysV x ∧ f.t 5 = uv (alongP x tr i) ∧ f.t 10 = .lst 1 (tr.map fun x => [.v (.int .i64 x)]) .unk ∧ f.t 11 = .v (.int .i64 (tr.length : Nat)) ∧ f.t 12 = .v (.int .i64 (i : Nat)) ∧ f.ds = [] ∧ H' = AH.none) ?_ ?_ (m := tr.length - (0))
  · exact ⟨0, rfl, (by omega), rfl, rfl, rfl, rfl, rfl, rfl, rfl⟩
  · rintro m f H' ⟨i, rfl, hi, f0, f5, f10, f11, f12, hds, rfl⟩
    by_cases hlt : i < tr.length
    · have hm := ht _ (getD_mem hlt)
      have he : tr.getD i 0 = ((tr.getD i default).toNat : Int) := by show tr.getD i default = _; omega
      simp only [ltT hlt, List.length_map, inR hlt, Int.toNat_natCast, getD_ints _ _ hlt, he, f0, f5, f10, f11, f12, hds, Cd.cd78, Tk.t78, base0, base1, base2, base3, Option.isNone_none, Option.isNone_some, Nat.reduceBEq, true_or, or_true, false_or, or_false, Nat.reduceLT, Nat.reduceMod, Nat.reducePow, rmaps, nsucc, List.flatten_cons, List.flatten_nil, Nat.reduceEqDiff, Nat.reduceLeDiff, Nat.reduceAdd, Nat.reduceMul, Nat.reduceSub, ↓reduceIte, reduceCtorEq, decide_true, decide_false]
      refine (after74 x hx _ _ (alongP_lt hx (tr.take i) _ (fst_lt hx))).go (FZs.three (FZ.sysV x) (FZ.v _) (FZ.v _)) ?_
      simp only [f0, f5, f10, f11, f12, hds, Cd.cd78, Tk.t78, base0, base1, base2, base3, Option.isNone_none, Option.isNone_some, Nat.reduceBEq, true_or, or_true, false_or, or_false, Nat.reduceLT, Nat.reduceMod, Nat.reducePow, rmaps, nsucc, List.flatten_cons, List.flatten_nil, Nat.reduceEqDiff, Nat.reduceLeDiff, Nat.reduceAdd, Nat.reduceMul, Nat.reduceSub, ↓reduceIte, reduceCtorEq, decide_true, decide_false]
      refine ⟨_, by omega, i + 1, rfl, by omega, ?_⟩
      (repeat' apply And.intro) <;> first | rfl | (rw [wrapS (by omega)]) | omega | assumption | ((unfold alongP; rw [foldl_succ _ _ hlt]))
    · have hi' : i = tr.length := by omega
      simp only [ltF hlt, f0, f5, f10, f11, f12, hds, Cd.cd78, Tk.t78, base0, base1, base2, base3, Option.isNone_none, Option.isNone_some, Nat.reduceBEq, true_or, or_true, false_or, or_false, Nat.reduceLT, Nat.reduceMod, Nat.reducePow, rmaps, nsucc, List.flatten_cons, List.flatten_nil, Nat.reduceEqDiff, Nat.reduceLeDiff, Nat.reduceAdd, Nat.reduceMul, Nat.reduceSub, ↓reduceIte, reduceCtorEq, decide_true, decide_false]
      exact fin_v (by rw [hi', alongP, List.take_length]; rfl)
end Go.Proofs.YtchpcjmgifnmdaaDoor

/- Walks: the reference's small functions on lists. -/
namespace Go.Proofs.YtchpcjmgifnmdaaDoor
open Go Go.Proofs.YtchpcjmgifnmdaaDoor.Ab
set_option maxRecDepth 100000
set_option linter.unusedSimpArgs false

theorem has76 (l : List Int) (a : Int) (hl : l.length < 2 ^ 40) : FCall Tryd.prog 76 [ints l, .v (.int .i64 a)] (· = .v (.bool (decide (a ∈ l)))) := by
  simp only [ints]
  refine ACall.enter [] Cd.fn76 (by simp) ?_
  simp only [Cd.cd76, Tk.t76, base0, base1, base2, base3, Option.isNone_none, Option.isNone_some, Nat.reduceBEq, true_or, or_true, false_or, or_false, Nat.reduceLT, Nat.reduceMod, Nat.reducePow, rmaps, nsucc, List.flatten_cons, List.flatten_nil, Nat.reduceEqDiff, Nat.reduceLeDiff, Nat.reduceAdd, Nat.reduceMul, Nat.reduceSub, ↓reduceIte, reduceCtorEq, decide_true, decide_false]
  refine LWP.loop [] (fun m f H' => ∃ i, m = l.length - i ∧ (i ≤ l.length) ∧ (∀ j, j < i → l.getD j 0 ≠ a) ∧ f.t 0 = .lst 1 (l.map fun x => [.v (.int .i64 x)]) .unk ∧ f.t 1 = .v (.int .i64 a) ∧ f.t 5 = .v (.int .i64 (i : Nat)) ∧ f.ds = [] ∧ H' = AH.none) ?_ ?_ (m := l.length - (0))
  · exact ⟨0, rfl, (by omega), (fun j hj => by omega), rfl, rfl, rfl, rfl, rfl⟩
  · rintro m f H' ⟨i, rfl, hi, hz, f0, f1, f5, hds, rfl⟩
    by_cases hlt : i < l.length
    · by_cases he : l.getD i 0 = a
      · simp only [List.length_map, ltT hlt, inR hlt, Int.toNat_natCast, getD_ints l i hlt, show (l.getD i 0 == a) = true from beq_iff_eq.mpr he, f0, f1, f5, hds, Cd.cd76, Tk.t76, base0, base1, base2, base3, Option.isNone_none, Option.isNone_some, Nat.reduceBEq, true_or, or_true, false_or, or_false, Nat.reduceLT, Nat.reduceMod, Nat.reducePow, rmaps, nsucc, List.flatten_cons, List.flatten_nil, Nat.reduceEqDiff, Nat.reduceLeDiff, Nat.reduceAdd, Nat.reduceMul, Nat.reduceSub, ↓reduceIte, reduceCtorEq, decide_true, decide_false]
        exact fin_v (by rw [decide_eq_true (he ▸ getD_mem hlt)])
      · simp only [List.length_map, ltT hlt, inR hlt, Int.toNat_natCast, getD_ints l i hlt, show (l.getD i 0 == a) = false from beq_eq_false_iff_ne.mpr he, f0, f1, f5, hds, Cd.cd76, Tk.t76, base0, base1, base2, base3, Option.isNone_none, Option.isNone_some, Nat.reduceBEq, true_or, or_true, false_or, or_false, Nat.reduceLT, Nat.reduceMod, Nat.reducePow, rmaps, nsucc, List.flatten_cons, List.flatten_nil, Nat.reduceEqDiff, Nat.reduceLeDiff, Nat.reduceAdd, Nat.reduceMul, Nat.reduceSub, ↓reduceIte, reduceCtorEq, decide_true, decide_false]
        refine ⟨_, by omega, i + 1, rfl, by omega, ?_⟩
        (repeat' apply And.intro) <;> first | rfl | (rw [wrapS (by omega)]) | omega | assumption | (exact allS hz he)
    · simp only [List.length_map, ltF hlt, f0, f1, f5, hds, Cd.cd76, Tk.t76, base0, base1, base2, base3, Option.isNone_none, Option.isNone_some, Nat.reduceBEq, true_or, or_true, false_or, or_false, Nat.reduceLT, Nat.reduceMod, Nat.reducePow, rmaps, nsucc, List.flatten_cons, List.flatten_nil, Nat.reduceEqDiff, Nat.reduceLeDiff, Nat.reduceAdd, Nat.reduceMul, Nat.reduceSub, ↓reduceIte, reduceCtorEq, decide_true, decide_false]
      refine fin_v (by rw [decide_eq_false]; intro hm; obtain ⟨j, hj, rfl⟩ := mem_getD hm; exact hz j (by omega) rfl)
theorem same22 (a b : List Int) (hl : a.length < 2 ^ 40) : FCall Tryd.prog 22 [ints a, ints b] (· = .v (.bool (decide (a = b)))) := by
  simp only [ints]
  refine ACall.enter [] Cd.fn22 (by simp) ?_
  by_cases hab : a.length = b.length
  · simp only [List.length_map, hab, show (((b.length : Nat) : Int) != ((b.length : Nat) : Int)) = false from by simp, Cd.cd22, Tk.t22, base0, base1, base2, base3, Option.isNone_none, Option.isNone_some, Nat.reduceBEq, true_or, or_true, false_or, or_false, Nat.reduceLT, Nat.reduceMod, Nat.reducePow, rmaps, nsucc, List.flatten_cons, List.flatten_nil, Nat.reduceEqDiff, Nat.reduceLeDiff, Nat.reduceAdd, Nat.reduceMul, Nat.reduceSub, ↓reduceIte, reduceCtorEq, decide_true, decide_false]
    refine LWP.loop [] (fun m f H' => ∃ i, m = a.length - i ∧ (i ≤ a.length) ∧ (∀ j, j < i → a.getD j 0 = b.getD j 0) ∧ f.t 0 = .lst 1 (a.map fun x => [.v (.int .i64 x)]) .unk ∧ f.t 1 = .lst 1 (b.map fun x => [.v (.int .i64 x)]) .unk ∧ f.t 5 = .v (.int .i64 (i : Nat)) ∧ f.ds = [] ∧ H' = AH.none) ?_ ?_ (m := a.length - (0))
    · exact ⟨0, rfl, (by omega), (fun j hj => by omega), rfl, rfl, rfl, rfl, rfl⟩
    · rintro m f H' ⟨i, rfl, hi, hz, f0, f1, f5, hds, rfl⟩
      by_cases hlt : i < a.length
      · have hlb : i < b.length := by omega
        by_cases hn : a.getD i 0 = b.getD i 0
        · simp only [List.length_map, ltT hlt, inR hlt, inR hlb, Int.toNat_natCast, getD_ints a i hlt, getD_ints b i hlb, show (a.getD i 0 != b.getD i 0) = false from by rw [hn]; simp, f0, f1, f5, hds, Cd.cd22, Tk.t22, base0, base1, base2, base3, Option.isNone_none, Option.isNone_some, Nat.reduceBEq, true_or, or_true, false_or, or_false, Nat.reduceLT, Nat.reduceMod, Nat.reducePow, rmaps, nsucc, List.flatten_cons, List.flatten_nil, Nat.reduceEqDiff, Nat.reduceLeDiff, Nat.reduceAdd, Nat.reduceMul, Nat.reduceSub, ↓reduceIte, reduceCtorEq, decide_true, decide_false]
          refine ⟨_, by omega, i + 1, rfl, by omega, ?_⟩
          (repeat' apply And.intro) <;> first | rfl | (rw [wrapS (by omega)]) | omega | assumption | (exact allS hz hn)
        · simp only [List.length_map, ltT hlt, inR hlt, inR hlb, Int.toNat_natCast, getD_ints a i hlt, getD_ints b i hlb, show (a.getD i 0 != b.getD i 0) = true from by simpa using hn, f0, f1, f5, hds, Cd.cd22, Tk.t22, base0, base1, base2, base3, Option.isNone_none, Option.isNone_some, Nat.reduceBEq, true_or, or_true, false_or, or_false, Nat.reduceLT, Nat.reduceMod, Nat.reducePow, rmaps, nsucc, List.flatten_cons, List.flatten_nil, Nat.reduceEqDiff, Nat.reduceLeDiff, Nat.reduceAdd, Nat.reduceMul, Nat.reduceSub, ↓reduceIte, reduceCtorEq, decide_true, decide_false]
          exact fin_v (by rw [decide_eq_false]; intro h; subst h; exact hn rfl)
      · simp only [List.length_map, ltF hlt, f0, f1, f5, hds, Cd.cd22, Tk.t22, base0, base1, base2, base3, Option.isNone_none, Option.isNone_some, Nat.reduceBEq, true_or, or_true, false_or, or_false, Nat.reduceLT, Nat.reduceMod, Nat.reducePow, rmaps, nsucc, List.flatten_cons, List.flatten_nil, Nat.reduceEqDiff, Nat.reduceLeDiff, Nat.reduceAdd, Nat.reduceMul, Nat.reduceSub, ↓reduceIte, reduceCtorEq, decide_true, decide_false]
        refine fin_v ?_
        rw [decide_eq_true]
        apply List.ext_getElem hab
        intro j h1 h2
        have := hz j (by omega)
        rwa [List.getD_eq_getElem?_getD, List.getD_eq_getElem?_getD, List.getElem?_eq_getElem h1, List.getElem?_eq_getElem h2] at this
  · simp only [List.length_map, show (((a.length : Nat) : Int) != ((b.length : Nat) : Int)) = true from by simp; omega, Cd.cd22, Tk.t22, base0, base1, base2, base3, Option.isNone_none, Option.isNone_some, Nat.reduceBEq, true_or, or_true, false_or, or_false, Nat.reduceLT, Nat.reduceMod, Nat.reducePow, rmaps, nsucc, List.flatten_cons, List.flatten_nil, Nat.reduceEqDiff, Nat.reduceLeDiff, Nat.reduceAdd, Nat.reduceMul, Nat.reduceSub, ↓reduceIte, reduceCtorEq, decide_true, decide_false]
    exact fin_v (by rw [decide_eq_false]; intro h; subst h; exact hab rfl)
/-- what was there is as it was -/
structure Kp (H H' : AH) : Prop where
  nx : H.next ≤ H'.next
  ow : ∀ n, n < H.next → H'.own n = H.own n
  tp : ∀ n, n < H.next → H'.tip n = H.tip n
theorem Kp.refl (H : AH) : Kp H H := ⟨Nat.le_refl _, fun _ _ => rfl, fun _ _ => rfl⟩
theorem Kp.trans {H H1 H2 : AH} (h : Kp H H1) (h' : Kp H1 H2) : Kp H H2 := ⟨Nat.le_trans h.nx h'.nx, fun n hn => (h'.ow n (Nat.lt_of_lt_of_le hn h.nx)).trans (h.ow n hn), fun n hn => (h'.tp n (Nat.lt_of_lt_of_le hn h.nx)).trans (h.tp n hn)⟩
theorem Kp.below {H H' : AH} (h : Kp H H') : Kp H (H'.below H.next) := ⟨h.nx, fun n hn => by simp [AH.below, hn, h.ow n hn], fun n hn => by simp [AH.below, hn, h.tp n hn]⟩
/-- a growing list with a name from N on -/
def GrowN {α : Type} (enc : α → List AV) (k : Nat) (N : Nat) (H : AH) (a : AV) (l : List α) : Prop :=
  (l = [] ∧ (a = nilS ∨ a = .lst k [] .full)) ∨ ∃ t, N ≤ t ∧ t < H.next ∧ a = .lst k (l.map enc) (.live t) ∧ H.tip t = some l.length
theorem GrowN.view {α : Type} {enc : α → List AV} {k N : Nat} {H H' : AH} {a : AV} {l : List α} (h : GrowN enc k N H a l) (hz : ∀ x, FZs (enc x)) : View H' a (.lst k (l.map enc) .unk) := by
  rcases h with ⟨rfl, rfl | rfl⟩ | ⟨t, _, _, rfl, _⟩
  · exact View.nil k
  · exact View.tip fun r hr => by simp at hr
  · exact View.tip fun r hr => by
      obtain ⟨x, _, rfl⟩ := List.mem_map.mp hr
      exact hz x
theorem GrowN.mono {α : Type} {enc : α → List AV} {k N : Nat} {H H' : AH} {a : AV} {l : List α} (h : GrowN enc k N H a l) (hk : Kp H H') : GrowN enc k N H' a l := by
  rcases h with h | ⟨t, h1, h2, h3, h4⟩
  · exact .inl h
  · exact .inr ⟨t, h1, Nat.lt_of_lt_of_le h2 hk.nx, h3, (hk.tp t h2).trans h4⟩
/-- appending one to a growing list -/
theorem ownInts30 (l : List Int) (H : AH) (hb : l.length * 8 ≤ 140737488355328) : ACall Tryd.prog 30 [ints l] H (fun out H' => ∃ v, out = .ret v ∧ GrowN intR 1 H.next H' v l ∧ Kp H H') := by
  simp only [ints]
  by_cases h0 : l = []
  · subst h0
    refine ACall.enter [] Cd.fn30 (by simp) ?_
    simp only [Cd.cd30, Tk.t30, base0, base1, base2, base3, Option.isNone_none, Option.isNone_some, Nat.reduceBEq, true_or, or_true, false_or, or_false, Nat.reduceLT, Nat.reduceMod, Nat.reducePow, rmaps, nsucc, List.flatten_cons, List.flatten_nil, Nat.reduceEqDiff, Nat.reduceLeDiff, Nat.reduceAdd, Nat.reduceMul, Nat.reduceSub, ↓reduceIte, reduceCtorEq, decide_true, decide_false]
    exact ⟨_, rfl, .inl ⟨rfl, .inr rfl⟩, Kp.refl _⟩
  · have hl : 0 < l.length := List.length_pos_iff.mpr h0
    have hl' : (l.length = 0) = False := by simp; exact h0
    have hr : roomA 8 l.length = true := room_of (by omega) (by omega)
    refine ACall.enter [] Cd.fn30 (by simp) ?_
    simp only [List.length_map, hl, hl', hr, Cd.cd30, Tk.t30, base0, base1, base2, base3, Option.isNone_none, Option.isNone_some, Nat.reduceBEq, true_or, or_true, false_or, or_false, Nat.reduceLT, Nat.reduceMod, Nat.reducePow, rmaps, nsucc, List.flatten_cons, List.flatten_nil, Nat.reduceEqDiff, Nat.reduceLeDiff, Nat.reduceAdd, Nat.reduceMul, Nat.reduceSub, ↓reduceIte, reduceCtorEq, decide_true, decide_false]
    exact ⟨_, rfl, .inr ⟨H.next, Nat.le_refl _, by simp, rfl, by simp⟩, by simp, fun _ _ => rfl, fun n hn => by simp [show n ≠ H.next by omega]⟩
theorem ownIntsF (l : List Int) (hb : l.length * 8 ≤ 140737488355328) : FCall Tryd.prog 30 [ints l] (· = ints l) := by
  refine (ownInts30 l AH.none hb).mono fun out H' ⟨v, h1, h2, _⟩ => ?_
  exact ⟨v, _, h1, h2.view FZs.intR, FZ.ints l, rfl⟩
def asc (fl : List Bool) : List Int := ((List.range fl.length).filter fun i => fl.getD i false).map fun a : Nat => (a : Int)
def ascP (fl : List Bool) (i : Nat) : List Int := ((List.range i).filter fun i => fl.getD i false).map fun a : Nat => (a : Int)
theorem ascP_succ (fl : List Bool) (i : Nat) : ascP fl (i + 1) = if fl.getD i false then ascP fl i ++ [(i : Int)] else ascP fl i := by
  unfold ascP
  rw [List.range_succ, List.filter_append]
  rw [List.filter_cons]
  cases h : fl.getD i false <;> simp
theorem ascP_len (fl : List Bool) (i : Nat) : (ascP fl i).length ≤ i := by
  unfold ascP; rw [List.length_map]; exact Nat.le_trans (List.length_filter_le _ _) (by simp)
def flC (fl : List Bool) : List AV := fl.map fun b => .v (.bool b)
theorem flC_get (fl : List Bool) (i : Nat) (h : i < fl.length) : (flC fl)[i]? = some (.v (.bool (fl.getD i false))) := by
  unfold flC
  rw [List.getElem?_map, List.getElem?_eq_getElem h, List.getD_eq_getElem?_getD, List.getElem?_eq_getElem h]; rfl
theorem flC_drop (fl : List Bool) (i : Nat) (h : i < fl.length) : (List.drop i (flC fl))[0]? = some (.v (.bool (fl.getD i false))) := by
  rw [List.getElem?_drop, Nat.add_zero, flC_get fl i h]
theorem flC_len (fl : List Bool) : (flC fl).length = fl.length := by simp [flC]
theorem asc81 (H : AH) (n : Nat) (fl : List Bool) (hb : fl.length ≤ 100) (ho : H.own n = some (.cells (flC fl))) (hn : n < H.next) : ACall Tryd.prog 81 [.sl 1 n 0 fl.length] H (fun out H' => out = .ret (ints (asc fl)) ∧ Kp H H') := by
  refine ACall.freeze H.next ?_
  refine ACall.enter [] Cd.fn81 (by simp) ?_
  simp only [Cd.cd81, Tk.t81, base0, base1, base2, base3, Option.isNone_none, Option.isNone_some, Nat.reduceBEq, true_or, or_true, false_or, or_false, Nat.reduceLT, Nat.reduceMod, Nat.reducePow, rmaps, nsucc, List.flatten_cons, List.flatten_nil, Nat.reduceEqDiff, Nat.reduceLeDiff, Nat.reduceAdd, Nat.reduceMul, Nat.reduceSub, ↓reduceIte, reduceCtorEq, decide_true, decide_false]
  refine LWP.loop [] (fun m f H' => ∃ i a, m = fl.length - i ∧ (i ≤ fl.length) ∧ (GrowN intR 1 H.next H' a (ascP fl i)) ∧ f.t 0 = .sl 1 n 0 fl.length ∧ f.t 3 = a ∧ f.t 4 = .v (.int .i64 (i : Nat)) ∧ f.ds = [] ∧ Kp H H') ?_ ?_ (m := fl.length - (0))
  · exact ⟨0, nilS, rfl, (by omega), (.inl ⟨rfl, .inl rfl⟩), rfl, rfl, rfl, rfl, Kp.refl _⟩
  · rintro m f H' ⟨i, a, rfl, hi, hg, f0, f3, f4, hds, hk⟩
    have ho' : H'.own n = some (.cells (flC fl)) := (hk.ow n hn).trans ho
    by_cases hlt : i < fl.length
    · have hs := ascP_succ fl i
      have hl2 := ascP_len fl i
      cases hb : fl.getD i false
      · rw [hb] at hs
        simp only [ltT hlt, inR hlt, Int.toNat_natCast, ho', Nat.mul_one, flC_drop fl i hlt, hb, f0, f3, f4, hds, Cd.cd81, Tk.t81, base0, base1, base2, base3, Option.isNone_none, Option.isNone_some, Nat.reduceBEq, true_or, or_true, false_or, or_false, Nat.reduceLT, Nat.reduceMod, Nat.reducePow, rmaps, nsucc, List.flatten_cons, List.flatten_nil, Nat.reduceEqDiff, Nat.reduceLeDiff, Nat.reduceAdd, Nat.reduceMul, Nat.reduceSub, ↓reduceIte, reduceCtorEq, decide_true, decide_false]
        exact ⟨_, by omega, i + 1, a, rfl, by omega, by rw [hs]; exact hg, rfl, by rw [wrapS (by omega)], hk⟩
      · rw [hb] at hs
        have hr : roomA 8 ((ascP fl i).length + 1) = true := room_of (by omega) (by omega)
        rcases hg with ⟨h0, rfl | rfl⟩ | ⟨t, t1, t2, rfl, t4⟩
        · simp only [nilS, ltT hlt, inR hlt, Int.toNat_natCast, ho', Nat.mul_one, flC_drop fl i hlt, hb, show roomA 8 1 = true from rfl, f0, f3, f4, hds, Cd.cd81, Tk.t81, base0, base1, base2, base3, Option.isNone_none, Option.isNone_some, Nat.reduceBEq, true_or, or_true, false_or, or_false, Nat.reduceLT, Nat.reduceMod, Nat.reducePow, rmaps, nsucc, List.flatten_cons, List.flatten_nil, Nat.reduceEqDiff, Nat.reduceLeDiff, Nat.reduceAdd, Nat.reduceMul, Nat.reduceSub, ↓reduceIte, reduceCtorEq, decide_true, decide_false]
          refine ⟨_, by omega, i + 1, _, rfl, by omega, .inr ⟨H'.next, hk.nx, by simp, by rw [hs, h0]; rfl, by rw [hs, h0]; simp⟩, rfl, by rw [wrapS (by omega)], by simp; have := hk.nx; omega, hk.ow, fun m hm => ?_⟩
          have := hk.nx
          simp only [show m ≠ H'.next by omega, if_false]
          exact hk.tp m hm
        · simp only [ltT hlt, inR hlt, Int.toNat_natCast, ho', Nat.mul_one, flC_drop fl i hlt, hb, show roomA 8 1 = true from rfl, f0, f3, f4, hds, Cd.cd81, Tk.t81, base0, base1, base2, base3, Option.isNone_none, Option.isNone_some, Nat.reduceBEq, true_or, or_true, false_or, or_false, Nat.reduceLT, Nat.reduceMod, Nat.reducePow, rmaps, nsucc, List.flatten_cons, List.flatten_nil, Nat.reduceEqDiff, Nat.reduceLeDiff, Nat.reduceAdd, Nat.reduceMul, Nat.reduceSub, ↓reduceIte, reduceCtorEq, decide_true, decide_false]
          refine ⟨_, by omega, i + 1, _, rfl, by omega, .inr ⟨H'.next, hk.nx, by simp, by rw [hs, h0]; rfl, by rw [hs, h0]; simp⟩, rfl, by rw [wrapS (by omega)], by simp; have := hk.nx; omega, hk.ow, fun m hm => ?_⟩
          have := hk.nx
          simp only [show m ≠ H'.next by omega, if_false]
          exact hk.tp m hm
        · simp only [ltT hlt, inR hlt, Int.toNat_natCast, ho', Nat.mul_one, flC_drop fl i hlt, hb, t4, hr, List.length_map, f0, f3, f4, hds, Cd.cd81, Tk.t81, base0, base1, base2, base3, Option.isNone_none, Option.isNone_some, Nat.reduceBEq, true_or, or_true, false_or, or_false, Nat.reduceLT, Nat.reduceMod, Nat.reducePow, rmaps, nsucc, List.flatten_cons, List.flatten_nil, Nat.reduceEqDiff, Nat.reduceLeDiff, Nat.reduceAdd, Nat.reduceMul, Nat.reduceSub, ↓reduceIte, reduceCtorEq, decide_true, decide_false]
          refine ⟨_, by omega, i + 1, _, rfl, by omega, .inr ⟨t, t1, t2, by rw [hs]; simp [intR], by rw [hs]; simp⟩, rfl, by rw [wrapS (by omega)], hk.nx, hk.ow, fun m hm => ?_⟩
          simp only [show m ≠ t by omega, if_false]
          exact hk.tp m hm
    · have hi' : i = fl.length := by omega
      subst hi'
      simp only [ltF hlt, f0, f3, f4, hds, Cd.cd81, Tk.t81, base0, base1, base2, base3, Option.isNone_none, Option.isNone_some, Nat.reduceBEq, true_or, or_true, false_or, or_false, Nat.reduceLT, Nat.reduceMod, Nat.reducePow, rmaps, nsucc, List.flatten_cons, List.flatten_nil, Nat.reduceEqDiff, Nat.reduceLeDiff, Nat.reduceAdd, Nat.reduceMul, Nat.reduceSub, ↓reduceIte, reduceCtorEq, decide_true, decide_false]
      exact Frz.ret (hg.view FZs.intR) (FZ.ints (ascP fl fl.length)) ⟨rfl, hk.below⟩
end Go.Proofs.YtchpcjmgifnmdaaDoor
