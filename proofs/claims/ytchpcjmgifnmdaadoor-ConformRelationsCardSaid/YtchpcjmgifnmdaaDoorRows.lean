/-
  NARROWER THAN 'FOR EVERY INPUT', by the rows' own cells (each row's printed sentence says how): ConformDecides: laid · ConformChecks: laid · ConformChain: laid · ConformAfter: laid · ConformTraces: laid · ConformExact: laid · ConformRelations: laid · ConformTests: laid · ConformPasses: laid · ConformDepth: laid · ConformPerforms: laid · ConformShown: laid.
  DERIVED. THE GIVEN ROWS OF THIS SEAT. 12 by the template 'for every input the law returns true; each argument reads behind the call as it read before'; 0 by the template 'total and deterministic' (their statements: YtchpcjmgifnmdaaDoorTotals.lean).
  GIVEN WITH THE SEED: the statements are not yours to turn. If you find one false, say at which input.
  Laid BY PROGRAM, IN A SANDBOX (cutbox-rows.mjs): the forced cells as the released guide's own fill.sh prints them over the translation b309f66f0de2aab4… (all of the seat's roots in one cut). By AI agents, Wed Nov 11 2026. No macro, syntax, notation, axiom, sorry.
-/
import Derived.Test.YtchpcjmgifnmdaaDoorChecked
import GoSem.Claim
import GoSem.ClaimJoined
import GoSem.ClaimMapViews
import Derived.JoinedTies
import Derived.KernelRfl
namespace Go.Proofs.YtchpcjmgifnmdaaDoor
/- THE CELL 'sum', in the pinned program and in every row, IS THE sha256 OF THE DUMP (.gsa) THAT YtchpcjmgifnmdaaDoorProg.lean LOADS. Nothing in Lean hashes anything: it is a label: what it is worth is what the hold of that sum in a sandbox is worth. -/
noncomputable def Tryd.pinned : Pinned := { name := "ytchpcjmgifnmdaadoor", sum := "b309f66f0de2aab4141875a3b24258e7b890e5f06aa3869eb0914bf1d74de8ac", checked := Tryd.checked }
namespace Rows
def none {H : Type} : Left H := { results := [], args := [] }

/- WHAT THE LISTED PACKAGE-LEVEL VARIABLES READ AS WHEN THE CALL BEGINS. Each datum BY PROGRAM (the guide's laid-datum.mjs) off the statement by which the dump's own 'gosem.cut.vars' lays the variable. In a bare row this is a premise. The card (YtchpcjmgifnmdaaDoorCards.lean) ties it to the program's text. -/
def laid_math_bits_deBruijn32tab {H : Type} : DataW H := .agg [.lit (.int .u8 0), .lit (.int .u8 1), .lit (.int .u8 28), .lit (.int .u8 2), .lit (.int .u8 29), .lit (.int .u8 14), .lit (.int .u8 24), .lit (.int .u8 3), .lit (.int .u8 30), .lit (.int .u8 22), .lit (.int .u8 20), .lit (.int .u8 15), .lit (.int .u8 25), .lit (.int .u8 17), .lit (.int .u8 4), .lit (.int .u8 8), .lit (.int .u8 31), .lit (.int .u8 27), .lit (.int .u8 13), .lit (.int .u8 23), .lit (.int .u8 21), .lit (.int .u8 19), .lit (.int .u8 16), .lit (.int .u8 7), .lit (.int .u8 26), .lit (.int .u8 12), .lit (.int .u8 18), .lit (.int .u8 6), .lit (.int .u8 11), .lit (.int .u8 5), .lit (.int .u8 10), .lit (.int .u8 9)]
def laid_math_bits_deBruijn64tab {H : Type} : DataW H := .agg [.lit (.int .u8 0), .lit (.int .u8 1), .lit (.int .u8 56), .lit (.int .u8 2), .lit (.int .u8 57), .lit (.int .u8 49), .lit (.int .u8 28), .lit (.int .u8 3), .lit (.int .u8 61), .lit (.int .u8 58), .lit (.int .u8 42), .lit (.int .u8 50), .lit (.int .u8 38), .lit (.int .u8 29), .lit (.int .u8 17), .lit (.int .u8 4), .lit (.int .u8 62), .lit (.int .u8 47), .lit (.int .u8 59), .lit (.int .u8 36), .lit (.int .u8 45), .lit (.int .u8 43), .lit (.int .u8 51), .lit (.int .u8 22), .lit (.int .u8 53), .lit (.int .u8 39), .lit (.int .u8 33), .lit (.int .u8 30), .lit (.int .u8 24), .lit (.int .u8 18), .lit (.int .u8 12), .lit (.int .u8 5), .lit (.int .u8 63), .lit (.int .u8 55), .lit (.int .u8 48), .lit (.int .u8 27), .lit (.int .u8 60), .lit (.int .u8 41), .lit (.int .u8 37), .lit (.int .u8 16), .lit (.int .u8 46), .lit (.int .u8 35), .lit (.int .u8 44), .lit (.int .u8 21), .lit (.int .u8 52), .lit (.int .u8 32), .lit (.int .u8 23), .lit (.int .u8 11), .lit (.int .u8 54), .lit (.int .u8 26), .lit (.int .u8 40), .lit (.int .u8 15), .lit (.int .u8 34), .lit (.int .u8 20), .lit (.int .u8 31), .lit (.int .u8 10), .lit (.int .u8 25), .lit (.int .u8 14), .lit (.int .u8 19), .lit (.int .u8 9), .lit (.int .u8 13), .lit (.int .u8 8), .lit (.int .u8 7), .lit (.int .u8 6)]

/-- 'examinerlaw42.ConformDecides': WHATEVER THE INPUT: true; the input reads as it did. -/
def conformDecidesSpec : ChangeSpec := { name := "conformDecides", fn := fun _ => fun
  | [d1, d2] => { results := [.lit (.bool true)], args := [d1, d2] }
  | _ => none }
def conformDecidesRow : OpenClaim := { program := "ytchpcjmgifnmdaadoor", sum := "b309f66f0de2aab4141875a3b24258e7b890e5f06aa3869eb0914bf1d74de8ac", func := "examiner/examinerlaw42.ConformDecides", spec := "conformDecides", unfollowed := true, recurses := true, named := ["math/bits.deBruijn32tab", "math/bits.deBruijn64tab"], plainKeys := false, apart := false, laid := [("math/bits.deBruijn32tab", laid_math_bits_deBruijn32tab), ("math/bits.deBruijn64tab", laid_math_bits_deBruijn64tab)] }
def ConformDecidesSaid : Prop := conformDecidesRow.holds Tryd.pinned (OpenSpec.ofChange conformDecidesSpec)

/-- ITS FALSE NEIGHBOUR: 'it returns false'. Refute it at one input. -/
def conformDecidesWrong : ChangeSpec := { name := "conformDecides", fn := fun _ => fun
  | [d1, d2] => { results := [.lit (.bool false)], args := [d1, d2] }
  | _ => none }
def ConformDecidesWrongFalsely : Prop := conformDecidesRow.holds Tryd.pinned (OpenSpec.ofChange conformDecidesWrong)

/-- 'examinerlaw42.ConformChecks': WHATEVER THE INPUT: true; the input reads as it did. -/
def conformChecksSpec : ChangeSpec := { name := "conformChecks", fn := fun _ => fun
  | [d] => { results := [.lit (.bool true)], args := [d] }
  | _ => none }
def conformChecksRow : OpenClaim := { program := "ytchpcjmgifnmdaadoor", sum := "b309f66f0de2aab4141875a3b24258e7b890e5f06aa3869eb0914bf1d74de8ac", func := "examiner/examinerlaw42.ConformChecks", spec := "conformChecks", unfollowed := true, recurses := true, named := ["math/bits.deBruijn32tab", "math/bits.deBruijn64tab"], plainKeys := false, apart := false, laid := [("math/bits.deBruijn32tab", laid_math_bits_deBruijn32tab), ("math/bits.deBruijn64tab", laid_math_bits_deBruijn64tab)] }
def ConformChecksSaid : Prop := conformChecksRow.holds Tryd.pinned (OpenSpec.ofChange conformChecksSpec)

/-- ITS FALSE NEIGHBOUR: 'it returns false'. Refute it at one input. -/
def conformChecksWrong : ChangeSpec := { name := "conformChecks", fn := fun _ => fun
  | [d] => { results := [.lit (.bool false)], args := [d] }
  | _ => none }
def ConformChecksWrongFalsely : Prop := conformChecksRow.holds Tryd.pinned (OpenSpec.ofChange conformChecksWrong)

/-- 'examinerlaw42.ConformChain': WHATEVER THE INPUT: true; the input reads as it did. -/
def conformChainSpec : ChangeSpec := { name := "conformChain", fn := fun _ => fun
  | [d1, d2, d3] => { results := [.lit (.bool true)], args := [d1, d2, d3] }
  | _ => none }
def conformChainRow : OpenClaim := { program := "ytchpcjmgifnmdaadoor", sum := "b309f66f0de2aab4141875a3b24258e7b890e5f06aa3869eb0914bf1d74de8ac", func := "examiner/examinerlaw42.ConformChain", spec := "conformChain", unfollowed := true, recurses := true, named := ["math/bits.deBruijn32tab", "math/bits.deBruijn64tab"], plainKeys := false, apart := false, laid := [("math/bits.deBruijn32tab", laid_math_bits_deBruijn32tab), ("math/bits.deBruijn64tab", laid_math_bits_deBruijn64tab)] }
def ConformChainSaid : Prop := conformChainRow.holds Tryd.pinned (OpenSpec.ofChange conformChainSpec)

/-- ITS FALSE NEIGHBOUR: 'it returns false'. Refute it at one input. -/
def conformChainWrong : ChangeSpec := { name := "conformChain", fn := fun _ => fun
  | [d1, d2, d3] => { results := [.lit (.bool false)], args := [d1, d2, d3] }
  | _ => none }
def ConformChainWrongFalsely : Prop := conformChainRow.holds Tryd.pinned (OpenSpec.ofChange conformChainWrong)

/-- 'examinerlaw42.ConformAfter': WHATEVER THE INPUT: true; the input reads as it did. -/
def conformAfterSpec : ChangeSpec := { name := "conformAfter", fn := fun _ => fun
  | [d1, d2, d3] => { results := [.lit (.bool true)], args := [d1, d2, d3] }
  | _ => none }
def conformAfterRow : OpenClaim := { program := "ytchpcjmgifnmdaadoor", sum := "b309f66f0de2aab4141875a3b24258e7b890e5f06aa3869eb0914bf1d74de8ac", func := "examiner/examinerlaw42.ConformAfter", spec := "conformAfter", unfollowed := true, recurses := true, named := ["math/bits.deBruijn32tab", "math/bits.deBruijn64tab"], plainKeys := false, apart := false, laid := [("math/bits.deBruijn32tab", laid_math_bits_deBruijn32tab), ("math/bits.deBruijn64tab", laid_math_bits_deBruijn64tab)] }
def ConformAfterSaid : Prop := conformAfterRow.holds Tryd.pinned (OpenSpec.ofChange conformAfterSpec)

/-- ITS FALSE NEIGHBOUR: 'it returns false'. Refute it at one input. -/
def conformAfterWrong : ChangeSpec := { name := "conformAfter", fn := fun _ => fun
  | [d1, d2, d3] => { results := [.lit (.bool false)], args := [d1, d2, d3] }
  | _ => none }
def ConformAfterWrongFalsely : Prop := conformAfterRow.holds Tryd.pinned (OpenSpec.ofChange conformAfterWrong)

/-- 'examinerlaw42.ConformTraces': WHATEVER THE INPUT: true; the input reads as it did. -/
def conformTracesSpec : ChangeSpec := { name := "conformTraces", fn := fun _ => fun
  | [d1, d2] => { results := [.lit (.bool true)], args := [d1, d2] }
  | _ => none }
def conformTracesRow : OpenClaim := { program := "ytchpcjmgifnmdaadoor", sum := "b309f66f0de2aab4141875a3b24258e7b890e5f06aa3869eb0914bf1d74de8ac", func := "examiner/examinerlaw42.ConformTraces", spec := "conformTraces", unfollowed := true, recurses := true, named := ["math/bits.deBruijn32tab", "math/bits.deBruijn64tab"], plainKeys := false, apart := false, laid := [("math/bits.deBruijn32tab", laid_math_bits_deBruijn32tab), ("math/bits.deBruijn64tab", laid_math_bits_deBruijn64tab)] }
def ConformTracesSaid : Prop := conformTracesRow.holds Tryd.pinned (OpenSpec.ofChange conformTracesSpec)

/-- ITS FALSE NEIGHBOUR: 'it returns false'. Refute it at one input. -/
def conformTracesWrong : ChangeSpec := { name := "conformTraces", fn := fun _ => fun
  | [d1, d2] => { results := [.lit (.bool false)], args := [d1, d2] }
  | _ => none }
def ConformTracesWrongFalsely : Prop := conformTracesRow.holds Tryd.pinned (OpenSpec.ofChange conformTracesWrong)

/-- 'examinertop.ConformExact': WHATEVER THE INPUT: true; the input reads as it did. -/
def conformExactSpec : ChangeSpec := { name := "conformExact", fn := fun _ => fun
  | [d1, d2] => { results := [.lit (.bool true)], args := [d1, d2] }
  | _ => none }
def conformExactRow : OpenClaim := { program := "ytchpcjmgifnmdaadoor", sum := "b309f66f0de2aab4141875a3b24258e7b890e5f06aa3869eb0914bf1d74de8ac", func := "examiner/examinertop.ConformExact", spec := "conformExact", unfollowed := true, recurses := true, named := ["math/bits.deBruijn32tab", "math/bits.deBruijn64tab"], plainKeys := false, apart := false, laid := [("math/bits.deBruijn32tab", laid_math_bits_deBruijn32tab), ("math/bits.deBruijn64tab", laid_math_bits_deBruijn64tab)] }
def ConformExactSaid : Prop := conformExactRow.holds Tryd.pinned (OpenSpec.ofChange conformExactSpec)

/-- ITS FALSE NEIGHBOUR: 'it returns false'. Refute it at one input. -/
def conformExactWrong : ChangeSpec := { name := "conformExact", fn := fun _ => fun
  | [d1, d2] => { results := [.lit (.bool false)], args := [d1, d2] }
  | _ => none }
def ConformExactWrongFalsely : Prop := conformExactRow.holds Tryd.pinned (OpenSpec.ofChange conformExactWrong)

/-- 'examinerlaw42.ConformRelations': WHATEVER THE INPUT: true; the input reads as it did. -/
def conformRelationsSpec : ChangeSpec := { name := "conformRelations", fn := fun _ => fun
  | [d1, d2, d3] => { results := [.lit (.bool true)], args := [d1, d2, d3] }
  | _ => none }
def conformRelationsRow : OpenClaim := { program := "ytchpcjmgifnmdaadoor", sum := "b309f66f0de2aab4141875a3b24258e7b890e5f06aa3869eb0914bf1d74de8ac", func := "examiner/examinerlaw42.ConformRelations", spec := "conformRelations", unfollowed := true, recurses := true, named := ["math/bits.deBruijn32tab", "math/bits.deBruijn64tab"], plainKeys := false, apart := false, laid := [("math/bits.deBruijn32tab", laid_math_bits_deBruijn32tab), ("math/bits.deBruijn64tab", laid_math_bits_deBruijn64tab)] }
def ConformRelationsSaid : Prop := conformRelationsRow.holds Tryd.pinned (OpenSpec.ofChange conformRelationsSpec)

/-- ITS FALSE NEIGHBOUR: 'it returns false'. Refute it at one input. -/
def conformRelationsWrong : ChangeSpec := { name := "conformRelations", fn := fun _ => fun
  | [d1, d2, d3] => { results := [.lit (.bool false)], args := [d1, d2, d3] }
  | _ => none }
def ConformRelationsWrongFalsely : Prop := conformRelationsRow.holds Tryd.pinned (OpenSpec.ofChange conformRelationsWrong)

/-- 'examinerlaw42.ConformTests': WHATEVER THE INPUT: true; the input reads as it did. -/
def conformTestsSpec : ChangeSpec := { name := "conformTests", fn := fun _ => fun
  | [d1, d2, d3] => { results := [.lit (.bool true)], args := [d1, d2, d3] }
  | _ => none }
def conformTestsRow : OpenClaim := { program := "ytchpcjmgifnmdaadoor", sum := "b309f66f0de2aab4141875a3b24258e7b890e5f06aa3869eb0914bf1d74de8ac", func := "examiner/examinerlaw42.ConformTests", spec := "conformTests", unfollowed := true, recurses := true, named := ["math/bits.deBruijn32tab", "math/bits.deBruijn64tab"], plainKeys := false, apart := false, laid := [("math/bits.deBruijn32tab", laid_math_bits_deBruijn32tab), ("math/bits.deBruijn64tab", laid_math_bits_deBruijn64tab)] }
def ConformTestsSaid : Prop := conformTestsRow.holds Tryd.pinned (OpenSpec.ofChange conformTestsSpec)

/-- ITS FALSE NEIGHBOUR: 'it returns false'. Refute it at one input. -/
def conformTestsWrong : ChangeSpec := { name := "conformTests", fn := fun _ => fun
  | [d1, d2, d3] => { results := [.lit (.bool false)], args := [d1, d2, d3] }
  | _ => none }
def ConformTestsWrongFalsely : Prop := conformTestsRow.holds Tryd.pinned (OpenSpec.ofChange conformTestsWrong)

/-- 'examinerlaw42.ConformPasses': WHATEVER THE INPUT: true; the input reads as it did. -/
def conformPassesSpec : ChangeSpec := { name := "conformPasses", fn := fun _ => fun
  | [d1, d2, d3] => { results := [.lit (.bool true)], args := [d1, d2, d3] }
  | _ => none }
def conformPassesRow : OpenClaim := { program := "ytchpcjmgifnmdaadoor", sum := "b309f66f0de2aab4141875a3b24258e7b890e5f06aa3869eb0914bf1d74de8ac", func := "examiner/examinerlaw42.ConformPasses", spec := "conformPasses", unfollowed := true, recurses := true, named := ["math/bits.deBruijn32tab", "math/bits.deBruijn64tab"], plainKeys := false, apart := false, laid := [("math/bits.deBruijn32tab", laid_math_bits_deBruijn32tab), ("math/bits.deBruijn64tab", laid_math_bits_deBruijn64tab)] }
def ConformPassesSaid : Prop := conformPassesRow.holds Tryd.pinned (OpenSpec.ofChange conformPassesSpec)

/-- ITS FALSE NEIGHBOUR: 'it returns false'. Refute it at one input. -/
def conformPassesWrong : ChangeSpec := { name := "conformPasses", fn := fun _ => fun
  | [d1, d2, d3] => { results := [.lit (.bool false)], args := [d1, d2, d3] }
  | _ => none }
def ConformPassesWrongFalsely : Prop := conformPassesRow.holds Tryd.pinned (OpenSpec.ofChange conformPassesWrong)

/-- 'examinerlaw42.ConformDepth': WHATEVER THE INPUT: true; the input reads as it did. -/
def conformDepthSpec : ChangeSpec := { name := "conformDepth", fn := fun _ => fun
  | [d1, d2, d3] => { results := [.lit (.bool true)], args := [d1, d2, d3] }
  | _ => none }
def conformDepthRow : OpenClaim := { program := "ytchpcjmgifnmdaadoor", sum := "b309f66f0de2aab4141875a3b24258e7b890e5f06aa3869eb0914bf1d74de8ac", func := "examiner/examinerlaw42.ConformDepth", spec := "conformDepth", unfollowed := true, recurses := true, named := ["math/bits.deBruijn32tab", "math/bits.deBruijn64tab"], plainKeys := false, apart := false, laid := [("math/bits.deBruijn32tab", laid_math_bits_deBruijn32tab), ("math/bits.deBruijn64tab", laid_math_bits_deBruijn64tab)] }
def ConformDepthSaid : Prop := conformDepthRow.holds Tryd.pinned (OpenSpec.ofChange conformDepthSpec)

/-- ITS FALSE NEIGHBOUR: 'it returns false'. Refute it at one input. -/
def conformDepthWrong : ChangeSpec := { name := "conformDepth", fn := fun _ => fun
  | [d1, d2, d3] => { results := [.lit (.bool false)], args := [d1, d2, d3] }
  | _ => none }
def ConformDepthWrongFalsely : Prop := conformDepthRow.holds Tryd.pinned (OpenSpec.ofChange conformDepthWrong)

/-- 'examinerlaw42.ConformPerforms': WHATEVER THE INPUT: true; the input reads as it did. -/
def conformPerformsSpec : ChangeSpec := { name := "conformPerforms", fn := fun _ => fun
  | [d1, d2] => { results := [.lit (.bool true)], args := [d1, d2] }
  | _ => none }
def conformPerformsRow : OpenClaim := { program := "ytchpcjmgifnmdaadoor", sum := "b309f66f0de2aab4141875a3b24258e7b890e5f06aa3869eb0914bf1d74de8ac", func := "examiner/examinerlaw42.ConformPerforms", spec := "conformPerforms", unfollowed := true, recurses := true, named := ["math/bits.deBruijn32tab", "math/bits.deBruijn64tab"], plainKeys := false, apart := false, laid := [("math/bits.deBruijn32tab", laid_math_bits_deBruijn32tab), ("math/bits.deBruijn64tab", laid_math_bits_deBruijn64tab)] }
def ConformPerformsSaid : Prop := conformPerformsRow.holds Tryd.pinned (OpenSpec.ofChange conformPerformsSpec)

/-- ITS FALSE NEIGHBOUR: 'it returns false'. Refute it at one input. -/
def conformPerformsWrong : ChangeSpec := { name := "conformPerforms", fn := fun _ => fun
  | [d1, d2] => { results := [.lit (.bool false)], args := [d1, d2] }
  | _ => none }
def ConformPerformsWrongFalsely : Prop := conformPerformsRow.holds Tryd.pinned (OpenSpec.ofChange conformPerformsWrong)

/-- 'examinerlaw42.ConformShown': WHATEVER THE INPUT: true; the input reads as it did. -/
def conformShownSpec : ChangeSpec := { name := "conformShown", fn := fun _ => fun
  | [d1, d2, d3] => { results := [.lit (.bool true)], args := [d1, d2, d3] }
  | _ => none }
def conformShownRow : OpenClaim := { program := "ytchpcjmgifnmdaadoor", sum := "b309f66f0de2aab4141875a3b24258e7b890e5f06aa3869eb0914bf1d74de8ac", func := "examiner/examinerlaw42.ConformShown", spec := "conformShown", unfollowed := true, recurses := true, named := ["math/bits.deBruijn32tab", "math/bits.deBruijn64tab"], plainKeys := false, apart := false, laid := [("math/bits.deBruijn32tab", laid_math_bits_deBruijn32tab), ("math/bits.deBruijn64tab", laid_math_bits_deBruijn64tab)] }
def ConformShownSaid : Prop := conformShownRow.holds Tryd.pinned (OpenSpec.ofChange conformShownSpec)

/-- ITS FALSE NEIGHBOUR: 'it returns false'. Refute it at one input. -/
def conformShownWrong : ChangeSpec := { name := "conformShown", fn := fun _ => fun
  | [d1, d2, d3] => { results := [.lit (.bool false)], args := [d1, d2, d3] }
  | _ => none }
def ConformShownWrongFalsely : Prop := conformShownRow.holds Tryd.pinned (OpenSpec.ofChange conformShownWrong)

/- THE SECOND FORM. 'bulk': how many values and letters a reading holds, each counted each time it is reached (what is shared counts as often as it is met; a slice's spare places count too). A statement '..UptoSaid' is the law's where the arguments, and the package variables that the reading takes, are together of bulk at most 1048576: NARROWER than '..Said'. Prove '..Said' where nothing that the law and all that it calls make is longer than what came in: it says more and counts as full. Else prove '..UptoSaid'. A law counts once. -/
mutual
def uptoBulk {H : Type} : DataW H → Nat
  | .lit (.string bytes) => bytes.length + 1
  | .lit _ => 1
  | .nil => 1
  | .ptr d => uptoBulk d + 1
  | .slice elems spare => uptoBulkAll elems + uptoBulkAll spare + 1
  | .agg parts => uptoBulkAll parts + 1
  | .iface _ d => uptoBulk d + 1
  | .map entries => uptoBulkEntries entries + 1
  | .held _ => 1
def uptoBulkAll {H : Type} : List (DataW H) → Nat
  | [] => 0
  | d :: r => uptoBulk d + uptoBulkAll r
def uptoBulkEntries {H : Type} : List (Lit × DataW H) → Nat
  | [] => 0
  | x :: r => uptoBulkEntry x + uptoBulkEntries r
def uptoBulkEntry {H : Type} : Lit × DataW H → Nat
  | (.string bytes, d) => bytes.length + uptoBulk d + 1
  | (_, d) => uptoBulk d + 1
 end
def uptoSmall : (H : Type) → List (DataW H) → Bool := fun _ ds => decide (uptoBulkAll ds ≤ 1048576)
def OpenSpec.upto (s : _root_.Go.ChangeSpec) : _root_.Go.OpenSpec := { _root_.Go.OpenSpec.ofChange s with cond := some uptoSmall }

/-- 'examinerlaw42.ConformDecides', WHERE WHAT IT READS IS OF BULK AT MOST 1048576: true; the input reads as it did. -/
def conformDecidesUptoRow : OpenClaim := { program := "ytchpcjmgifnmdaadoor", sum := "b309f66f0de2aab4141875a3b24258e7b890e5f06aa3869eb0914bf1d74de8ac", func := "examiner/examinerlaw42.ConformDecides", spec := "conformDecides", unfollowed := true, recurses := true, named := ["math/bits.deBruijn32tab", "math/bits.deBruijn64tab"], plainKeys := false, apart := false, laid := [("math/bits.deBruijn32tab", laid_math_bits_deBruijn32tab), ("math/bits.deBruijn64tab", laid_math_bits_deBruijn64tab)], narrowed := true }
def ConformDecidesUptoSaid : Prop := conformDecidesUptoRow.holds Tryd.pinned (OpenSpec.upto conformDecidesSpec)

/-- 'examinerlaw42.ConformChecks', WHERE WHAT IT READS IS OF BULK AT MOST 1048576: true; the input reads as it did. -/
def conformChecksUptoRow : OpenClaim := { program := "ytchpcjmgifnmdaadoor", sum := "b309f66f0de2aab4141875a3b24258e7b890e5f06aa3869eb0914bf1d74de8ac", func := "examiner/examinerlaw42.ConformChecks", spec := "conformChecks", unfollowed := true, recurses := true, named := ["math/bits.deBruijn32tab", "math/bits.deBruijn64tab"], plainKeys := false, apart := false, laid := [("math/bits.deBruijn32tab", laid_math_bits_deBruijn32tab), ("math/bits.deBruijn64tab", laid_math_bits_deBruijn64tab)], narrowed := true }
def ConformChecksUptoSaid : Prop := conformChecksUptoRow.holds Tryd.pinned (OpenSpec.upto conformChecksSpec)

/-- 'examinerlaw42.ConformChain', WHERE WHAT IT READS IS OF BULK AT MOST 1048576: true; the input reads as it did. -/
def conformChainUptoRow : OpenClaim := { program := "ytchpcjmgifnmdaadoor", sum := "b309f66f0de2aab4141875a3b24258e7b890e5f06aa3869eb0914bf1d74de8ac", func := "examiner/examinerlaw42.ConformChain", spec := "conformChain", unfollowed := true, recurses := true, named := ["math/bits.deBruijn32tab", "math/bits.deBruijn64tab"], plainKeys := false, apart := false, laid := [("math/bits.deBruijn32tab", laid_math_bits_deBruijn32tab), ("math/bits.deBruijn64tab", laid_math_bits_deBruijn64tab)], narrowed := true }
def ConformChainUptoSaid : Prop := conformChainUptoRow.holds Tryd.pinned (OpenSpec.upto conformChainSpec)

/-- 'examinerlaw42.ConformAfter', WHERE WHAT IT READS IS OF BULK AT MOST 1048576: true; the input reads as it did. -/
def conformAfterUptoRow : OpenClaim := { program := "ytchpcjmgifnmdaadoor", sum := "b309f66f0de2aab4141875a3b24258e7b890e5f06aa3869eb0914bf1d74de8ac", func := "examiner/examinerlaw42.ConformAfter", spec := "conformAfter", unfollowed := true, recurses := true, named := ["math/bits.deBruijn32tab", "math/bits.deBruijn64tab"], plainKeys := false, apart := false, laid := [("math/bits.deBruijn32tab", laid_math_bits_deBruijn32tab), ("math/bits.deBruijn64tab", laid_math_bits_deBruijn64tab)], narrowed := true }
def ConformAfterUptoSaid : Prop := conformAfterUptoRow.holds Tryd.pinned (OpenSpec.upto conformAfterSpec)

/-- 'examinerlaw42.ConformTraces', WHERE WHAT IT READS IS OF BULK AT MOST 1048576: true; the input reads as it did. -/
def conformTracesUptoRow : OpenClaim := { program := "ytchpcjmgifnmdaadoor", sum := "b309f66f0de2aab4141875a3b24258e7b890e5f06aa3869eb0914bf1d74de8ac", func := "examiner/examinerlaw42.ConformTraces", spec := "conformTraces", unfollowed := true, recurses := true, named := ["math/bits.deBruijn32tab", "math/bits.deBruijn64tab"], plainKeys := false, apart := false, laid := [("math/bits.deBruijn32tab", laid_math_bits_deBruijn32tab), ("math/bits.deBruijn64tab", laid_math_bits_deBruijn64tab)], narrowed := true }
def ConformTracesUptoSaid : Prop := conformTracesUptoRow.holds Tryd.pinned (OpenSpec.upto conformTracesSpec)

/-- 'examinertop.ConformExact', WHERE WHAT IT READS IS OF BULK AT MOST 1048576: true; the input reads as it did. -/
def conformExactUptoRow : OpenClaim := { program := "ytchpcjmgifnmdaadoor", sum := "b309f66f0de2aab4141875a3b24258e7b890e5f06aa3869eb0914bf1d74de8ac", func := "examiner/examinertop.ConformExact", spec := "conformExact", unfollowed := true, recurses := true, named := ["math/bits.deBruijn32tab", "math/bits.deBruijn64tab"], plainKeys := false, apart := false, laid := [("math/bits.deBruijn32tab", laid_math_bits_deBruijn32tab), ("math/bits.deBruijn64tab", laid_math_bits_deBruijn64tab)], narrowed := true }
def ConformExactUptoSaid : Prop := conformExactUptoRow.holds Tryd.pinned (OpenSpec.upto conformExactSpec)

/-- 'examinerlaw42.ConformRelations', WHERE WHAT IT READS IS OF BULK AT MOST 1048576: true; the input reads as it did. -/
def conformRelationsUptoRow : OpenClaim := { program := "ytchpcjmgifnmdaadoor", sum := "b309f66f0de2aab4141875a3b24258e7b890e5f06aa3869eb0914bf1d74de8ac", func := "examiner/examinerlaw42.ConformRelations", spec := "conformRelations", unfollowed := true, recurses := true, named := ["math/bits.deBruijn32tab", "math/bits.deBruijn64tab"], plainKeys := false, apart := false, laid := [("math/bits.deBruijn32tab", laid_math_bits_deBruijn32tab), ("math/bits.deBruijn64tab", laid_math_bits_deBruijn64tab)], narrowed := true }
def ConformRelationsUptoSaid : Prop := conformRelationsUptoRow.holds Tryd.pinned (OpenSpec.upto conformRelationsSpec)

/-- 'examinerlaw42.ConformTests', WHERE WHAT IT READS IS OF BULK AT MOST 1048576: true; the input reads as it did. -/
def conformTestsUptoRow : OpenClaim := { program := "ytchpcjmgifnmdaadoor", sum := "b309f66f0de2aab4141875a3b24258e7b890e5f06aa3869eb0914bf1d74de8ac", func := "examiner/examinerlaw42.ConformTests", spec := "conformTests", unfollowed := true, recurses := true, named := ["math/bits.deBruijn32tab", "math/bits.deBruijn64tab"], plainKeys := false, apart := false, laid := [("math/bits.deBruijn32tab", laid_math_bits_deBruijn32tab), ("math/bits.deBruijn64tab", laid_math_bits_deBruijn64tab)], narrowed := true }
def ConformTestsUptoSaid : Prop := conformTestsUptoRow.holds Tryd.pinned (OpenSpec.upto conformTestsSpec)

/-- 'examinerlaw42.ConformPasses', WHERE WHAT IT READS IS OF BULK AT MOST 1048576: true; the input reads as it did. -/
def conformPassesUptoRow : OpenClaim := { program := "ytchpcjmgifnmdaadoor", sum := "b309f66f0de2aab4141875a3b24258e7b890e5f06aa3869eb0914bf1d74de8ac", func := "examiner/examinerlaw42.ConformPasses", spec := "conformPasses", unfollowed := true, recurses := true, named := ["math/bits.deBruijn32tab", "math/bits.deBruijn64tab"], plainKeys := false, apart := false, laid := [("math/bits.deBruijn32tab", laid_math_bits_deBruijn32tab), ("math/bits.deBruijn64tab", laid_math_bits_deBruijn64tab)], narrowed := true }
def ConformPassesUptoSaid : Prop := conformPassesUptoRow.holds Tryd.pinned (OpenSpec.upto conformPassesSpec)

/-- 'examinerlaw42.ConformDepth', WHERE WHAT IT READS IS OF BULK AT MOST 1048576: true; the input reads as it did. -/
def conformDepthUptoRow : OpenClaim := { program := "ytchpcjmgifnmdaadoor", sum := "b309f66f0de2aab4141875a3b24258e7b890e5f06aa3869eb0914bf1d74de8ac", func := "examiner/examinerlaw42.ConformDepth", spec := "conformDepth", unfollowed := true, recurses := true, named := ["math/bits.deBruijn32tab", "math/bits.deBruijn64tab"], plainKeys := false, apart := false, laid := [("math/bits.deBruijn32tab", laid_math_bits_deBruijn32tab), ("math/bits.deBruijn64tab", laid_math_bits_deBruijn64tab)], narrowed := true }
def ConformDepthUptoSaid : Prop := conformDepthUptoRow.holds Tryd.pinned (OpenSpec.upto conformDepthSpec)

/-- 'examinerlaw42.ConformPerforms', WHERE WHAT IT READS IS OF BULK AT MOST 1048576: true; the input reads as it did. -/
def conformPerformsUptoRow : OpenClaim := { program := "ytchpcjmgifnmdaadoor", sum := "b309f66f0de2aab4141875a3b24258e7b890e5f06aa3869eb0914bf1d74de8ac", func := "examiner/examinerlaw42.ConformPerforms", spec := "conformPerforms", unfollowed := true, recurses := true, named := ["math/bits.deBruijn32tab", "math/bits.deBruijn64tab"], plainKeys := false, apart := false, laid := [("math/bits.deBruijn32tab", laid_math_bits_deBruijn32tab), ("math/bits.deBruijn64tab", laid_math_bits_deBruijn64tab)], narrowed := true }
def ConformPerformsUptoSaid : Prop := conformPerformsUptoRow.holds Tryd.pinned (OpenSpec.upto conformPerformsSpec)

/-- 'examinerlaw42.ConformShown', WHERE WHAT IT READS IS OF BULK AT MOST 1048576: true; the input reads as it did. -/
def conformShownUptoRow : OpenClaim := { program := "ytchpcjmgifnmdaadoor", sum := "b309f66f0de2aab4141875a3b24258e7b890e5f06aa3869eb0914bf1d74de8ac", func := "examiner/examinerlaw42.ConformShown", spec := "conformShown", unfollowed := true, recurses := true, named := ["math/bits.deBruijn32tab", "math/bits.deBruijn64tab"], plainKeys := false, apart := false, laid := [("math/bits.deBruijn32tab", laid_math_bits_deBruijn32tab), ("math/bits.deBruijn64tab", laid_math_bits_deBruijn64tab)], narrowed := true }
def ConformShownUptoSaid : Prop := conformShownUptoRow.holds Tryd.pinned (OpenSpec.upto conformShownSpec)

end Rows
end Go.Proofs.YtchpcjmgifnmdaaDoor
