/-
  DERIVED. GIVEN WITH THE SEED: THE CARDS: each row of YtchpcjmgifnmdaaDoorRows.lean that lists a variable, with what it lists TIED to the program's text (the seventh form; the later family's looks); each row that meets fmt, with fmt's text TOLD by the authors' own Lean function (tested against real Go, not proved from fmt's source: count such statements apart). THE CARD IS WHAT COUNTS. Prove the row's statement (the work); the ties are given (YtchpcjmgifnmdaaDoorTie.lean); close each card by the builder's one call (the guide's Derived/Test/ToyasCard.lean, 'card_holds'). Laid BY PROGRAM, IN A SANDBOX (cutbox-door.mjs). By AI agents, Wed Nov 11 2026. No macro, syntax, notation, axiom, sorry.
-/
import Derived.Test.YtchpcjmgifnmdaaDoorRows
import GoSem.ClaimSeven
namespace Go.Proofs.YtchpcjmgifnmdaaDoor
namespace Rows

/-- THE TIED CARD OF 'examinerlaw42.ConformDecides'. -/
def conformDecidesCard : Claim7 := { stood := { row := conformDecidesRow, standIns := [], harness := (true, "52f083ef305017a105639fba77815f7b8d7249eb91c96967fc2a545a2530a6d9"), looks := false }, kinds := [], alts := [], laidByText := true, laidKinds := [.data, .data], laidTests := true, laidLooks := .later }
def ConformDecidesCardSaid : Prop := Claim7.holds Tryd.pinned (.plain (OpenSpec.ofChange conformDecidesSpec)) conformDecidesCard

/-- THE TIED CARD OF 'examinerlaw42.ConformChecks'. -/
def conformChecksCard : Claim7 := { stood := { row := conformChecksRow, standIns := [], harness := (true, "52f083ef305017a105639fba77815f7b8d7249eb91c96967fc2a545a2530a6d9"), looks := false }, kinds := [], alts := [], laidByText := true, laidKinds := [.data, .data], laidTests := true, laidLooks := .later }
def ConformChecksCardSaid : Prop := Claim7.holds Tryd.pinned (.plain (OpenSpec.ofChange conformChecksSpec)) conformChecksCard

/-- THE TIED CARD OF 'examinerlaw42.ConformChain'. -/
def conformChainCard : Claim7 := { stood := { row := conformChainRow, standIns := [], harness := (true, "52f083ef305017a105639fba77815f7b8d7249eb91c96967fc2a545a2530a6d9"), looks := false }, kinds := [], alts := [], laidByText := true, laidKinds := [.data, .data], laidTests := true, laidLooks := .later }
def ConformChainCardSaid : Prop := Claim7.holds Tryd.pinned (.plain (OpenSpec.ofChange conformChainSpec)) conformChainCard

/-- THE TIED CARD OF 'examinerlaw42.ConformAfter'. -/
def conformAfterCard : Claim7 := { stood := { row := conformAfterRow, standIns := [], harness := (true, "52f083ef305017a105639fba77815f7b8d7249eb91c96967fc2a545a2530a6d9"), looks := false }, kinds := [], alts := [], laidByText := true, laidKinds := [.data, .data], laidTests := true, laidLooks := .later }
def ConformAfterCardSaid : Prop := Claim7.holds Tryd.pinned (.plain (OpenSpec.ofChange conformAfterSpec)) conformAfterCard

/-- THE TIED CARD OF 'examinerlaw42.ConformTraces'. -/
def conformTracesCard : Claim7 := { stood := { row := conformTracesRow, standIns := [], harness := (true, "52f083ef305017a105639fba77815f7b8d7249eb91c96967fc2a545a2530a6d9"), looks := false }, kinds := [], alts := [], laidByText := true, laidKinds := [.data, .data], laidTests := true, laidLooks := .later }
def ConformTracesCardSaid : Prop := Claim7.holds Tryd.pinned (.plain (OpenSpec.ofChange conformTracesSpec)) conformTracesCard

/-- THE TIED CARD OF 'examinertop.ConformExact'. -/
def conformExactCard : Claim7 := { stood := { row := conformExactRow, standIns := [], harness := (true, "52f083ef305017a105639fba77815f7b8d7249eb91c96967fc2a545a2530a6d9"), looks := false }, kinds := [], alts := [], laidByText := true, laidKinds := [.data, .data], laidTests := true, laidLooks := .later }
def ConformExactCardSaid : Prop := Claim7.holds Tryd.pinned (.plain (OpenSpec.ofChange conformExactSpec)) conformExactCard

/-- THE TIED CARD OF 'examinerlaw42.ConformRelations'. -/
def conformRelationsCard : Claim7 := { stood := { row := conformRelationsRow, standIns := [], harness := (true, "52f083ef305017a105639fba77815f7b8d7249eb91c96967fc2a545a2530a6d9"), looks := false }, kinds := [], alts := [], laidByText := true, laidKinds := [.data, .data], laidTests := true, laidLooks := .later }
def ConformRelationsCardSaid : Prop := Claim7.holds Tryd.pinned (.plain (OpenSpec.ofChange conformRelationsSpec)) conformRelationsCard

/-- THE TIED CARD OF 'examinerlaw42.ConformTests'. -/
def conformTestsCard : Claim7 := { stood := { row := conformTestsRow, standIns := [], harness := (true, "52f083ef305017a105639fba77815f7b8d7249eb91c96967fc2a545a2530a6d9"), looks := false }, kinds := [], alts := [], laidByText := true, laidKinds := [.data, .data], laidTests := true, laidLooks := .later }
def ConformTestsCardSaid : Prop := Claim7.holds Tryd.pinned (.plain (OpenSpec.ofChange conformTestsSpec)) conformTestsCard

/-- THE TIED CARD OF 'examinerlaw42.ConformPasses'. -/
def conformPassesCard : Claim7 := { stood := { row := conformPassesRow, standIns := [], harness := (true, "52f083ef305017a105639fba77815f7b8d7249eb91c96967fc2a545a2530a6d9"), looks := false }, kinds := [], alts := [], laidByText := true, laidKinds := [.data, .data], laidTests := true, laidLooks := .later }
def ConformPassesCardSaid : Prop := Claim7.holds Tryd.pinned (.plain (OpenSpec.ofChange conformPassesSpec)) conformPassesCard

/-- THE TIED CARD OF 'examinerlaw42.ConformDepth'. -/
def conformDepthCard : Claim7 := { stood := { row := conformDepthRow, standIns := [], harness := (true, "52f083ef305017a105639fba77815f7b8d7249eb91c96967fc2a545a2530a6d9"), looks := false }, kinds := [], alts := [], laidByText := true, laidKinds := [.data, .data], laidTests := true, laidLooks := .later }
def ConformDepthCardSaid : Prop := Claim7.holds Tryd.pinned (.plain (OpenSpec.ofChange conformDepthSpec)) conformDepthCard

/-- THE TIED CARD OF 'examinerlaw42.ConformPerforms'. -/
def conformPerformsCard : Claim7 := { stood := { row := conformPerformsRow, standIns := [], harness := (true, "52f083ef305017a105639fba77815f7b8d7249eb91c96967fc2a545a2530a6d9"), looks := false }, kinds := [], alts := [], laidByText := true, laidKinds := [.data, .data], laidTests := true, laidLooks := .later }
def ConformPerformsCardSaid : Prop := Claim7.holds Tryd.pinned (.plain (OpenSpec.ofChange conformPerformsSpec)) conformPerformsCard

/-- THE TIED CARD OF 'examinerlaw42.ConformShown'. -/
def conformShownCard : Claim7 := { stood := { row := conformShownRow, standIns := [], harness := (true, "52f083ef305017a105639fba77815f7b8d7249eb91c96967fc2a545a2530a6d9"), looks := false }, kinds := [], alts := [], laidByText := true, laidKinds := [.data, .data], laidTests := true, laidLooks := .later }
def ConformShownCardSaid : Prop := Claim7.holds Tryd.pinned (.plain (OpenSpec.ofChange conformShownSpec)) conformShownCard

/-- THE SECOND FORM's CARD OF 'examinerlaw42.ConformDecides'. -/
def conformDecidesUptoCard : Claim7 := { stood := { row := conformDecidesUptoRow, standIns := [], harness := (true, "52f083ef305017a105639fba77815f7b8d7249eb91c96967fc2a545a2530a6d9"), looks := false }, kinds := [], alts := [], laidByText := true, laidKinds := [.data, .data], laidTests := true, laidLooks := .later }
def ConformDecidesUptoCardSaid : Prop := Claim7.holds Tryd.pinned (.plain (OpenSpec.upto conformDecidesSpec)) conformDecidesUptoCard

/-- THE SECOND FORM's CARD OF 'examinerlaw42.ConformChecks'. -/
def conformChecksUptoCard : Claim7 := { stood := { row := conformChecksUptoRow, standIns := [], harness := (true, "52f083ef305017a105639fba77815f7b8d7249eb91c96967fc2a545a2530a6d9"), looks := false }, kinds := [], alts := [], laidByText := true, laidKinds := [.data, .data], laidTests := true, laidLooks := .later }
def ConformChecksUptoCardSaid : Prop := Claim7.holds Tryd.pinned (.plain (OpenSpec.upto conformChecksSpec)) conformChecksUptoCard

/-- THE SECOND FORM's CARD OF 'examinerlaw42.ConformChain'. -/
def conformChainUptoCard : Claim7 := { stood := { row := conformChainUptoRow, standIns := [], harness := (true, "52f083ef305017a105639fba77815f7b8d7249eb91c96967fc2a545a2530a6d9"), looks := false }, kinds := [], alts := [], laidByText := true, laidKinds := [.data, .data], laidTests := true, laidLooks := .later }
def ConformChainUptoCardSaid : Prop := Claim7.holds Tryd.pinned (.plain (OpenSpec.upto conformChainSpec)) conformChainUptoCard

/-- THE SECOND FORM's CARD OF 'examinerlaw42.ConformAfter'. -/
def conformAfterUptoCard : Claim7 := { stood := { row := conformAfterUptoRow, standIns := [], harness := (true, "52f083ef305017a105639fba77815f7b8d7249eb91c96967fc2a545a2530a6d9"), looks := false }, kinds := [], alts := [], laidByText := true, laidKinds := [.data, .data], laidTests := true, laidLooks := .later }
def ConformAfterUptoCardSaid : Prop := Claim7.holds Tryd.pinned (.plain (OpenSpec.upto conformAfterSpec)) conformAfterUptoCard

/-- THE SECOND FORM's CARD OF 'examinerlaw42.ConformTraces'. -/
def conformTracesUptoCard : Claim7 := { stood := { row := conformTracesUptoRow, standIns := [], harness := (true, "52f083ef305017a105639fba77815f7b8d7249eb91c96967fc2a545a2530a6d9"), looks := false }, kinds := [], alts := [], laidByText := true, laidKinds := [.data, .data], laidTests := true, laidLooks := .later }
def ConformTracesUptoCardSaid : Prop := Claim7.holds Tryd.pinned (.plain (OpenSpec.upto conformTracesSpec)) conformTracesUptoCard

/-- THE SECOND FORM's CARD OF 'examinertop.ConformExact'. -/
def conformExactUptoCard : Claim7 := { stood := { row := conformExactUptoRow, standIns := [], harness := (true, "52f083ef305017a105639fba77815f7b8d7249eb91c96967fc2a545a2530a6d9"), looks := false }, kinds := [], alts := [], laidByText := true, laidKinds := [.data, .data], laidTests := true, laidLooks := .later }
def ConformExactUptoCardSaid : Prop := Claim7.holds Tryd.pinned (.plain (OpenSpec.upto conformExactSpec)) conformExactUptoCard

/-- THE SECOND FORM's CARD OF 'examinerlaw42.ConformRelations'. -/
def conformRelationsUptoCard : Claim7 := { stood := { row := conformRelationsUptoRow, standIns := [], harness := (true, "52f083ef305017a105639fba77815f7b8d7249eb91c96967fc2a545a2530a6d9"), looks := false }, kinds := [], alts := [], laidByText := true, laidKinds := [.data, .data], laidTests := true, laidLooks := .later }
def ConformRelationsUptoCardSaid : Prop := Claim7.holds Tryd.pinned (.plain (OpenSpec.upto conformRelationsSpec)) conformRelationsUptoCard

/-- THE SECOND FORM's CARD OF 'examinerlaw42.ConformTests'. -/
def conformTestsUptoCard : Claim7 := { stood := { row := conformTestsUptoRow, standIns := [], harness := (true, "52f083ef305017a105639fba77815f7b8d7249eb91c96967fc2a545a2530a6d9"), looks := false }, kinds := [], alts := [], laidByText := true, laidKinds := [.data, .data], laidTests := true, laidLooks := .later }
def ConformTestsUptoCardSaid : Prop := Claim7.holds Tryd.pinned (.plain (OpenSpec.upto conformTestsSpec)) conformTestsUptoCard

/-- THE SECOND FORM's CARD OF 'examinerlaw42.ConformPasses'. -/
def conformPassesUptoCard : Claim7 := { stood := { row := conformPassesUptoRow, standIns := [], harness := (true, "52f083ef305017a105639fba77815f7b8d7249eb91c96967fc2a545a2530a6d9"), looks := false }, kinds := [], alts := [], laidByText := true, laidKinds := [.data, .data], laidTests := true, laidLooks := .later }
def ConformPassesUptoCardSaid : Prop := Claim7.holds Tryd.pinned (.plain (OpenSpec.upto conformPassesSpec)) conformPassesUptoCard

/-- THE SECOND FORM's CARD OF 'examinerlaw42.ConformDepth'. -/
def conformDepthUptoCard : Claim7 := { stood := { row := conformDepthUptoRow, standIns := [], harness := (true, "52f083ef305017a105639fba77815f7b8d7249eb91c96967fc2a545a2530a6d9"), looks := false }, kinds := [], alts := [], laidByText := true, laidKinds := [.data, .data], laidTests := true, laidLooks := .later }
def ConformDepthUptoCardSaid : Prop := Claim7.holds Tryd.pinned (.plain (OpenSpec.upto conformDepthSpec)) conformDepthUptoCard

/-- THE SECOND FORM's CARD OF 'examinerlaw42.ConformPerforms'. -/
def conformPerformsUptoCard : Claim7 := { stood := { row := conformPerformsUptoRow, standIns := [], harness := (true, "52f083ef305017a105639fba77815f7b8d7249eb91c96967fc2a545a2530a6d9"), looks := false }, kinds := [], alts := [], laidByText := true, laidKinds := [.data, .data], laidTests := true, laidLooks := .later }
def ConformPerformsUptoCardSaid : Prop := Claim7.holds Tryd.pinned (.plain (OpenSpec.upto conformPerformsSpec)) conformPerformsUptoCard

/-- THE SECOND FORM's CARD OF 'examinerlaw42.ConformShown'. -/
def conformShownUptoCard : Claim7 := { stood := { row := conformShownUptoRow, standIns := [], harness := (true, "52f083ef305017a105639fba77815f7b8d7249eb91c96967fc2a545a2530a6d9"), looks := false }, kinds := [], alts := [], laidByText := true, laidKinds := [.data, .data], laidTests := true, laidLooks := .later }
def ConformShownUptoCardSaid : Prop := Claim7.holds Tryd.pinned (.plain (OpenSpec.upto conformShownSpec)) conformShownUptoCard
end Rows
end Go.Proofs.YtchpcjmgifnmdaaDoor
