/-
  No cell of these rows narrows 'for every input' (looked for: loops, veiled, ifaces, maps, wideKeys, modest, calm, conditions, laid).
  DERIVED. THE GIVEN ROWS OF THIS SEAT. 7 by the template 'for every input the law returns true; each argument reads behind the call as it read before'; 0 by the template 'total and deterministic' (their statements: YtgmncggiblaciaaTotals.lean).
  GIVEN WITH THE SEED: the statements are not yours to turn. If you find one false, say at which input.
  Laid BY PROGRAM, IN A SANDBOX (cutbox-rows.mjs): the forced cells as the released guide's own fill.sh prints them over the translation 852d91acca651bfb… (all of the seat's roots in one cut). By AI agents, Wed Nov 11 2026. No macro, syntax, notation, axiom, sorry.
-/
import Derived.Test.YtgmncggiblaciaaChecked
import GoSem.Claim
import GoSem.ClaimJoined
import GoSem.ClaimMapViews
import Derived.JoinedTies
import Derived.KernelRfl
namespace Go.Proofs.Ytgmncggiblaciaa
/- THE CELL 'sum', in the pinned program and in every row, IS THE sha256 OF THE DUMP (.gsa) THAT YtgmncggiblaciaaProg.lean LOADS. Nothing in Lean hashes anything: it is a label: what it is worth is what the hold of that sum in a sandbox is worth. -/
noncomputable def Try.pinned : Pinned := { name := "ytgmncggiblaciaa", sum := "852d91acca651bfb78d5a9a083c0d69d20b66be79b10f80aa8c18f4827db45f7", checked := Try.checked }
namespace Rows
def none {H : Type} : Left H := { results := [], args := [] }

/-- 'examinertop.HostsSame': WHATEVER THE INPUT: true; the input reads as it did. -/
def hostsSameSpec : ChangeSpec := { name := "hostsSame", fn := fun _ => fun
  | [d1, d2] => { results := [.lit (.bool true)], args := [d1, d2] }
  | _ => none }
def hostsSameRow : OpenClaim := { program := "ytgmncggiblaciaa", sum := "852d91acca651bfb78d5a9a083c0d69d20b66be79b10f80aa8c18f4827db45f7", func := "examiner/examinertop.HostsSame", spec := "hostsSame", unfollowed := true, recurses := true, apart := false }
def HostsSameSaid : Prop := hostsSameRow.holds Try.pinned (OpenSpec.ofChange hostsSameSpec)

/-- ITS FALSE NEIGHBOUR: 'it returns false'. Refute it at one input. -/
def hostsSameWrong : ChangeSpec := { name := "hostsSame", fn := fun _ => fun
  | [d1, d2] => { results := [.lit (.bool false)], args := [d1, d2] }
  | _ => none }
def HostsSameWrongFalsely : Prop := hostsSameRow.holds Try.pinned (OpenSpec.ofChange hostsSameWrong)

/-- 'examinerlaw36.HostsRuns': WHATEVER THE INPUT: true; the input reads as it did. -/
def hostsRunsSpec : ChangeSpec := { name := "hostsRuns", fn := fun _ => fun
  | [d1, d2] => { results := [.lit (.bool true)], args := [d1, d2] }
  | _ => none }
def hostsRunsRow : OpenClaim := { program := "ytgmncggiblaciaa", sum := "852d91acca651bfb78d5a9a083c0d69d20b66be79b10f80aa8c18f4827db45f7", func := "examiner/examinerlaw36.HostsRuns", spec := "hostsRuns", unfollowed := true, recurses := true, apart := false }
def HostsRunsSaid : Prop := hostsRunsRow.holds Try.pinned (OpenSpec.ofChange hostsRunsSpec)

/-- ITS FALSE NEIGHBOUR: 'it returns false'. Refute it at one input. -/
def hostsRunsWrong : ChangeSpec := { name := "hostsRuns", fn := fun _ => fun
  | [d1, d2] => { results := [.lit (.bool false)], args := [d1, d2] }
  | _ => none }
def HostsRunsWrongFalsely : Prop := hostsRunsRow.holds Try.pinned (OpenSpec.ofChange hostsRunsWrong)

/-- 'examinerlaw36.HostsSchedules': WHATEVER THE INPUT: true; the input reads as it did. -/
def hostsSchedulesSpec : ChangeSpec := { name := "hostsSchedules", fn := fun _ => fun
  | [d1, d2] => { results := [.lit (.bool true)], args := [d1, d2] }
  | _ => none }
def hostsSchedulesRow : OpenClaim := { program := "ytgmncggiblaciaa", sum := "852d91acca651bfb78d5a9a083c0d69d20b66be79b10f80aa8c18f4827db45f7", func := "examiner/examinerlaw36.HostsSchedules", spec := "hostsSchedules", unfollowed := true, recurses := true, apart := false }
def HostsSchedulesSaid : Prop := hostsSchedulesRow.holds Try.pinned (OpenSpec.ofChange hostsSchedulesSpec)

/-- ITS FALSE NEIGHBOUR: 'it returns false'. Refute it at one input. -/
def hostsSchedulesWrong : ChangeSpec := { name := "hostsSchedules", fn := fun _ => fun
  | [d1, d2] => { results := [.lit (.bool false)], args := [d1, d2] }
  | _ => none }
def HostsSchedulesWrongFalsely : Prop := hostsSchedulesRow.holds Try.pinned (OpenSpec.ofChange hostsSchedulesWrong)

/-- 'examinerlaw36.HostsCases': WHATEVER THE INPUT: true; the input reads as it did. -/
def hostsCasesSpec : ChangeSpec := { name := "hostsCases", fn := fun _ => fun
  | [d1, d2] => { results := [.lit (.bool true)], args := [d1, d2] }
  | _ => none }
def hostsCasesRow : OpenClaim := { program := "ytgmncggiblaciaa", sum := "852d91acca651bfb78d5a9a083c0d69d20b66be79b10f80aa8c18f4827db45f7", func := "examiner/examinerlaw36.HostsCases", spec := "hostsCases", unfollowed := true, recurses := true, apart := false }
def HostsCasesSaid : Prop := hostsCasesRow.holds Try.pinned (OpenSpec.ofChange hostsCasesSpec)

/-- ITS FALSE NEIGHBOUR: 'it returns false'. Refute it at one input. -/
def hostsCasesWrong : ChangeSpec := { name := "hostsCases", fn := fun _ => fun
  | [d1, d2] => { results := [.lit (.bool false)], args := [d1, d2] }
  | _ => none }
def HostsCasesWrongFalsely : Prop := hostsCasesRow.holds Try.pinned (OpenSpec.ofChange hostsCasesWrong)

/-- 'examinerlaw36.HostsEnds': WHATEVER THE INPUT: true; the input reads as it did. -/
def hostsEndsSpec : ChangeSpec := { name := "hostsEnds", fn := fun _ => fun
  | [d1, d2, d3] => { results := [.lit (.bool true)], args := [d1, d2, d3] }
  | _ => none }
def hostsEndsRow : OpenClaim := { program := "ytgmncggiblaciaa", sum := "852d91acca651bfb78d5a9a083c0d69d20b66be79b10f80aa8c18f4827db45f7", func := "examiner/examinerlaw36.HostsEnds", spec := "hostsEnds", unfollowed := true, recurses := true, apart := false }
def HostsEndsSaid : Prop := hostsEndsRow.holds Try.pinned (OpenSpec.ofChange hostsEndsSpec)

/-- ITS FALSE NEIGHBOUR: 'it returns false'. Refute it at one input. -/
def hostsEndsWrong : ChangeSpec := { name := "hostsEnds", fn := fun _ => fun
  | [d1, d2, d3] => { results := [.lit (.bool false)], args := [d1, d2, d3] }
  | _ => none }
def HostsEndsWrongFalsely : Prop := hostsEndsRow.holds Try.pinned (OpenSpec.ofChange hostsEndsWrong)

/-- 'examinerlaw36.HostsEvery': WHATEVER THE INPUT: true; the input reads as it did. -/
def hostsEverySpec : ChangeSpec := { name := "hostsEvery", fn := fun _ => fun
  | [d1, d2] => { results := [.lit (.bool true)], args := [d1, d2] }
  | _ => none }
def hostsEveryRow : OpenClaim := { program := "ytgmncggiblaciaa", sum := "852d91acca651bfb78d5a9a083c0d69d20b66be79b10f80aa8c18f4827db45f7", func := "examiner/examinerlaw36.HostsEvery", spec := "hostsEvery", unfollowed := true, recurses := true, apart := false }
def HostsEverySaid : Prop := hostsEveryRow.holds Try.pinned (OpenSpec.ofChange hostsEverySpec)

/-- ITS FALSE NEIGHBOUR: 'it returns false'. Refute it at one input. -/
def hostsEveryWrong : ChangeSpec := { name := "hostsEvery", fn := fun _ => fun
  | [d1, d2] => { results := [.lit (.bool false)], args := [d1, d2] }
  | _ => none }
def HostsEveryWrongFalsely : Prop := hostsEveryRow.holds Try.pinned (OpenSpec.ofChange hostsEveryWrong)

/-- 'examinerlaw36.HostsActs': WHATEVER THE INPUT: true; the input reads as it did. -/
def hostsActsSpec : ChangeSpec := { name := "hostsActs", fn := fun _ => fun
  | [d1, d2, d3] => { results := [.lit (.bool true)], args := [d1, d2, d3] }
  | _ => none }
def hostsActsRow : OpenClaim := { program := "ytgmncggiblaciaa", sum := "852d91acca651bfb78d5a9a083c0d69d20b66be79b10f80aa8c18f4827db45f7", func := "examiner/examinerlaw36.HostsActs", spec := "hostsActs", unfollowed := true, recurses := true, apart := false }
def HostsActsSaid : Prop := hostsActsRow.holds Try.pinned (OpenSpec.ofChange hostsActsSpec)

/-- ITS FALSE NEIGHBOUR: 'it returns false'. Refute it at one input. -/
def hostsActsWrong : ChangeSpec := { name := "hostsActs", fn := fun _ => fun
  | [d1, d2, d3] => { results := [.lit (.bool false)], args := [d1, d2, d3] }
  | _ => none }
def HostsActsWrongFalsely : Prop := hostsActsRow.holds Try.pinned (OpenSpec.ofChange hostsActsWrong)

/- THE SECOND FORM. 'bulk': how many values and letters a reading holds, each counted each time it is reached (what is shared counts as often as it is met; a slice's spare places count too). A statement '..UptoSaid' is the law's where the arguments, and the package variables that the reading takes, are together of bulk at most 1048576: NARROWER than '..Said'. Prove '..Said' where nothing that the law and all that it calls make is longer than what came in: it says more and counts as full. Else prove '..UptoSaid'. A law counts once. -/
mutual
def uptoBulk {H : Type} : DataW H → Nat
  | .lit (.string bytes) => bytes.length + 1
  | .lit _ => 1
  | .nil => 1
  | .ptr d => uptoBulk d + 1
  | .slice elems spare => uptoBulkAll elems + uptoBulkAll spare + 1
  | .agg parts => uptoBulkAll parts + 1
  | .iface _ d => uptoBulk d + 1
  | .map entries => uptoBulkEntries entries + 1
  | .held _ => 1
def uptoBulkAll {H : Type} : List (DataW H) → Nat
  | [] => 0
  | d :: r => uptoBulk d + uptoBulkAll r
def uptoBulkEntries {H : Type} : List (Lit × DataW H) → Nat
  | [] => 0
  | x :: r => uptoBulkEntry x + uptoBulkEntries r
def uptoBulkEntry {H : Type} : Lit × DataW H → Nat
  | (.string bytes, d) => bytes.length + uptoBulk d + 1
  | (_, d) => uptoBulk d + 1
 end
def uptoSmall : (H : Type) → List (DataW H) → Bool := fun _ ds => decide (uptoBulkAll ds ≤ 1048576)
def OpenSpec.upto (s : _root_.Go.ChangeSpec) : _root_.Go.OpenSpec := { _root_.Go.OpenSpec.ofChange s with cond := some uptoSmall }

/-- 'examinertop.HostsSame', WHERE WHAT IT READS IS OF BULK AT MOST 1048576: true; the input reads as it did. -/
def hostsSameUptoRow : OpenClaim := { program := "ytgmncggiblaciaa", sum := "852d91acca651bfb78d5a9a083c0d69d20b66be79b10f80aa8c18f4827db45f7", func := "examiner/examinertop.HostsSame", spec := "hostsSame", unfollowed := true, recurses := true, apart := false, narrowed := true }
def HostsSameUptoSaid : Prop := hostsSameUptoRow.holds Try.pinned (OpenSpec.upto hostsSameSpec)

/-- 'examinerlaw36.HostsRuns', WHERE WHAT IT READS IS OF BULK AT MOST 1048576: true; the input reads as it did. -/
def hostsRunsUptoRow : OpenClaim := { program := "ytgmncggiblaciaa", sum := "852d91acca651bfb78d5a9a083c0d69d20b66be79b10f80aa8c18f4827db45f7", func := "examiner/examinerlaw36.HostsRuns", spec := "hostsRuns", unfollowed := true, recurses := true, apart := false, narrowed := true }
def HostsRunsUptoSaid : Prop := hostsRunsUptoRow.holds Try.pinned (OpenSpec.upto hostsRunsSpec)

/-- 'examinerlaw36.HostsSchedules', WHERE WHAT IT READS IS OF BULK AT MOST 1048576: true; the input reads as it did. -/
def hostsSchedulesUptoRow : OpenClaim := { program := "ytgmncggiblaciaa", sum := "852d91acca651bfb78d5a9a083c0d69d20b66be79b10f80aa8c18f4827db45f7", func := "examiner/examinerlaw36.HostsSchedules", spec := "hostsSchedules", unfollowed := true, recurses := true, apart := false, narrowed := true }
def HostsSchedulesUptoSaid : Prop := hostsSchedulesUptoRow.holds Try.pinned (OpenSpec.upto hostsSchedulesSpec)

/-- 'examinerlaw36.HostsCases', WHERE WHAT IT READS IS OF BULK AT MOST 1048576: true; the input reads as it did. -/
def hostsCasesUptoRow : OpenClaim := { program := "ytgmncggiblaciaa", sum := "852d91acca651bfb78d5a9a083c0d69d20b66be79b10f80aa8c18f4827db45f7", func := "examiner/examinerlaw36.HostsCases", spec := "hostsCases", unfollowed := true, recurses := true, apart := false, narrowed := true }
def HostsCasesUptoSaid : Prop := hostsCasesUptoRow.holds Try.pinned (OpenSpec.upto hostsCasesSpec)

/-- 'examinerlaw36.HostsEnds', WHERE WHAT IT READS IS OF BULK AT MOST 1048576: true; the input reads as it did. -/
def hostsEndsUptoRow : OpenClaim := { program := "ytgmncggiblaciaa", sum := "852d91acca651bfb78d5a9a083c0d69d20b66be79b10f80aa8c18f4827db45f7", func := "examiner/examinerlaw36.HostsEnds", spec := "hostsEnds", unfollowed := true, recurses := true, apart := false, narrowed := true }
def HostsEndsUptoSaid : Prop := hostsEndsUptoRow.holds Try.pinned (OpenSpec.upto hostsEndsSpec)

/-- 'examinerlaw36.HostsEvery', WHERE WHAT IT READS IS OF BULK AT MOST 1048576: true; the input reads as it did. -/
def hostsEveryUptoRow : OpenClaim := { program := "ytgmncggiblaciaa", sum := "852d91acca651bfb78d5a9a083c0d69d20b66be79b10f80aa8c18f4827db45f7", func := "examiner/examinerlaw36.HostsEvery", spec := "hostsEvery", unfollowed := true, recurses := true, apart := false, narrowed := true }
def HostsEveryUptoSaid : Prop := hostsEveryUptoRow.holds Try.pinned (OpenSpec.upto hostsEverySpec)

/-- 'examinerlaw36.HostsActs', WHERE WHAT IT READS IS OF BULK AT MOST 1048576: true; the input reads as it did. -/
def hostsActsUptoRow : OpenClaim := { program := "ytgmncggiblaciaa", sum := "852d91acca651bfb78d5a9a083c0d69d20b66be79b10f80aa8c18f4827db45f7", func := "examiner/examinerlaw36.HostsActs", spec := "hostsActs", unfollowed := true, recurses := true, apart := false, narrowed := true }
def HostsActsUptoSaid : Prop := hostsActsUptoRow.holds Try.pinned (OpenSpec.upto hostsActsSpec)

end Rows
end Go.Proofs.Ytgmncggiblaciaa
