/-
  No cell of these rows narrows 'for every input' (looked for: loops, veiled, ifaces, maps, wideKeys, modest, calm, conditions, laid).
  DERIVED. THE GIVEN ROWS OF THIS SEAT. 8 by the template 'for every input the law returns true; each argument reads behind the call as it read before'; 0 by the template 'total and deterministic' (their statements: YtmjjfdppaomcfaaTotals.lean).
  GIVEN WITH THE SEED: the statements are not yours to turn. If you find one false, say at which input.
  Laid BY PROGRAM, IN A SANDBOX (cutbox-rows.mjs): the forced cells as the released guide's own fill.sh prints them over the translation ca0dbcee02702adc… (all of the seat's roots in one cut). By AI agents, Wed Nov 11 2026. No macro, syntax, notation, axiom, sorry.
-/
import Derived.Test.YtmjjfdppaomcfaaChecked
import GoSem.Claim
import GoSem.ClaimJoined
import GoSem.ClaimMapViews
import Derived.JoinedTies
import Derived.KernelRfl
namespace Go.Proofs.Ytmjjfdppaomcfaa
/- THE CELL 'sum', in the pinned program and in every row, IS THE sha256 OF THE DUMP (.gsa) THAT YtmjjfdppaomcfaaProg.lean LOADS. Nothing in Lean hashes anything: it is a label: what it is worth is what the hold of that sum in a sandbox is worth. -/
noncomputable def Try.pinned : Pinned := { name := "ytmjjfdppaomcfaa", sum := "ca0dbcee02702adc39ed6bc04d2acf4a58d50208915e41f82a2859bb1ac2d5c7", checked := Try.checked }
namespace Rows
def none {H : Type} : Left H := { results := [], args := [] }

/-- 'examinerlaw10.WalkReads': WHATEVER THE INPUT: true; the input reads as it did. -/
def walkReadsSpec : ChangeSpec := { name := "walkReads", fn := fun _ => fun
  | [d] => { results := [.lit (.bool true)], args := [d] }
  | _ => none }
def walkReadsRow : OpenClaim := { program := "ytmjjfdppaomcfaa", sum := "ca0dbcee02702adc39ed6bc04d2acf4a58d50208915e41f82a2859bb1ac2d5c7", func := "examiner/examinerlaw10.WalkReads", spec := "walkReads", unfollowed := true, recurses := true, apart := false }
def WalkReadsSaid : Prop := walkReadsRow.holds Try.pinned (OpenSpec.ofChange walkReadsSpec)

/-- ITS FALSE NEIGHBOUR: 'it returns false'. Refute it at one input. -/
def walkReadsWrong : ChangeSpec := { name := "walkReads", fn := fun _ => fun
  | [d] => { results := [.lit (.bool false)], args := [d] }
  | _ => none }
def WalkReadsWrongFalsely : Prop := walkReadsRow.holds Try.pinned (OpenSpec.ofChange walkReadsWrong)

/-- 'examinerlaw10.WalkReplaces': WHATEVER THE INPUT: true; the input reads as it did. -/
def walkReplacesSpec : ChangeSpec := { name := "walkReplaces", fn := fun _ => fun
  | [d1, d2, d3] => { results := [.lit (.bool true)], args := [d1, d2, d3] }
  | _ => none }
def walkReplacesRow : OpenClaim := { program := "ytmjjfdppaomcfaa", sum := "ca0dbcee02702adc39ed6bc04d2acf4a58d50208915e41f82a2859bb1ac2d5c7", func := "examiner/examinerlaw10.WalkReplaces", spec := "walkReplaces", unfollowed := true, recurses := true, apart := false }
def WalkReplacesSaid : Prop := walkReplacesRow.holds Try.pinned (OpenSpec.ofChange walkReplacesSpec)

/-- ITS FALSE NEIGHBOUR: 'it returns false'. Refute it at one input. -/
def walkReplacesWrong : ChangeSpec := { name := "walkReplaces", fn := fun _ => fun
  | [d1, d2, d3] => { results := [.lit (.bool false)], args := [d1, d2, d3] }
  | _ => none }
def WalkReplacesWrongFalsely : Prop := walkReplacesRow.holds Try.pinned (OpenSpec.ofChange walkReplacesWrong)

/-- 'examinerlaw10.WalkWrites': WHATEVER THE INPUT: true; the input reads as it did. -/
def walkWritesSpec : ChangeSpec := { name := "walkWrites", fn := fun _ => fun
  | [d1, d2, d3] => { results := [.lit (.bool true)], args := [d1, d2, d3] }
  | _ => none }
def walkWritesRow : OpenClaim := { program := "ytmjjfdppaomcfaa", sum := "ca0dbcee02702adc39ed6bc04d2acf4a58d50208915e41f82a2859bb1ac2d5c7", func := "examiner/examinerlaw10.WalkWrites", spec := "walkWrites", unfollowed := true, recurses := true, apart := false }
def WalkWritesSaid : Prop := walkWritesRow.holds Try.pinned (OpenSpec.ofChange walkWritesSpec)

/-- ITS FALSE NEIGHBOUR: 'it returns false'. Refute it at one input. -/
def walkWritesWrong : ChangeSpec := { name := "walkWrites", fn := fun _ => fun
  | [d1, d2, d3] => { results := [.lit (.bool false)], args := [d1, d2, d3] }
  | _ => none }
def WalkWritesWrongFalsely : Prop := walkWritesRow.holds Try.pinned (OpenSpec.ofChange walkWritesWrong)

/-- 'examinerlaw10.WalkAlike': WHATEVER THE INPUT: true; the input reads as it did. -/
def walkAlikeSpec : ChangeSpec := { name := "walkAlike", fn := fun _ => fun
  | [d1, d2] => { results := [.lit (.bool true)], args := [d1, d2] }
  | _ => none }
def walkAlikeRow : OpenClaim := { program := "ytmjjfdppaomcfaa", sum := "ca0dbcee02702adc39ed6bc04d2acf4a58d50208915e41f82a2859bb1ac2d5c7", func := "examiner/examinerlaw10.WalkAlike", spec := "walkAlike", unfollowed := true, recurses := true, apart := false }
def WalkAlikeSaid : Prop := walkAlikeRow.holds Try.pinned (OpenSpec.ofChange walkAlikeSpec)

/-- ITS FALSE NEIGHBOUR: 'it returns false'. Refute it at one input. -/
def walkAlikeWrong : ChangeSpec := { name := "walkAlike", fn := fun _ => fun
  | [d1, d2] => { results := [.lit (.bool false)], args := [d1, d2] }
  | _ => none }
def WalkAlikeWrongFalsely : Prop := walkAlikeRow.holds Try.pinned (OpenSpec.ofChange walkAlikeWrong)

/-- 'examinerlaw10.WalkPlaces': WHATEVER THE INPUT: true; the input reads as it did. -/
def walkPlacesSpec : ChangeSpec := { name := "walkPlaces", fn := fun _ => fun
  | [d1, d2, d3] => { results := [.lit (.bool true)], args := [d1, d2, d3] }
  | _ => none }
def walkPlacesRow : OpenClaim := { program := "ytmjjfdppaomcfaa", sum := "ca0dbcee02702adc39ed6bc04d2acf4a58d50208915e41f82a2859bb1ac2d5c7", func := "examiner/examinerlaw10.WalkPlaces", spec := "walkPlaces", unfollowed := true, recurses := true, apart := false }
def WalkPlacesSaid : Prop := walkPlacesRow.holds Try.pinned (OpenSpec.ofChange walkPlacesSpec)

/-- ITS FALSE NEIGHBOUR: 'it returns false'. Refute it at one input. -/
def walkPlacesWrong : ChangeSpec := { name := "walkPlaces", fn := fun _ => fun
  | [d1, d2, d3] => { results := [.lit (.bool false)], args := [d1, d2, d3] }
  | _ => none }
def WalkPlacesWrongFalsely : Prop := walkPlacesRow.holds Try.pinned (OpenSpec.ofChange walkPlacesWrong)

/-- 'examinerlaw10.WalkWhole': WHATEVER THE INPUT: true; the input reads as it did. -/
def walkWholeSpec : ChangeSpec := { name := "walkWhole", fn := fun _ => fun
  | [d] => { results := [.lit (.bool true)], args := [d] }
  | _ => none }
def walkWholeRow : OpenClaim := { program := "ytmjjfdppaomcfaa", sum := "ca0dbcee02702adc39ed6bc04d2acf4a58d50208915e41f82a2859bb1ac2d5c7", func := "examiner/examinerlaw10.WalkWhole", spec := "walkWhole", unfollowed := true, recurses := true, apart := false }
def WalkWholeSaid : Prop := walkWholeRow.holds Try.pinned (OpenSpec.ofChange walkWholeSpec)

/-- ITS FALSE NEIGHBOUR: 'it returns false'. Refute it at one input. -/
def walkWholeWrong : ChangeSpec := { name := "walkWhole", fn := fun _ => fun
  | [d] => { results := [.lit (.bool false)], args := [d] }
  | _ => none }
def WalkWholeWrongFalsely : Prop := walkWholeRow.holds Try.pinned (OpenSpec.ofChange walkWholeWrong)

/-- 'examinerlaw10.WalkShort': WHATEVER THE INPUT: true; the input reads as it did. -/
def walkShortSpec : ChangeSpec := { name := "walkShort", fn := fun _ => fun
  | [d] => { results := [.lit (.bool true)], args := [d] }
  | _ => none }
def walkShortRow : OpenClaim := { program := "ytmjjfdppaomcfaa", sum := "ca0dbcee02702adc39ed6bc04d2acf4a58d50208915e41f82a2859bb1ac2d5c7", func := "examiner/examinerlaw10.WalkShort", spec := "walkShort", unfollowed := true, recurses := true, apart := false }
def WalkShortSaid : Prop := walkShortRow.holds Try.pinned (OpenSpec.ofChange walkShortSpec)

/-- ITS FALSE NEIGHBOUR: 'it returns false'. Refute it at one input. -/
def walkShortWrong : ChangeSpec := { name := "walkShort", fn := fun _ => fun
  | [d] => { results := [.lit (.bool false)], args := [d] }
  | _ => none }
def WalkShortWrongFalsely : Prop := walkShortRow.holds Try.pinned (OpenSpec.ofChange walkShortWrong)

/-- 'examinerlaw10.WalkShortest': WHATEVER THE INPUT: true; the input reads as it did. -/
def walkShortestSpec : ChangeSpec := { name := "walkShortest", fn := fun _ => fun
  | [d1, d2] => { results := [.lit (.bool true)], args := [d1, d2] }
  | _ => none }
def walkShortestRow : OpenClaim := { program := "ytmjjfdppaomcfaa", sum := "ca0dbcee02702adc39ed6bc04d2acf4a58d50208915e41f82a2859bb1ac2d5c7", func := "examiner/examinerlaw10.WalkShortest", spec := "walkShortest", unfollowed := true, recurses := true, apart := false }
def WalkShortestSaid : Prop := walkShortestRow.holds Try.pinned (OpenSpec.ofChange walkShortestSpec)

/-- ITS FALSE NEIGHBOUR: 'it returns false'. Refute it at one input. -/
def walkShortestWrong : ChangeSpec := { name := "walkShortest", fn := fun _ => fun
  | [d1, d2] => { results := [.lit (.bool false)], args := [d1, d2] }
  | _ => none }
def WalkShortestWrongFalsely : Prop := walkShortestRow.holds Try.pinned (OpenSpec.ofChange walkShortestWrong)

/- THE SECOND FORM. 'bulk': how many values and letters a reading holds, each counted each time it is reached (what is shared counts as often as it is met; a slice's spare places count too). A statement '..UptoSaid' is the law's where the arguments, and the package variables that the reading takes, are together of bulk at most 1048576: NARROWER than '..Said'. Prove '..Said' where nothing that the law and all that it calls make is longer than what came in: it says more and counts as full. Else prove '..UptoSaid'. A law counts once. -/
mutual
def uptoBulk {H : Type} : DataW H → Nat
  | .lit (.string bytes) => bytes.length + 1
  | .lit _ => 1
  | .nil => 1
  | .ptr d => uptoBulk d + 1
  | .slice elems spare => uptoBulkAll elems + uptoBulkAll spare + 1
  | .agg parts => uptoBulkAll parts + 1
  | .iface _ d => uptoBulk d + 1
  | .map entries => uptoBulkEntries entries + 1
  | .held _ => 1
def uptoBulkAll {H : Type} : List (DataW H) → Nat
  | [] => 0
  | d :: r => uptoBulk d + uptoBulkAll r
def uptoBulkEntries {H : Type} : List (Lit × DataW H) → Nat
  | [] => 0
  | x :: r => uptoBulkEntry x + uptoBulkEntries r
def uptoBulkEntry {H : Type} : Lit × DataW H → Nat
  | (.string bytes, d) => bytes.length + uptoBulk d + 1
  | (_, d) => uptoBulk d + 1
 end
def uptoSmall : (H : Type) → List (DataW H) → Bool := fun _ ds => decide (uptoBulkAll ds ≤ 1048576)
def OpenSpec.upto (s : _root_.Go.ChangeSpec) : _root_.Go.OpenSpec := { _root_.Go.OpenSpec.ofChange s with cond := some uptoSmall }

/-- 'examinerlaw10.WalkReads', WHERE WHAT IT READS IS OF BULK AT MOST 1048576: true; the input reads as it did. -/
def walkReadsUptoRow : OpenClaim := { program := "ytmjjfdppaomcfaa", sum := "ca0dbcee02702adc39ed6bc04d2acf4a58d50208915e41f82a2859bb1ac2d5c7", func := "examiner/examinerlaw10.WalkReads", spec := "walkReads", unfollowed := true, recurses := true, apart := false, narrowed := true }
def WalkReadsUptoSaid : Prop := walkReadsUptoRow.holds Try.pinned (OpenSpec.upto walkReadsSpec)

/-- 'examinerlaw10.WalkReplaces', WHERE WHAT IT READS IS OF BULK AT MOST 1048576: true; the input reads as it did. -/
def walkReplacesUptoRow : OpenClaim := { program := "ytmjjfdppaomcfaa", sum := "ca0dbcee02702adc39ed6bc04d2acf4a58d50208915e41f82a2859bb1ac2d5c7", func := "examiner/examinerlaw10.WalkReplaces", spec := "walkReplaces", unfollowed := true, recurses := true, apart := false, narrowed := true }
def WalkReplacesUptoSaid : Prop := walkReplacesUptoRow.holds Try.pinned (OpenSpec.upto walkReplacesSpec)

/-- 'examinerlaw10.WalkWrites', WHERE WHAT IT READS IS OF BULK AT MOST 1048576: true; the input reads as it did. -/
def walkWritesUptoRow : OpenClaim := { program := "ytmjjfdppaomcfaa", sum := "ca0dbcee02702adc39ed6bc04d2acf4a58d50208915e41f82a2859bb1ac2d5c7", func := "examiner/examinerlaw10.WalkWrites", spec := "walkWrites", unfollowed := true, recurses := true, apart := false, narrowed := true }
def WalkWritesUptoSaid : Prop := walkWritesUptoRow.holds Try.pinned (OpenSpec.upto walkWritesSpec)

/-- 'examinerlaw10.WalkAlike', WHERE WHAT IT READS IS OF BULK AT MOST 1048576: true; the input reads as it did. -/
def walkAlikeUptoRow : OpenClaim := { program := "ytmjjfdppaomcfaa", sum := "ca0dbcee02702adc39ed6bc04d2acf4a58d50208915e41f82a2859bb1ac2d5c7", func := "examiner/examinerlaw10.WalkAlike", spec := "walkAlike", unfollowed := true, recurses := true, apart := false, narrowed := true }
def WalkAlikeUptoSaid : Prop := walkAlikeUptoRow.holds Try.pinned (OpenSpec.upto walkAlikeSpec)

/-- 'examinerlaw10.WalkPlaces', WHERE WHAT IT READS IS OF BULK AT MOST 1048576: true; the input reads as it did. -/
def walkPlacesUptoRow : OpenClaim := { program := "ytmjjfdppaomcfaa", sum := "ca0dbcee02702adc39ed6bc04d2acf4a58d50208915e41f82a2859bb1ac2d5c7", func := "examiner/examinerlaw10.WalkPlaces", spec := "walkPlaces", unfollowed := true, recurses := true, apart := false, narrowed := true }
def WalkPlacesUptoSaid : Prop := walkPlacesUptoRow.holds Try.pinned (OpenSpec.upto walkPlacesSpec)

/-- 'examinerlaw10.WalkWhole', WHERE WHAT IT READS IS OF BULK AT MOST 1048576: true; the input reads as it did. -/
def walkWholeUptoRow : OpenClaim := { program := "ytmjjfdppaomcfaa", sum := "ca0dbcee02702adc39ed6bc04d2acf4a58d50208915e41f82a2859bb1ac2d5c7", func := "examiner/examinerlaw10.WalkWhole", spec := "walkWhole", unfollowed := true, recurses := true, apart := false, narrowed := true }
def WalkWholeUptoSaid : Prop := walkWholeUptoRow.holds Try.pinned (OpenSpec.upto walkWholeSpec)

/-- 'examinerlaw10.WalkShort', WHERE WHAT IT READS IS OF BULK AT MOST 1048576: true; the input reads as it did. -/
def walkShortUptoRow : OpenClaim := { program := "ytmjjfdppaomcfaa", sum := "ca0dbcee02702adc39ed6bc04d2acf4a58d50208915e41f82a2859bb1ac2d5c7", func := "examiner/examinerlaw10.WalkShort", spec := "walkShort", unfollowed := true, recurses := true, apart := false, narrowed := true }
def WalkShortUptoSaid : Prop := walkShortUptoRow.holds Try.pinned (OpenSpec.upto walkShortSpec)

/-- 'examinerlaw10.WalkShortest', WHERE WHAT IT READS IS OF BULK AT MOST 1048576: true; the input reads as it did. -/
def walkShortestUptoRow : OpenClaim := { program := "ytmjjfdppaomcfaa", sum := "ca0dbcee02702adc39ed6bc04d2acf4a58d50208915e41f82a2859bb1ac2d5c7", func := "examiner/examinerlaw10.WalkShortest", spec := "walkShortest", unfollowed := true, recurses := true, apart := false, narrowed := true }
def WalkShortestUptoSaid : Prop := walkShortestUptoRow.holds Try.pinned (OpenSpec.upto walkShortestSpec)

end Rows
end Go.Proofs.Ytmjjfdppaomcfaa
