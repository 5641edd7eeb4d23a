/- A long function's code in parts. -/
import Derived.Test.YtmjjfdppaomcfaaAb23
namespace Go.Proofs.Ytmjjfdppaomcfaa.Ab
open Go

/-- what stands behind the first n statements; the same code with another end -/
def dropS : Nat → CC → CC
  | 0, c => c
  | n + 1, .seq _ b => dropS n b
  | _ + 1, c => c
def putS : Nat → CC → CC → CC
  | 0, _, r => r
  | n + 1, .seq a b, r => .seq a (putS n b r)
  | _ + 1, c, _ => c
theorem putS_drop : ∀ (n : Nat) (c : CC), putS n c (dropS n c) = c
  | 0, _ => rfl
  | n + 1, .seq a b => by rw [putS, dropS, putS_drop n b]
  | _ + 1, .skip => rfl
  | _ + 1, .reg _ => rfl
  | _ + 1, .dr _ => rfl
  | _ + 1, .cond _ _ _ => rfl
  | _ + 1, .block _ _ => rfl
  | _ + 1, .loop _ => rfl
  | _ + 1, .exit _ => rfl
  | _ + 1, .ret => rfl
  | _ + 1, .other _ => rfl
end Go.Proofs.Ytmjjfdppaomcfaa.Ab
