/-
  No cell of these rows narrows 'for every input' (looked for: loops, veiled, ifaces, maps, wideKeys, modest, calm, conditions, laid).
  DERIVED. THE GIVEN ROWS OF THIS SEAT. 3 by the template 'for every input the law returns true; each argument reads behind the call as it read before'; 0 by the template 'total and deterministic' (their statements: YtckfidopkajpaaaTotals.lean).
  GIVEN WITH THE SEED: the statements are not yours to turn. If you find one false, say at which input.
  Laid BY PROGRAM, IN A SANDBOX (cutbox-rows.mjs): the forced cells as the released guide's own fill.sh prints them over the translation 2dc887723ac98c24… (all of the seat's roots in one cut). By AI agents, Wed Nov 11 2026. No macro, syntax, notation, axiom, sorry.
-/
import Derived.Test.YtckfidopkajpaaaChecked
import GoSem.Claim
import GoSem.ClaimJoined
import GoSem.ClaimMapViews
import Derived.JoinedTies
import Derived.KernelRfl
namespace Go.Proofs.Ytckfidopkajpaaa
/- THE CELL 'sum', in the pinned program and in every row, IS THE sha256 OF THE DUMP (.gsa) THAT YtckfidopkajpaaaProg.lean LOADS. Nothing in Lean hashes anything: it is a label: what it is worth is what the hold of that sum in a sandbox is worth. -/
noncomputable def Try.pinned : Pinned := { name := "ytckfidopkajpaaa", sum := "2dc887723ac98c2480159b6f3701431212e1439b37049d3725815a60d60a3bda", checked := Try.checked }
namespace Rows
def none {H : Type} : Left H := { results := [], args := [] }

/-- 'palaverlaw23.FramesBack': WHATEVER THE INPUT: true; the input reads as it did. -/
def framesBackSpec : ChangeSpec := { name := "framesBack", fn := fun _ => fun
  | [d1, d2, d3, d4] => { results := [.lit (.bool true)], args := [d1, d2, d3, d4] }
  | _ => none }
def framesBackRow : OpenClaim := { program := "ytckfidopkajpaaa", sum := "2dc887723ac98c2480159b6f3701431212e1439b37049d3725815a60d60a3bda", func := "palaver/palaverlaw23.FramesBack", spec := "framesBack", unfollowed := true, recurses := true, apart := false }
def FramesBackSaid : Prop := framesBackRow.holds Try.pinned (OpenSpec.ofChange framesBackSpec)

/-- ITS FALSE NEIGHBOUR: 'it returns false'. Refute it at one input. -/
def framesBackWrong : ChangeSpec := { name := "framesBack", fn := fun _ => fun
  | [d1, d2, d3, d4] => { results := [.lit (.bool false)], args := [d1, d2, d3, d4] }
  | _ => none }
def FramesBackWrongFalsely : Prop := framesBackRow.holds Try.pinned (OpenSpec.ofChange framesBackWrong)

/-- 'palaverlaw23.FramesDoes': WHATEVER THE INPUT: true; the input reads as it did. -/
def framesDoesSpec : ChangeSpec := { name := "framesDoes", fn := fun _ => fun
  | [d1, d2, d3, d4] => { results := [.lit (.bool true)], args := [d1, d2, d3, d4] }
  | _ => none }
def framesDoesRow : OpenClaim := { program := "ytckfidopkajpaaa", sum := "2dc887723ac98c2480159b6f3701431212e1439b37049d3725815a60d60a3bda", func := "palaver/palaverlaw23.FramesDoes", spec := "framesDoes", unfollowed := true, recurses := true, apart := false }
def FramesDoesSaid : Prop := framesDoesRow.holds Try.pinned (OpenSpec.ofChange framesDoesSpec)

/-- ITS FALSE NEIGHBOUR: 'it returns false'. Refute it at one input. -/
def framesDoesWrong : ChangeSpec := { name := "framesDoes", fn := fun _ => fun
  | [d1, d2, d3, d4] => { results := [.lit (.bool false)], args := [d1, d2, d3, d4] }
  | _ => none }
def FramesDoesWrongFalsely : Prop := framesDoesRow.holds Try.pinned (OpenSpec.ofChange framesDoesWrong)

/-- 'palaverlaw23.FramesUnseen': WHATEVER THE INPUT: true; the input reads as it did. -/
def framesUnseenSpec : ChangeSpec := { name := "framesUnseen", fn := fun _ => fun
  | [d1, d2, d3, d4, d5] => { results := [.lit (.bool true)], args := [d1, d2, d3, d4, d5] }
  | _ => none }
def framesUnseenRow : OpenClaim := { program := "ytckfidopkajpaaa", sum := "2dc887723ac98c2480159b6f3701431212e1439b37049d3725815a60d60a3bda", func := "palaver/palaverlaw23.FramesUnseen", spec := "framesUnseen", unfollowed := true, recurses := true, apart := false }
def FramesUnseenSaid : Prop := framesUnseenRow.holds Try.pinned (OpenSpec.ofChange framesUnseenSpec)

/-- ITS FALSE NEIGHBOUR: 'it returns false'. Refute it at one input. -/
def framesUnseenWrong : ChangeSpec := { name := "framesUnseen", fn := fun _ => fun
  | [d1, d2, d3, d4, d5] => { results := [.lit (.bool false)], args := [d1, d2, d3, d4, d5] }
  | _ => none }
def FramesUnseenWrongFalsely : Prop := framesUnseenRow.holds Try.pinned (OpenSpec.ofChange framesUnseenWrong)

/- THE SECOND FORM. 'bulk': how many values and letters a reading holds, each counted each time it is reached (what is shared counts as often as it is met; a slice's spare places count too). A statement '..UptoSaid' is the law's where the arguments, and the package variables that the reading takes, are together of bulk at most 1048576: NARROWER than '..Said'. Prove '..Said' where nothing that the law and all that it calls make is longer than what came in: it says more and counts as full. Else prove '..UptoSaid'. A law counts once. -/
mutual
def uptoBulk {H : Type} : DataW H → Nat
  | .lit (.string bytes) => bytes.length + 1
  | .lit _ => 1
  | .nil => 1
  | .ptr d => uptoBulk d + 1
  | .slice elems spare => uptoBulkAll elems + uptoBulkAll spare + 1
  | .agg parts => uptoBulkAll parts + 1
  | .iface _ d => uptoBulk d + 1
  | .map entries => uptoBulkEntries entries + 1
  | .held _ => 1
def uptoBulkAll {H : Type} : List (DataW H) → Nat
  | [] => 0
  | d :: r => uptoBulk d + uptoBulkAll r
def uptoBulkEntries {H : Type} : List (Lit × DataW H) → Nat
  | [] => 0
  | x :: r => uptoBulkEntry x + uptoBulkEntries r
def uptoBulkEntry {H : Type} : Lit × DataW H → Nat
  | (.string bytes, d) => bytes.length + uptoBulk d + 1
  | (_, d) => uptoBulk d + 1
 end
def uptoSmall : (H : Type) → List (DataW H) → Bool := fun _ ds => decide (uptoBulkAll ds ≤ 1048576)
def OpenSpec.upto (s : _root_.Go.ChangeSpec) : _root_.Go.OpenSpec := { _root_.Go.OpenSpec.ofChange s with cond := some uptoSmall }

/-- 'palaverlaw23.FramesBack', WHERE WHAT IT READS IS OF BULK AT MOST 1048576: true; the input reads as it did. -/
def framesBackUptoRow : OpenClaim := { program := "ytckfidopkajpaaa", sum := "2dc887723ac98c2480159b6f3701431212e1439b37049d3725815a60d60a3bda", func := "palaver/palaverlaw23.FramesBack", spec := "framesBack", unfollowed := true, recurses := true, apart := false, narrowed := true }
def FramesBackUptoSaid : Prop := framesBackUptoRow.holds Try.pinned (OpenSpec.upto framesBackSpec)

/-- 'palaverlaw23.FramesDoes', WHERE WHAT IT READS IS OF BULK AT MOST 1048576: true; the input reads as it did. -/
def framesDoesUptoRow : OpenClaim := { program := "ytckfidopkajpaaa", sum := "2dc887723ac98c2480159b6f3701431212e1439b37049d3725815a60d60a3bda", func := "palaver/palaverlaw23.FramesDoes", spec := "framesDoes", unfollowed := true, recurses := true, apart := false, narrowed := true }
def FramesDoesUptoSaid : Prop := framesDoesUptoRow.holds Try.pinned (OpenSpec.upto framesDoesSpec)

/-- 'palaverlaw23.FramesUnseen', WHERE WHAT IT READS IS OF BULK AT MOST 1048576: true; the input reads as it did. -/
def framesUnseenUptoRow : OpenClaim := { program := "ytckfidopkajpaaa", sum := "2dc887723ac98c2480159b6f3701431212e1439b37049d3725815a60d60a3bda", func := "palaver/palaverlaw23.FramesUnseen", spec := "framesUnseen", unfollowed := true, recurses := true, apart := false, narrowed := true }
def FramesUnseenUptoSaid : Prop := framesUnseenUptoRow.holds Try.pinned (OpenSpec.upto framesUnseenSpec)

end Rows
end Go.Proofs.Ytckfidopkajpaaa
