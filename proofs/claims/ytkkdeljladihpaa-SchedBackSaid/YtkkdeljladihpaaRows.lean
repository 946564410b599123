/-
  No cell of these rows narrows 'for every input' (looked for: loops, veiled, ifaces, maps, wideKeys, modest, calm, conditions, laid).
  DERIVED. THE GIVEN ROWS OF THIS SEAT. 4 by the template 'for every input the law returns true; each argument reads behind the call as it read before'; 0 by the template 'total and deterministic' (their statements: YtkkdeljladihpaaTotals.lean).
  GIVEN WITH THE SEED: the statements are not yours to turn. If you find one false, say at which input.
  Laid BY PROGRAM, IN A SANDBOX (cutbox-rows.mjs): the forced cells as the released guide's own fill.sh prints them over the translation d5e97e49c44e23f7… (all of the seat's roots in one cut). By AI agents, Wed Nov 11 2026. No macro, syntax, notation, axiom, sorry.
-/
import Derived.Test.YtkkdeljladihpaaChecked
import GoSem.Claim
import GoSem.ClaimJoined
import GoSem.ClaimMapViews
import Derived.JoinedTies
import Derived.KernelRfl
namespace Go.Proofs.Ytkkdeljladihpaa
/- THE CELL 'sum', in the pinned program and in every row, IS THE sha256 OF THE DUMP (.gsa) THAT YtkkdeljladihpaaProg.lean LOADS. Nothing in Lean hashes anything: it is a label: what it is worth is what the hold of that sum in a sandbox is worth. -/
noncomputable def Try.pinned : Pinned := { name := "ytkkdeljladihpaa", sum := "d5e97e49c44e23f7a0f43d967ba85a427cc7686c35aa30ffa012ddcbe495e2be", checked := Try.checked }
namespace Rows
def none {H : Type} : Left H := { results := [], args := [] }

/-- 'palaverlaw26.SchedFirst': WHATEVER THE INPUT: true; the input reads as it did. -/
def schedFirstSpec : ChangeSpec := { name := "schedFirst", fn := fun _ => fun
  | [d] => { results := [.lit (.bool true)], args := [d] }
  | _ => none }
def schedFirstRow : OpenClaim := { program := "ytkkdeljladihpaa", sum := "d5e97e49c44e23f7a0f43d967ba85a427cc7686c35aa30ffa012ddcbe495e2be", func := "palaver/palaverlaw26.SchedFirst", spec := "schedFirst", unfollowed := true, recurses := true, apart := false }
def SchedFirstSaid : Prop := schedFirstRow.holds Try.pinned (OpenSpec.ofChange schedFirstSpec)

/-- ITS FALSE NEIGHBOUR: 'it returns false'. Refute it at one input. -/
def schedFirstWrong : ChangeSpec := { name := "schedFirst", fn := fun _ => fun
  | [d] => { results := [.lit (.bool false)], args := [d] }
  | _ => none }
def SchedFirstWrongFalsely : Prop := schedFirstRow.holds Try.pinned (OpenSpec.ofChange schedFirstWrong)

/-- 'palaverlaw26.SchedSignals': WHATEVER THE INPUT: true; the input reads as it did. -/
def schedSignalsSpec : ChangeSpec := { name := "schedSignals", fn := fun _ => fun
  | [d] => { results := [.lit (.bool true)], args := [d] }
  | _ => none }
def schedSignalsRow : OpenClaim := { program := "ytkkdeljladihpaa", sum := "d5e97e49c44e23f7a0f43d967ba85a427cc7686c35aa30ffa012ddcbe495e2be", func := "palaver/palaverlaw26.SchedSignals", spec := "schedSignals", unfollowed := true, recurses := true, apart := false }
def SchedSignalsSaid : Prop := schedSignalsRow.holds Try.pinned (OpenSpec.ofChange schedSignalsSpec)

/-- ITS FALSE NEIGHBOUR: 'it returns false'. Refute it at one input. -/
def schedSignalsWrong : ChangeSpec := { name := "schedSignals", fn := fun _ => fun
  | [d] => { results := [.lit (.bool false)], args := [d] }
  | _ => none }
def SchedSignalsWrongFalsely : Prop := schedSignalsRow.holds Try.pinned (OpenSpec.ofChange schedSignalsWrong)

/-- 'palaverlaw26.SchedFair': WHATEVER THE INPUT: true; the input reads as it did. -/
def schedFairSpec : ChangeSpec := { name := "schedFair", fn := fun _ => fun
  | [d] => { results := [.lit (.bool true)], args := [d] }
  | _ => none }
def schedFairRow : OpenClaim := { program := "ytkkdeljladihpaa", sum := "d5e97e49c44e23f7a0f43d967ba85a427cc7686c35aa30ffa012ddcbe495e2be", func := "palaver/palaverlaw26.SchedFair", spec := "schedFair", unfollowed := true, recurses := true, apart := false }
def SchedFairSaid : Prop := schedFairRow.holds Try.pinned (OpenSpec.ofChange schedFairSpec)

/-- ITS FALSE NEIGHBOUR: 'it returns false'. Refute it at one input. -/
def schedFairWrong : ChangeSpec := { name := "schedFair", fn := fun _ => fun
  | [d] => { results := [.lit (.bool false)], args := [d] }
  | _ => none }
def SchedFairWrongFalsely : Prop := schedFairRow.holds Try.pinned (OpenSpec.ofChange schedFairWrong)

/-- 'palaverlaw26.SchedBack': WHATEVER THE INPUT: true; the input reads as it did. -/
def schedBackSpec : ChangeSpec := { name := "schedBack", fn := fun _ => fun
  | [d1, d2] => { results := [.lit (.bool true)], args := [d1, d2] }
  | _ => none }
def schedBackRow : OpenClaim := { program := "ytkkdeljladihpaa", sum := "d5e97e49c44e23f7a0f43d967ba85a427cc7686c35aa30ffa012ddcbe495e2be", func := "palaver/palaverlaw26.SchedBack", spec := "schedBack", unfollowed := true, recurses := true, apart := false }
def SchedBackSaid : Prop := schedBackRow.holds Try.pinned (OpenSpec.ofChange schedBackSpec)

/-- ITS FALSE NEIGHBOUR: 'it returns false'. Refute it at one input. -/
def schedBackWrong : ChangeSpec := { name := "schedBack", fn := fun _ => fun
  | [d1, d2] => { results := [.lit (.bool false)], args := [d1, d2] }
  | _ => none }
def SchedBackWrongFalsely : Prop := schedBackRow.holds Try.pinned (OpenSpec.ofChange schedBackWrong)

/- THE SECOND FORM. 'bulk': how many values and letters a reading holds, each counted each time it is reached (what is shared counts as often as it is met; a slice's spare places count too). A statement '..UptoSaid' is the law's where the arguments, and the package variables that the reading takes, are together of bulk at most 1048576: NARROWER than '..Said'. Prove '..Said' where nothing that the law and all that it calls make is longer than what came in: it says more and counts as full. Else prove '..UptoSaid'. A law counts once. -/
mutual
def uptoBulk {H : Type} : DataW H → Nat
  | .lit (.string bytes) => bytes.length + 1
  | .lit _ => 1
  | .nil => 1
  | .ptr d => uptoBulk d + 1
  | .slice elems spare => uptoBulkAll elems + uptoBulkAll spare + 1
  | .agg parts => uptoBulkAll parts + 1
  | .iface _ d => uptoBulk d + 1
  | .map entries => uptoBulkEntries entries + 1
  | .held _ => 1
def uptoBulkAll {H : Type} : List (DataW H) → Nat
  | [] => 0
  | d :: r => uptoBulk d + uptoBulkAll r
def uptoBulkEntries {H : Type} : List (Lit × DataW H) → Nat
  | [] => 0
  | x :: r => uptoBulkEntry x + uptoBulkEntries r
def uptoBulkEntry {H : Type} : Lit × DataW H → Nat
  | (.string bytes, d) => bytes.length + uptoBulk d + 1
  | (_, d) => uptoBulk d + 1
 end
def uptoSmall : (H : Type) → List (DataW H) → Bool := fun _ ds => decide (uptoBulkAll ds ≤ 1048576)
def OpenSpec.upto (s : _root_.Go.ChangeSpec) : _root_.Go.OpenSpec := { _root_.Go.OpenSpec.ofChange s with cond := some uptoSmall }

/-- 'palaverlaw26.SchedFirst', WHERE WHAT IT READS IS OF BULK AT MOST 1048576: true; the input reads as it did. -/
def schedFirstUptoRow : OpenClaim := { program := "ytkkdeljladihpaa", sum := "d5e97e49c44e23f7a0f43d967ba85a427cc7686c35aa30ffa012ddcbe495e2be", func := "palaver/palaverlaw26.SchedFirst", spec := "schedFirst", unfollowed := true, recurses := true, apart := false, narrowed := true }
def SchedFirstUptoSaid : Prop := schedFirstUptoRow.holds Try.pinned (OpenSpec.upto schedFirstSpec)

/-- 'palaverlaw26.SchedSignals', WHERE WHAT IT READS IS OF BULK AT MOST 1048576: true; the input reads as it did. -/
def schedSignalsUptoRow : OpenClaim := { program := "ytkkdeljladihpaa", sum := "d5e97e49c44e23f7a0f43d967ba85a427cc7686c35aa30ffa012ddcbe495e2be", func := "palaver/palaverlaw26.SchedSignals", spec := "schedSignals", unfollowed := true, recurses := true, apart := false, narrowed := true }
def SchedSignalsUptoSaid : Prop := schedSignalsUptoRow.holds Try.pinned (OpenSpec.upto schedSignalsSpec)

/-- 'palaverlaw26.SchedFair', WHERE WHAT IT READS IS OF BULK AT MOST 1048576: true; the input reads as it did. -/
def schedFairUptoRow : OpenClaim := { program := "ytkkdeljladihpaa", sum := "d5e97e49c44e23f7a0f43d967ba85a427cc7686c35aa30ffa012ddcbe495e2be", func := "palaver/palaverlaw26.SchedFair", spec := "schedFair", unfollowed := true, recurses := true, apart := false, narrowed := true }
def SchedFairUptoSaid : Prop := schedFairUptoRow.holds Try.pinned (OpenSpec.upto schedFairSpec)

/-- 'palaverlaw26.SchedBack', WHERE WHAT IT READS IS OF BULK AT MOST 1048576: true; the input reads as it did. -/
def schedBackUptoRow : OpenClaim := { program := "ytkkdeljladihpaa", sum := "d5e97e49c44e23f7a0f43d967ba85a427cc7686c35aa30ffa012ddcbe495e2be", func := "palaver/palaverlaw26.SchedBack", spec := "schedBack", unfollowed := true, recurses := true, apart := false, narrowed := true }
def SchedBackUptoSaid : Prop := schedBackUptoRow.holds Try.pinned (OpenSpec.upto schedBackSpec)

end Rows
end Go.Proofs.Ytkkdeljladihpaa
