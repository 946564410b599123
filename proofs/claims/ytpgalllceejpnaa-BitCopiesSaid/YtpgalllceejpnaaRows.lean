/-
  No cell of these rows narrows 'for every input' (looked for: loops, veiled, ifaces, maps, wideKeys, modest, calm, conditions, laid).
  DERIVED. THE GIVEN ROWS OF THIS SEAT. 5 by the template 'for every input the law returns true; each argument reads behind the call as it read before'; 0 by the template 'total and deterministic' (their statements: YtpgalllceejpnaaTotals.lean).
  GIVEN WITH THE SEED: the statements are not yours to turn. If you find one false, say at which input.
  Laid BY PROGRAM, IN A SANDBOX (cutbox-rows.mjs): the forced cells as the released guide's own fill.sh prints them over the translation 28d388b3f705ba83… (all of the seat's roots in one cut). By AI agents, Wed Nov 11 2026. No macro, syntax, notation, axiom, sorry.
-/
import Derived.Test.YtpgalllceejpnaaChecked
import GoSem.Claim
import GoSem.ClaimJoined
import GoSem.ClaimMapViews
import Derived.JoinedTies
import Derived.KernelRfl
namespace Go.Proofs.Ytpgalllceejpnaa
/- THE CELL 'sum', in the pinned program and in every row, IS THE sha256 OF THE DUMP (.gsa) THAT YtpgalllceejpnaaProg.lean LOADS. Nothing in Lean hashes anything: it is a label: what it is worth is what the hold of that sum in a sandbox is worth. -/
noncomputable def Try.pinned : Pinned := { name := "ytpgalllceejpnaa", sum := "28d388b3f705ba833b172fd0b37da88693a68fe1e577b1734a3b7f5c8b680cf9", checked := Try.checked }
namespace Rows
def none {H : Type} : Left H := { results := [], args := [] }

/-- 'palaverlaw11.BitForms': WHATEVER THE INPUT: true; the input reads as it did. -/
def bitFormsSpec : ChangeSpec := { name := "bitForms", fn := fun _ => fun
  | [d1, d2, d3, d4, d5, d6, d7] => { results := [.lit (.bool true)], args := [d1, d2, d3, d4, d5, d6, d7] }
  | _ => none }
def bitFormsRow : OpenClaim := { program := "ytpgalllceejpnaa", sum := "28d388b3f705ba833b172fd0b37da88693a68fe1e577b1734a3b7f5c8b680cf9", func := "palaver/palaverlaw11.BitForms", spec := "bitForms", unfollowed := true, recurses := true, apart := false }
def BitFormsSaid : Prop := bitFormsRow.holds Try.pinned (OpenSpec.ofChange bitFormsSpec)

/-- ITS FALSE NEIGHBOUR: 'it returns false'. Refute it at one input. -/
def bitFormsWrong : ChangeSpec := { name := "bitForms", fn := fun _ => fun
  | [d1, d2, d3, d4, d5, d6, d7] => { results := [.lit (.bool false)], args := [d1, d2, d3, d4, d5, d6, d7] }
  | _ => none }
def BitFormsWrongFalsely : Prop := bitFormsRow.holds Try.pinned (OpenSpec.ofChange bitFormsWrong)

/-- 'palaverlaw11.BitCopies': WHATEVER THE INPUT: true; the input reads as it did. -/
def bitCopiesSpec : ChangeSpec := { name := "bitCopies", fn := fun _ => fun
  | [d1, d2, d3] => { results := [.lit (.bool true)], args := [d1, d2, d3] }
  | _ => none }
def bitCopiesRow : OpenClaim := { program := "ytpgalllceejpnaa", sum := "28d388b3f705ba833b172fd0b37da88693a68fe1e577b1734a3b7f5c8b680cf9", func := "palaver/palaverlaw11.BitCopies", spec := "bitCopies", unfollowed := true, recurses := true, apart := false }
def BitCopiesSaid : Prop := bitCopiesRow.holds Try.pinned (OpenSpec.ofChange bitCopiesSpec)

/-- ITS FALSE NEIGHBOUR: 'it returns false'. Refute it at one input. -/
def bitCopiesWrong : ChangeSpec := { name := "bitCopies", fn := fun _ => fun
  | [d1, d2, d3] => { results := [.lit (.bool false)], args := [d1, d2, d3] }
  | _ => none }
def BitCopiesWrongFalsely : Prop := bitCopiesRow.holds Try.pinned (OpenSpec.ofChange bitCopiesWrong)

/-- 'palaverlaw11.BitOutside': WHATEVER THE INPUT: true; the input reads as it did. -/
def bitOutsideSpec : ChangeSpec := { name := "bitOutside", fn := fun _ => fun
  | [d1, d2, d3] => { results := [.lit (.bool true)], args := [d1, d2, d3] }
  | _ => none }
def bitOutsideRow : OpenClaim := { program := "ytpgalllceejpnaa", sum := "28d388b3f705ba833b172fd0b37da88693a68fe1e577b1734a3b7f5c8b680cf9", func := "palaver/palaverlaw11.BitOutside", spec := "bitOutside", unfollowed := true, recurses := true, apart := false }
def BitOutsideSaid : Prop := bitOutsideRow.holds Try.pinned (OpenSpec.ofChange bitOutsideSpec)

/-- ITS FALSE NEIGHBOUR: 'it returns false'. Refute it at one input. -/
def bitOutsideWrong : ChangeSpec := { name := "bitOutside", fn := fun _ => fun
  | [d1, d2, d3] => { results := [.lit (.bool false)], args := [d1, d2, d3] }
  | _ => none }
def BitOutsideWrongFalsely : Prop := bitOutsideRow.holds Try.pinned (OpenSpec.ofChange bitOutsideWrong)

/-- 'palaverlaw11.BitRules': WHATEVER THE INPUT: true; the input reads as it did. -/
def bitRulesSpec : ChangeSpec := { name := "bitRules", fn := fun _ => fun
  | [d1, d2, d3] => { results := [.lit (.bool true)], args := [d1, d2, d3] }
  | _ => none }
def bitRulesRow : OpenClaim := { program := "ytpgalllceejpnaa", sum := "28d388b3f705ba833b172fd0b37da88693a68fe1e577b1734a3b7f5c8b680cf9", func := "palaver/palaverlaw11.BitRules", spec := "bitRules", unfollowed := true, recurses := true, apart := false }
def BitRulesSaid : Prop := bitRulesRow.holds Try.pinned (OpenSpec.ofChange bitRulesSpec)

/-- ITS FALSE NEIGHBOUR: 'it returns false'. Refute it at one input. -/
def bitRulesWrong : ChangeSpec := { name := "bitRules", fn := fun _ => fun
  | [d1, d2, d3] => { results := [.lit (.bool false)], args := [d1, d2, d3] }
  | _ => none }
def BitRulesWrongFalsely : Prop := bitRulesRow.holds Try.pinned (OpenSpec.ofChange bitRulesWrong)

/-- 'palaverlaw11.BitMoves': WHATEVER THE INPUT: true; the input reads as it did. -/
def bitMovesSpec : ChangeSpec := { name := "bitMoves", fn := fun _ => fun
  | [d1, d2] => { results := [.lit (.bool true)], args := [d1, d2] }
  | _ => none }
def bitMovesRow : OpenClaim := { program := "ytpgalllceejpnaa", sum := "28d388b3f705ba833b172fd0b37da88693a68fe1e577b1734a3b7f5c8b680cf9", func := "palaver/palaverlaw11.BitMoves", spec := "bitMoves", unfollowed := true, recurses := true, apart := false }
def BitMovesSaid : Prop := bitMovesRow.holds Try.pinned (OpenSpec.ofChange bitMovesSpec)

/-- ITS FALSE NEIGHBOUR: 'it returns false'. Refute it at one input. -/
def bitMovesWrong : ChangeSpec := { name := "bitMoves", fn := fun _ => fun
  | [d1, d2] => { results := [.lit (.bool false)], args := [d1, d2] }
  | _ => none }
def BitMovesWrongFalsely : Prop := bitMovesRow.holds Try.pinned (OpenSpec.ofChange bitMovesWrong)

/- THE SECOND FORM. 'bulk': how many values and letters a reading holds, each counted each time it is reached (what is shared counts as often as it is met; a slice's spare places count too). A statement '..UptoSaid' is the law's where the arguments, and the package variables that the reading takes, are together of bulk at most 1048576: NARROWER than '..Said'. Prove '..Said' where nothing that the law and all that it calls make is longer than what came in: it says more and counts as full. Else prove '..UptoSaid'. A law counts once. -/
mutual
def uptoBulk {H : Type} : DataW H → Nat
  | .lit (.string bytes) => bytes.length + 1
  | .lit _ => 1
  | .nil => 1
  | .ptr d => uptoBulk d + 1
  | .slice elems spare => uptoBulkAll elems + uptoBulkAll spare + 1
  | .agg parts => uptoBulkAll parts + 1
  | .iface _ d => uptoBulk d + 1
  | .map entries => uptoBulkEntries entries + 1
  | .held _ => 1
def uptoBulkAll {H : Type} : List (DataW H) → Nat
  | [] => 0
  | d :: r => uptoBulk d + uptoBulkAll r
def uptoBulkEntries {H : Type} : List (Lit × DataW H) → Nat
  | [] => 0
  | x :: r => uptoBulkEntry x + uptoBulkEntries r
def uptoBulkEntry {H : Type} : Lit × DataW H → Nat
  | (.string bytes, d) => bytes.length + uptoBulk d + 1
  | (_, d) => uptoBulk d + 1
 end
def uptoSmall : (H : Type) → List (DataW H) → Bool := fun _ ds => decide (uptoBulkAll ds ≤ 1048576)
def OpenSpec.upto (s : _root_.Go.ChangeSpec) : _root_.Go.OpenSpec := { _root_.Go.OpenSpec.ofChange s with cond := some uptoSmall }

/-- 'palaverlaw11.BitForms', WHERE WHAT IT READS IS OF BULK AT MOST 1048576: true; the input reads as it did. -/
def bitFormsUptoRow : OpenClaim := { program := "ytpgalllceejpnaa", sum := "28d388b3f705ba833b172fd0b37da88693a68fe1e577b1734a3b7f5c8b680cf9", func := "palaver/palaverlaw11.BitForms", spec := "bitForms", unfollowed := true, recurses := true, apart := false, narrowed := true }
def BitFormsUptoSaid : Prop := bitFormsUptoRow.holds Try.pinned (OpenSpec.upto bitFormsSpec)

/-- 'palaverlaw11.BitCopies', WHERE WHAT IT READS IS OF BULK AT MOST 1048576: true; the input reads as it did. -/
def bitCopiesUptoRow : OpenClaim := { program := "ytpgalllceejpnaa", sum := "28d388b3f705ba833b172fd0b37da88693a68fe1e577b1734a3b7f5c8b680cf9", func := "palaver/palaverlaw11.BitCopies", spec := "bitCopies", unfollowed := true, recurses := true, apart := false, narrowed := true }
def BitCopiesUptoSaid : Prop := bitCopiesUptoRow.holds Try.pinned (OpenSpec.upto bitCopiesSpec)

/-- 'palaverlaw11.BitOutside', WHERE WHAT IT READS IS OF BULK AT MOST 1048576: true; the input reads as it did. -/
def bitOutsideUptoRow : OpenClaim := { program := "ytpgalllceejpnaa", sum := "28d388b3f705ba833b172fd0b37da88693a68fe1e577b1734a3b7f5c8b680cf9", func := "palaver/palaverlaw11.BitOutside", spec := "bitOutside", unfollowed := true, recurses := true, apart := false, narrowed := true }
def BitOutsideUptoSaid : Prop := bitOutsideUptoRow.holds Try.pinned (OpenSpec.upto bitOutsideSpec)

/-- 'palaverlaw11.BitRules', WHERE WHAT IT READS IS OF BULK AT MOST 1048576: true; the input reads as it did. -/
def bitRulesUptoRow : OpenClaim := { program := "ytpgalllceejpnaa", sum := "28d388b3f705ba833b172fd0b37da88693a68fe1e577b1734a3b7f5c8b680cf9", func := "palaver/palaverlaw11.BitRules", spec := "bitRules", unfollowed := true, recurses := true, apart := false, narrowed := true }
def BitRulesUptoSaid : Prop := bitRulesUptoRow.holds Try.pinned (OpenSpec.upto bitRulesSpec)

/-- 'palaverlaw11.BitMoves', WHERE WHAT IT READS IS OF BULK AT MOST 1048576: true; the input reads as it did. -/
def bitMovesUptoRow : OpenClaim := { program := "ytpgalllceejpnaa", sum := "28d388b3f705ba833b172fd0b37da88693a68fe1e577b1734a3b7f5c8b680cf9", func := "palaver/palaverlaw11.BitMoves", spec := "bitMoves", unfollowed := true, recurses := true, apart := false, narrowed := true }
def BitMovesUptoSaid : Prop := bitMovesUptoRow.holds Try.pinned (OpenSpec.upto bitMovesSpec)

end Rows
end Go.Proofs.Ytpgalllceejpnaa
