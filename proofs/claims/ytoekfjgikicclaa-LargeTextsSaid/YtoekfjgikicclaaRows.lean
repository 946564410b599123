/-
  No cell of these rows narrows 'for every input' (looked for: loops, veiled, ifaces, maps, wideKeys, modest, calm, conditions, laid).
  DERIVED. THE GIVEN ROWS OF THIS SEAT. 9 by the template 'for every input the law returns true; each argument reads behind the call as it read before'; 0 by the template 'total and deterministic' (their statements: YtoekfjgikicclaaTotals.lean).
  GIVEN WITH THE SEED: the statements are not yours to turn. If you find one false, say at which input.
  Laid BY PROGRAM, IN A SANDBOX (cutbox-rows.mjs): the forced cells as the released guide's own fill.sh prints them over the translation e4045af87a5005a8… (all of the seat's roots in one cut). By AI agents, Wed Nov 11 2026. No macro, syntax, notation, axiom, sorry.
-/
import Derived.Test.YtoekfjgikicclaaChecked
import GoSem.Claim
import GoSem.ClaimJoined
import GoSem.ClaimMapViews
import Derived.JoinedTies
import Derived.KernelRfl
namespace Go.Proofs.Ytoekfjgikicclaa
/- THE CELL 'sum', in the pinned program and in every row, IS THE sha256 OF THE DUMP (.gsa) THAT YtoekfjgikicclaaProg.lean LOADS. Nothing in Lean hashes anything: it is a label: what it is worth is what the hold of that sum in a sandbox is worth. -/
noncomputable def Try.pinned : Pinned := { name := "ytoekfjgikicclaa", sum := "e4045af87a5005a8712e9b6b331c3ac2b07b88cec8531530d8f873a8791ad131", checked := Try.checked }
namespace Rows
def none {H : Type} : Left H := { results := [], args := [] }

/-- 'palaverlaw09.LargeQuotients': WHATEVER THE INPUT: true; the input reads as it did. -/
def largeQuotientsSpec : ChangeSpec := { name := "largeQuotients", fn := fun _ => fun
  | [d1, d2] => { results := [.lit (.bool true)], args := [d1, d2] }
  | _ => none }
def largeQuotientsRow : OpenClaim := { program := "ytoekfjgikicclaa", sum := "e4045af87a5005a8712e9b6b331c3ac2b07b88cec8531530d8f873a8791ad131", func := "palaver/palaverlaw09.LargeQuotients", spec := "largeQuotients", unfollowed := true, recurses := true, named := ["math/bits.overflowError"], apart := false }
def LargeQuotientsSaid : Prop := largeQuotientsRow.holds Try.pinned (OpenSpec.ofChange largeQuotientsSpec)

/-- ITS FALSE NEIGHBOUR: 'it returns false'. Refute it at one input. -/
def largeQuotientsWrong : ChangeSpec := { name := "largeQuotients", fn := fun _ => fun
  | [d1, d2] => { results := [.lit (.bool false)], args := [d1, d2] }
  | _ => none }
def LargeQuotientsWrongFalsely : Prop := largeQuotientsRow.holds Try.pinned (OpenSpec.ofChange largeQuotientsWrong)

/-- 'palaverlaw09.LargeTexts': WHATEVER THE INPUT: true; the input reads as it did. -/
def largeTextsSpec : ChangeSpec := { name := "largeTexts", fn := fun _ => fun
  | [d1, d2, d3] => { results := [.lit (.bool true)], args := [d1, d2, d3] }
  | _ => none }
def largeTextsRow : OpenClaim := { program := "ytoekfjgikicclaa", sum := "e4045af87a5005a8712e9b6b331c3ac2b07b88cec8531530d8f873a8791ad131", func := "palaver/palaverlaw09.LargeTexts", spec := "largeTexts", unfollowed := true, recurses := true, named := ["math/bits.overflowError"], apart := false }
def LargeTextsSaid : Prop := largeTextsRow.holds Try.pinned (OpenSpec.ofChange largeTextsSpec)

/-- ITS FALSE NEIGHBOUR: 'it returns false'. Refute it at one input. -/
def largeTextsWrong : ChangeSpec := { name := "largeTexts", fn := fun _ => fun
  | [d1, d2, d3] => { results := [.lit (.bool false)], args := [d1, d2, d3] }
  | _ => none }
def LargeTextsWrongFalsely : Prop := largeTextsRow.holds Try.pinned (OpenSpec.ofChange largeTextsWrong)

/-- 'palaverlaw09.LargeRead': WHATEVER THE INPUT: true; the input reads as it did. -/
def largeReadSpec : ChangeSpec := { name := "largeRead", fn := fun _ => fun
  | [d1, d2, d3] => { results := [.lit (.bool true)], args := [d1, d2, d3] }
  | _ => none }
def largeReadRow : OpenClaim := { program := "ytoekfjgikicclaa", sum := "e4045af87a5005a8712e9b6b331c3ac2b07b88cec8531530d8f873a8791ad131", func := "palaver/palaverlaw09.LargeRead", spec := "largeRead", unfollowed := true, recurses := true, named := ["math/bits.overflowError"], apart := false }
def LargeReadSaid : Prop := largeReadRow.holds Try.pinned (OpenSpec.ofChange largeReadSpec)

/-- ITS FALSE NEIGHBOUR: 'it returns false'. Refute it at one input. -/
def largeReadWrong : ChangeSpec := { name := "largeRead", fn := fun _ => fun
  | [d1, d2, d3] => { results := [.lit (.bool false)], args := [d1, d2, d3] }
  | _ => none }
def LargeReadWrongFalsely : Prop := largeReadRow.holds Try.pinned (OpenSpec.ofChange largeReadWrong)

/-- 'palaverlaw09.LargeBits': WHATEVER THE INPUT: true; the input reads as it did. -/
def largeBitsSpec : ChangeSpec := { name := "largeBits", fn := fun _ => fun
  | [d1, d2, d3] => { results := [.lit (.bool true)], args := [d1, d2, d3] }
  | _ => none }
def largeBitsRow : OpenClaim := { program := "ytoekfjgikicclaa", sum := "e4045af87a5005a8712e9b6b331c3ac2b07b88cec8531530d8f873a8791ad131", func := "palaver/palaverlaw09.LargeBits", spec := "largeBits", unfollowed := true, recurses := true, named := ["math/bits.overflowError"], apart := false }
def LargeBitsSaid : Prop := largeBitsRow.holds Try.pinned (OpenSpec.ofChange largeBitsSpec)

/-- ITS FALSE NEIGHBOUR: 'it returns false'. Refute it at one input. -/
def largeBitsWrong : ChangeSpec := { name := "largeBits", fn := fun _ => fun
  | [d1, d2, d3] => { results := [.lit (.bool false)], args := [d1, d2, d3] }
  | _ => none }
def LargeBitsWrongFalsely : Prop := largeBitsRow.holds Try.pinned (OpenSpec.ofChange largeBitsWrong)

/-- 'palaverlaw09.LargeLogic': WHATEVER THE INPUT: true; the input reads as it did. -/
def largeLogicSpec : ChangeSpec := { name := "largeLogic", fn := fun _ => fun
  | [d1, d2] => { results := [.lit (.bool true)], args := [d1, d2] }
  | _ => none }
def largeLogicRow : OpenClaim := { program := "ytoekfjgikicclaa", sum := "e4045af87a5005a8712e9b6b331c3ac2b07b88cec8531530d8f873a8791ad131", func := "palaver/palaverlaw09.LargeLogic", spec := "largeLogic", unfollowed := true, recurses := true, named := ["math/bits.overflowError"], apart := false }
def LargeLogicSaid : Prop := largeLogicRow.holds Try.pinned (OpenSpec.ofChange largeLogicSpec)

/-- ITS FALSE NEIGHBOUR: 'it returns false'. Refute it at one input. -/
def largeLogicWrong : ChangeSpec := { name := "largeLogic", fn := fun _ => fun
  | [d1, d2] => { results := [.lit (.bool false)], args := [d1, d2] }
  | _ => none }
def LargeLogicWrongFalsely : Prop := largeLogicRow.holds Try.pinned (OpenSpec.ofChange largeLogicWrong)

/-- 'palaverlaw09.LargeShifts': WHATEVER THE INPUT: true; the input reads as it did. -/
def largeShiftsSpec : ChangeSpec := { name := "largeShifts", fn := fun _ => fun
  | [d1, d2] => { results := [.lit (.bool true)], args := [d1, d2] }
  | _ => none }
def largeShiftsRow : OpenClaim := { program := "ytoekfjgikicclaa", sum := "e4045af87a5005a8712e9b6b331c3ac2b07b88cec8531530d8f873a8791ad131", func := "palaver/palaverlaw09.LargeShifts", spec := "largeShifts", unfollowed := true, recurses := true, named := ["math/bits.overflowError"], apart := false }
def LargeShiftsSaid : Prop := largeShiftsRow.holds Try.pinned (OpenSpec.ofChange largeShiftsSpec)

/-- ITS FALSE NEIGHBOUR: 'it returns false'. Refute it at one input. -/
def largeShiftsWrong : ChangeSpec := { name := "largeShifts", fn := fun _ => fun
  | [d1, d2] => { results := [.lit (.bool false)], args := [d1, d2] }
  | _ => none }
def LargeShiftsWrongFalsely : Prop := largeShiftsRow.holds Try.pinned (OpenSpec.ofChange largeShiftsWrong)

/-- 'palaverlaw09.LargeBack': WHATEVER THE INPUT: true; the input reads as it did. -/
def largeBackSpec : ChangeSpec := { name := "largeBack", fn := fun _ => fun
  | [d1, d2] => { results := [.lit (.bool true)], args := [d1, d2] }
  | _ => none }
def largeBackRow : OpenClaim := { program := "ytoekfjgikicclaa", sum := "e4045af87a5005a8712e9b6b331c3ac2b07b88cec8531530d8f873a8791ad131", func := "palaver/palaverlaw09.LargeBack", spec := "largeBack", unfollowed := true, recurses := true, named := ["math/bits.overflowError"], apart := false }
def LargeBackSaid : Prop := largeBackRow.holds Try.pinned (OpenSpec.ofChange largeBackSpec)

/-- ITS FALSE NEIGHBOUR: 'it returns false'. Refute it at one input. -/
def largeBackWrong : ChangeSpec := { name := "largeBack", fn := fun _ => fun
  | [d1, d2] => { results := [.lit (.bool false)], args := [d1, d2] }
  | _ => none }
def LargeBackWrongFalsely : Prop := largeBackRow.holds Try.pinned (OpenSpec.ofChange largeBackWrong)

/-- 'palaverlaw09.LargeRing': WHATEVER THE INPUT: true; the input reads as it did. -/
def largeRingSpec : ChangeSpec := { name := "largeRing", fn := fun _ => fun
  | [d1, d2, d3] => { results := [.lit (.bool true)], args := [d1, d2, d3] }
  | _ => none }
def largeRingRow : OpenClaim := { program := "ytoekfjgikicclaa", sum := "e4045af87a5005a8712e9b6b331c3ac2b07b88cec8531530d8f873a8791ad131", func := "palaver/palaverlaw09.LargeRing", spec := "largeRing", unfollowed := true, recurses := true, named := ["math/bits.overflowError"], apart := false }
def LargeRingSaid : Prop := largeRingRow.holds Try.pinned (OpenSpec.ofChange largeRingSpec)

/-- ITS FALSE NEIGHBOUR: 'it returns false'. Refute it at one input. -/
def largeRingWrong : ChangeSpec := { name := "largeRing", fn := fun _ => fun
  | [d1, d2, d3] => { results := [.lit (.bool false)], args := [d1, d2, d3] }
  | _ => none }
def LargeRingWrongFalsely : Prop := largeRingRow.holds Try.pinned (OpenSpec.ofChange largeRingWrong)

/-- 'palaverlaw09.LargeSums': WHATEVER THE INPUT: true; the input reads as it did. -/
def largeSumsSpec : ChangeSpec := { name := "largeSums", fn := fun _ => fun
  | [d1, d2, d3] => { results := [.lit (.bool true)], args := [d1, d2, d3] }
  | _ => none }
def largeSumsRow : OpenClaim := { program := "ytoekfjgikicclaa", sum := "e4045af87a5005a8712e9b6b331c3ac2b07b88cec8531530d8f873a8791ad131", func := "palaver/palaverlaw09.LargeSums", spec := "largeSums", unfollowed := true, recurses := true, named := ["math/bits.overflowError"], apart := false }
def LargeSumsSaid : Prop := largeSumsRow.holds Try.pinned (OpenSpec.ofChange largeSumsSpec)

/-- ITS FALSE NEIGHBOUR: 'it returns false'. Refute it at one input. -/
def largeSumsWrong : ChangeSpec := { name := "largeSums", fn := fun _ => fun
  | [d1, d2, d3] => { results := [.lit (.bool false)], args := [d1, d2, d3] }
  | _ => none }
def LargeSumsWrongFalsely : Prop := largeSumsRow.holds Try.pinned (OpenSpec.ofChange largeSumsWrong)

/- THE SECOND FORM. 'bulk': how many values and letters a reading holds, each counted each time it is reached (what is shared counts as often as it is met; a slice's spare places count too). A statement '..UptoSaid' is the law's where the arguments, and the package variables that the reading takes, are together of bulk at most 1048576: NARROWER than '..Said'. Prove '..Said' where nothing that the law and all that it calls make is longer than what came in: it says more and counts as full. Else prove '..UptoSaid'. A law counts once. -/
mutual
def uptoBulk {H : Type} : DataW H → Nat
  | .lit (.string bytes) => bytes.length + 1
  | .lit _ => 1
  | .nil => 1
  | .ptr d => uptoBulk d + 1
  | .slice elems spare => uptoBulkAll elems + uptoBulkAll spare + 1
  | .agg parts => uptoBulkAll parts + 1
  | .iface _ d => uptoBulk d + 1
  | .map entries => uptoBulkEntries entries + 1
  | .held _ => 1
def uptoBulkAll {H : Type} : List (DataW H) → Nat
  | [] => 0
  | d :: r => uptoBulk d + uptoBulkAll r
def uptoBulkEntries {H : Type} : List (Lit × DataW H) → Nat
  | [] => 0
  | x :: r => uptoBulkEntry x + uptoBulkEntries r
def uptoBulkEntry {H : Type} : Lit × DataW H → Nat
  | (.string bytes, d) => bytes.length + uptoBulk d + 1
  | (_, d) => uptoBulk d + 1
 end
def uptoSmall : (H : Type) → List (DataW H) → Bool := fun _ ds => decide (uptoBulkAll ds ≤ 1048576)
def OpenSpec.upto (s : _root_.Go.ChangeSpec) : _root_.Go.OpenSpec := { _root_.Go.OpenSpec.ofChange s with cond := some uptoSmall }

/-- 'palaverlaw09.LargeQuotients', WHERE WHAT IT READS IS OF BULK AT MOST 1048576: true; the input reads as it did. -/
def largeQuotientsUptoRow : OpenClaim := { program := "ytoekfjgikicclaa", sum := "e4045af87a5005a8712e9b6b331c3ac2b07b88cec8531530d8f873a8791ad131", func := "palaver/palaverlaw09.LargeQuotients", spec := "largeQuotients", unfollowed := true, recurses := true, named := ["math/bits.overflowError"], apart := false, narrowed := true }
def LargeQuotientsUptoSaid : Prop := largeQuotientsUptoRow.holds Try.pinned (OpenSpec.upto largeQuotientsSpec)

/-- 'palaverlaw09.LargeTexts', WHERE WHAT IT READS IS OF BULK AT MOST 1048576: true; the input reads as it did. -/
def largeTextsUptoRow : OpenClaim := { program := "ytoekfjgikicclaa", sum := "e4045af87a5005a8712e9b6b331c3ac2b07b88cec8531530d8f873a8791ad131", func := "palaver/palaverlaw09.LargeTexts", spec := "largeTexts", unfollowed := true, recurses := true, named := ["math/bits.overflowError"], apart := false, narrowed := true }
def LargeTextsUptoSaid : Prop := largeTextsUptoRow.holds Try.pinned (OpenSpec.upto largeTextsSpec)

/-- 'palaverlaw09.LargeRead', WHERE WHAT IT READS IS OF BULK AT MOST 1048576: true; the input reads as it did. -/
def largeReadUptoRow : OpenClaim := { program := "ytoekfjgikicclaa", sum := "e4045af87a5005a8712e9b6b331c3ac2b07b88cec8531530d8f873a8791ad131", func := "palaver/palaverlaw09.LargeRead", spec := "largeRead", unfollowed := true, recurses := true, named := ["math/bits.overflowError"], apart := false, narrowed := true }
def LargeReadUptoSaid : Prop := largeReadUptoRow.holds Try.pinned (OpenSpec.upto largeReadSpec)

/-- 'palaverlaw09.LargeBits', WHERE WHAT IT READS IS OF BULK AT MOST 1048576: true; the input reads as it did. -/
def largeBitsUptoRow : OpenClaim := { program := "ytoekfjgikicclaa", sum := "e4045af87a5005a8712e9b6b331c3ac2b07b88cec8531530d8f873a8791ad131", func := "palaver/palaverlaw09.LargeBits", spec := "largeBits", unfollowed := true, recurses := true, named := ["math/bits.overflowError"], apart := false, narrowed := true }
def LargeBitsUptoSaid : Prop := largeBitsUptoRow.holds Try.pinned (OpenSpec.upto largeBitsSpec)

/-- 'palaverlaw09.LargeLogic', WHERE WHAT IT READS IS OF BULK AT MOST 1048576: true; the input reads as it did. -/
def largeLogicUptoRow : OpenClaim := { program := "ytoekfjgikicclaa", sum := "e4045af87a5005a8712e9b6b331c3ac2b07b88cec8531530d8f873a8791ad131", func := "palaver/palaverlaw09.LargeLogic", spec := "largeLogic", unfollowed := true, recurses := true, named := ["math/bits.overflowError"], apart := false, narrowed := true }
def LargeLogicUptoSaid : Prop := largeLogicUptoRow.holds Try.pinned (OpenSpec.upto largeLogicSpec)

/-- 'palaverlaw09.LargeShifts', WHERE WHAT IT READS IS OF BULK AT MOST 1048576: true; the input reads as it did. -/
def largeShiftsUptoRow : OpenClaim := { program := "ytoekfjgikicclaa", sum := "e4045af87a5005a8712e9b6b331c3ac2b07b88cec8531530d8f873a8791ad131", func := "palaver/palaverlaw09.LargeShifts", spec := "largeShifts", unfollowed := true, recurses := true, named := ["math/bits.overflowError"], apart := false, narrowed := true }
def LargeShiftsUptoSaid : Prop := largeShiftsUptoRow.holds Try.pinned (OpenSpec.upto largeShiftsSpec)

/-- 'palaverlaw09.LargeBack', WHERE WHAT IT READS IS OF BULK AT MOST 1048576: true; the input reads as it did. -/
def largeBackUptoRow : OpenClaim := { program := "ytoekfjgikicclaa", sum := "e4045af87a5005a8712e9b6b331c3ac2b07b88cec8531530d8f873a8791ad131", func := "palaver/palaverlaw09.LargeBack", spec := "largeBack", unfollowed := true, recurses := true, named := ["math/bits.overflowError"], apart := false, narrowed := true }
def LargeBackUptoSaid : Prop := largeBackUptoRow.holds Try.pinned (OpenSpec.upto largeBackSpec)

/-- 'palaverlaw09.LargeRing', WHERE WHAT IT READS IS OF BULK AT MOST 1048576: true; the input reads as it did. -/
def largeRingUptoRow : OpenClaim := { program := "ytoekfjgikicclaa", sum := "e4045af87a5005a8712e9b6b331c3ac2b07b88cec8531530d8f873a8791ad131", func := "palaver/palaverlaw09.LargeRing", spec := "largeRing", unfollowed := true, recurses := true, named := ["math/bits.overflowError"], apart := false, narrowed := true }
def LargeRingUptoSaid : Prop := largeRingUptoRow.holds Try.pinned (OpenSpec.upto largeRingSpec)

/-- 'palaverlaw09.LargeSums', WHERE WHAT IT READS IS OF BULK AT MOST 1048576: true; the input reads as it did. -/
def largeSumsUptoRow : OpenClaim := { program := "ytoekfjgikicclaa", sum := "e4045af87a5005a8712e9b6b331c3ac2b07b88cec8531530d8f873a8791ad131", func := "palaver/palaverlaw09.LargeSums", spec := "largeSums", unfollowed := true, recurses := true, named := ["math/bits.overflowError"], apart := false, narrowed := true }
def LargeSumsUptoSaid : Prop := largeSumsUptoRow.holds Try.pinned (OpenSpec.upto largeSumsSpec)

end Rows
end Go.Proofs.Ytoekfjgikicclaa
