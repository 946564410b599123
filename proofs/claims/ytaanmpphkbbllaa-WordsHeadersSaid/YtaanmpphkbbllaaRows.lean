/-
  No cell of these rows narrows 'for every input' (looked for: loops, veiled, ifaces, maps, wideKeys, modest, calm, conditions, laid).
  DERIVED. THE GIVEN ROWS OF THIS SEAT. 5 by the template 'for every input the law returns true; each argument reads behind the call as it read before'; 0 by the template 'total and deterministic' (their statements: YtaanmpphkbbllaaTotals.lean).
  GIVEN WITH THE SEED: the statements are not yours to turn. If you find one false, say at which input.
  Laid BY PROGRAM, IN A SANDBOX (cutbox-rows.mjs): the forced cells as the released guide's own fill.sh prints them over the translation 8df3ee4546e0919a… (all of the seat's roots in one cut). By AI agents, Wed Nov 11 2026. No macro, syntax, notation, axiom, sorry.
-/
import Derived.Test.YtaanmpphkbbllaaChecked
import GoSem.Claim
import GoSem.ClaimJoined
import GoSem.ClaimMapViews
import Derived.JoinedTies
import Derived.KernelRfl
namespace Go.Proofs.Ytaanmpphkbbllaa
/- THE CELL 'sum', in the pinned program and in every row, IS THE sha256 OF THE DUMP (.gsa) THAT YtaanmpphkbbllaaProg.lean LOADS. Nothing in Lean hashes anything: it is a label: what it is worth is what the hold of that sum in a sandbox is worth. -/
noncomputable def Try.pinned : Pinned := { name := "ytaanmpphkbbllaa", sum := "8df3ee4546e0919ae40a0e730c037169af5cb51fcd65717d236434bf37ee1a03", checked := Try.checked }
namespace Rows
def none {H : Type} : Left H := { results := [], args := [] }

/-- 'palaverlaw01.WordsHeaders': WHATEVER THE INPUT: true; the input reads as it did. -/
def wordsHeadersSpec : ChangeSpec := { name := "wordsHeaders", fn := fun _ => fun
  | [d1, d2, d3] => { results := [.lit (.bool true)], args := [d1, d2, d3] }
  | _ => none }
def wordsHeadersRow : OpenClaim := { program := "ytaanmpphkbbllaa", sum := "8df3ee4546e0919ae40a0e730c037169af5cb51fcd65717d236434bf37ee1a03", func := "palaver/palaverlaw01.WordsHeaders", spec := "wordsHeaders", apart := false }
def WordsHeadersSaid : Prop := wordsHeadersRow.holds Try.pinned (OpenSpec.ofChange wordsHeadersSpec)

/-- ITS FALSE NEIGHBOUR: 'it returns false'. Refute it at one input. -/
def wordsHeadersWrong : ChangeSpec := { name := "wordsHeaders", fn := fun _ => fun
  | [d1, d2, d3] => { results := [.lit (.bool false)], args := [d1, d2, d3] }
  | _ => none }
def WordsHeadersWrongFalsely : Prop := wordsHeadersRow.holds Try.pinned (OpenSpec.ofChange wordsHeadersWrong)

/-- 'palaverlaw01.WordsRound': WHATEVER THE INPUT: true; the input reads as it did. -/
def wordsRoundSpec : ChangeSpec := { name := "wordsRound", fn := fun _ => fun
  | [d1, d2, d3] => { results := [.lit (.bool true)], args := [d1, d2, d3] }
  | _ => none }
def wordsRoundRow : OpenClaim := { program := "ytaanmpphkbbllaa", sum := "8df3ee4546e0919ae40a0e730c037169af5cb51fcd65717d236434bf37ee1a03", func := "palaver/palaverlaw01.WordsRound", spec := "wordsRound", apart := false }
def WordsRoundSaid : Prop := wordsRoundRow.holds Try.pinned (OpenSpec.ofChange wordsRoundSpec)

/-- ITS FALSE NEIGHBOUR: 'it returns false'. Refute it at one input. -/
def wordsRoundWrong : ChangeSpec := { name := "wordsRound", fn := fun _ => fun
  | [d1, d2, d3] => { results := [.lit (.bool false)], args := [d1, d2, d3] }
  | _ => none }
def WordsRoundWrongFalsely : Prop := wordsRoundRow.holds Try.pinned (OpenSpec.ofChange wordsRoundWrong)

/-- 'palaverlaw01.WordsOrder': WHATEVER THE INPUT: true; the input reads as it did. -/
def wordsOrderSpec : ChangeSpec := { name := "wordsOrder", fn := fun _ => fun
  | [d1, d2] => { results := [.lit (.bool true)], args := [d1, d2] }
  | _ => none }
def wordsOrderRow : OpenClaim := { program := "ytaanmpphkbbllaa", sum := "8df3ee4546e0919ae40a0e730c037169af5cb51fcd65717d236434bf37ee1a03", func := "palaver/palaverlaw01.WordsOrder", spec := "wordsOrder", apart := false }
def WordsOrderSaid : Prop := wordsOrderRow.holds Try.pinned (OpenSpec.ofChange wordsOrderSpec)

/-- ITS FALSE NEIGHBOUR: 'it returns false'. Refute it at one input. -/
def wordsOrderWrong : ChangeSpec := { name := "wordsOrder", fn := fun _ => fun
  | [d1, d2] => { results := [.lit (.bool false)], args := [d1, d2] }
  | _ => none }
def WordsOrderWrongFalsely : Prop := wordsOrderRow.holds Try.pinned (OpenSpec.ofChange wordsOrderWrong)

/-- 'palaverlaw01.WordsOops': WHATEVER THE INPUT: true; the input reads as it did. -/
def wordsOopsSpec : ChangeSpec := { name := "wordsOops", fn := fun _ => fun
  | [d1, d2, d3, d4] => { results := [.lit (.bool true)], args := [d1, d2, d3, d4] }
  | _ => none }
def wordsOopsRow : OpenClaim := { program := "ytaanmpphkbbllaa", sum := "8df3ee4546e0919ae40a0e730c037169af5cb51fcd65717d236434bf37ee1a03", func := "palaver/palaverlaw01.WordsOops", spec := "wordsOops", apart := false }
def WordsOopsSaid : Prop := wordsOopsRow.holds Try.pinned (OpenSpec.ofChange wordsOopsSpec)

/-- ITS FALSE NEIGHBOUR: 'it returns false'. Refute it at one input. -/
def wordsOopsWrong : ChangeSpec := { name := "wordsOops", fn := fun _ => fun
  | [d1, d2, d3, d4] => { results := [.lit (.bool false)], args := [d1, d2, d3, d4] }
  | _ => none }
def WordsOopsWrongFalsely : Prop := wordsOopsRow.holds Try.pinned (OpenSpec.ofChange wordsOopsWrong)

/-- 'palaverlaw01.WordsBack': WHATEVER THE INPUT: true; the input reads as it did. -/
def wordsBackSpec : ChangeSpec := { name := "wordsBack", fn := fun _ => fun
  | [d1, d2, d3, d4] => { results := [.lit (.bool true)], args := [d1, d2, d3, d4] }
  | _ => none }
def wordsBackRow : OpenClaim := { program := "ytaanmpphkbbllaa", sum := "8df3ee4546e0919ae40a0e730c037169af5cb51fcd65717d236434bf37ee1a03", func := "palaver/palaverlaw01.WordsBack", spec := "wordsBack", apart := false }
def WordsBackSaid : Prop := wordsBackRow.holds Try.pinned (OpenSpec.ofChange wordsBackSpec)

/-- ITS FALSE NEIGHBOUR: 'it returns false'. Refute it at one input. -/
def wordsBackWrong : ChangeSpec := { name := "wordsBack", fn := fun _ => fun
  | [d1, d2, d3, d4] => { results := [.lit (.bool false)], args := [d1, d2, d3, d4] }
  | _ => none }
def WordsBackWrongFalsely : Prop := wordsBackRow.holds Try.pinned (OpenSpec.ofChange wordsBackWrong)

/- THE SECOND FORM. 'bulk': how many values and letters a reading holds, each counted each time it is reached (what is shared counts as often as it is met; a slice's spare places count too). A statement '..UptoSaid' is the law's where the arguments, and the package variables that the reading takes, are together of bulk at most 1048576: NARROWER than '..Said'. Prove '..Said' where nothing that the law and all that it calls make is longer than what came in: it says more and counts as full. Else prove '..UptoSaid'. A law counts once. -/
mutual
def uptoBulk {H : Type} : DataW H → Nat
  | .lit (.string bytes) => bytes.length + 1
  | .lit _ => 1
  | .nil => 1
  | .ptr d => uptoBulk d + 1
  | .slice elems spare => uptoBulkAll elems + uptoBulkAll spare + 1
  | .agg parts => uptoBulkAll parts + 1
  | .iface _ d => uptoBulk d + 1
  | .map entries => uptoBulkEntries entries + 1
  | .held _ => 1
def uptoBulkAll {H : Type} : List (DataW H) → Nat
  | [] => 0
  | d :: r => uptoBulk d + uptoBulkAll r
def uptoBulkEntries {H : Type} : List (Lit × DataW H) → Nat
  | [] => 0
  | x :: r => uptoBulkEntry x + uptoBulkEntries r
def uptoBulkEntry {H : Type} : Lit × DataW H → Nat
  | (.string bytes, d) => bytes.length + uptoBulk d + 1
  | (_, d) => uptoBulk d + 1
 end
def uptoSmall : (H : Type) → List (DataW H) → Bool := fun _ ds => decide (uptoBulkAll ds ≤ 1048576)
def OpenSpec.upto (s : _root_.Go.ChangeSpec) : _root_.Go.OpenSpec := { _root_.Go.OpenSpec.ofChange s with cond := some uptoSmall }

/-- 'palaverlaw01.WordsHeaders', WHERE WHAT IT READS IS OF BULK AT MOST 1048576: true; the input reads as it did. -/
def wordsHeadersUptoRow : OpenClaim := { program := "ytaanmpphkbbllaa", sum := "8df3ee4546e0919ae40a0e730c037169af5cb51fcd65717d236434bf37ee1a03", func := "palaver/palaverlaw01.WordsHeaders", spec := "wordsHeaders", apart := false, narrowed := true }
def WordsHeadersUptoSaid : Prop := wordsHeadersUptoRow.holds Try.pinned (OpenSpec.upto wordsHeadersSpec)

/-- 'palaverlaw01.WordsRound', WHERE WHAT IT READS IS OF BULK AT MOST 1048576: true; the input reads as it did. -/
def wordsRoundUptoRow : OpenClaim := { program := "ytaanmpphkbbllaa", sum := "8df3ee4546e0919ae40a0e730c037169af5cb51fcd65717d236434bf37ee1a03", func := "palaver/palaverlaw01.WordsRound", spec := "wordsRound", apart := false, narrowed := true }
def WordsRoundUptoSaid : Prop := wordsRoundUptoRow.holds Try.pinned (OpenSpec.upto wordsRoundSpec)

/-- 'palaverlaw01.WordsOrder', WHERE WHAT IT READS IS OF BULK AT MOST 1048576: true; the input reads as it did. -/
def wordsOrderUptoRow : OpenClaim := { program := "ytaanmpphkbbllaa", sum := "8df3ee4546e0919ae40a0e730c037169af5cb51fcd65717d236434bf37ee1a03", func := "palaver/palaverlaw01.WordsOrder", spec := "wordsOrder", apart := false, narrowed := true }
def WordsOrderUptoSaid : Prop := wordsOrderUptoRow.holds Try.pinned (OpenSpec.upto wordsOrderSpec)

/-- 'palaverlaw01.WordsOops', WHERE WHAT IT READS IS OF BULK AT MOST 1048576: true; the input reads as it did. -/
def wordsOopsUptoRow : OpenClaim := { program := "ytaanmpphkbbllaa", sum := "8df3ee4546e0919ae40a0e730c037169af5cb51fcd65717d236434bf37ee1a03", func := "palaver/palaverlaw01.WordsOops", spec := "wordsOops", apart := false, narrowed := true }
def WordsOopsUptoSaid : Prop := wordsOopsUptoRow.holds Try.pinned (OpenSpec.upto wordsOopsSpec)

/-- 'palaverlaw01.WordsBack', WHERE WHAT IT READS IS OF BULK AT MOST 1048576: true; the input reads as it did. -/
def wordsBackUptoRow : OpenClaim := { program := "ytaanmpphkbbllaa", sum := "8df3ee4546e0919ae40a0e730c037169af5cb51fcd65717d236434bf37ee1a03", func := "palaver/palaverlaw01.WordsBack", spec := "wordsBack", apart := false, narrowed := true }
def WordsBackUptoSaid : Prop := wordsBackUptoRow.holds Try.pinned (OpenSpec.upto wordsBackSpec)

end Rows
end Go.Proofs.Ytaanmpphkbbllaa
