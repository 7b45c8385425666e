/-
  No cell of these rows narrows 'for every input' (looked for: loops, veiled, ifaces, maps, wideKeys, modest, calm, conditions, laid).
  DERIVED. THE GIVEN ROWS OF THIS SEAT. 12 by the template 'for every input the law returns true; each argument reads behind the call as it read before'; 0 by the template 'total and deterministic' (their statements: YtgihnmaaiibmeaaTotals.lean).
  GIVEN WITH THE SEED: the statements are not yours to turn. If you find one false, say at which input.
  Laid BY PROGRAM, IN A SANDBOX (cutbox-rows.mjs): the forced cells as the released guide's own fill.sh prints them over the translation da646dd777858cfc… (all of the seat's roots in one cut). By AI agents, Wed Nov 11 2026. No macro, syntax, notation, axiom, sorry.
-/
import Derived.Test.YtgihnmaaiibmeaaChecked
import GoSem.Claim
import GoSem.ClaimJoined
import GoSem.ClaimMapViews
import Derived.JoinedTies
import Derived.KernelRfl
namespace Go.Proofs.Ytgihnmaaiibmeaa
/- THE CELL 'sum', in the pinned program and in every row, IS THE sha256 OF THE DUMP (.gsa) THAT YtgihnmaaiibmeaaProg.lean LOADS. Nothing in Lean hashes anything: it is a label: what it is worth is what the hold of that sum in a sandbox is worth. -/
noncomputable def Try.pinned : Pinned := { name := "ytgihnmaaiibmeaa", sum := "da646dd777858cfcaa1f6bda7cbb6f5e4684bd5b75df4570105779cfb130e28d", checked := Try.checked }
namespace Rows
def none {H : Type} : Left H := { results := [], args := [] }

/-- 'laws.FnReadsFromWrites': WHATEVER THE INPUT: true; the input reads as it did. -/
def fnReadsFromWritesSpec : ChangeSpec := { name := "fnReadsFromWrites", fn := fun _ => fun
  | [d] => { results := [.lit (.bool true)], args := [d] }
  | _ => none }
def fnReadsFromWritesRow : OpenClaim := { program := "ytgihnmaaiibmeaa", sum := "da646dd777858cfcaa1f6bda7cbb6f5e4684bd5b75df4570105779cfb130e28d", func := "loop.example/treelocks/laws.FnReadsFromWrites", spec := "fnReadsFromWrites", apart := false }
def FnReadsFromWritesSaid : Prop := fnReadsFromWritesRow.holds Try.pinned (OpenSpec.ofChange fnReadsFromWritesSpec)

/-- ITS FALSE NEIGHBOUR: 'it returns false'. Refute it at one input. -/
def fnReadsFromWritesWrong : ChangeSpec := { name := "fnReadsFromWrites", fn := fun _ => fun
  | [d] => { results := [.lit (.bool false)], args := [d] }
  | _ => none }
def FnReadsFromWritesWrongFalsely : Prop := fnReadsFromWritesRow.holds Try.pinned (OpenSpec.ofChange fnReadsFromWritesWrong)

/-- 'laws.FnReadsFrom': WHATEVER THE INPUT: true; the input reads as it did. -/
def fnReadsFromSpec : ChangeSpec := { name := "fnReadsFrom", fn := fun _ => fun
  | [d] => { results := [.lit (.bool true)], args := [d] }
  | _ => none }
def fnReadsFromRow : OpenClaim := { program := "ytgihnmaaiibmeaa", sum := "da646dd777858cfcaa1f6bda7cbb6f5e4684bd5b75df4570105779cfb130e28d", func := "loop.example/treelocks/laws.FnReadsFrom", spec := "fnReadsFrom", apart := false }
def FnReadsFromSaid : Prop := fnReadsFromRow.holds Try.pinned (OpenSpec.ofChange fnReadsFromSpec)

/-- ITS FALSE NEIGHBOUR: 'it returns false'. Refute it at one input. -/
def fnReadsFromWrong : ChangeSpec := { name := "fnReadsFrom", fn := fun _ => fun
  | [d] => { results := [.lit (.bool false)], args := [d] }
  | _ => none }
def FnReadsFromWrongFalsely : Prop := fnReadsFromRow.holds Try.pinned (OpenSpec.ofChange fnReadsFromWrong)

/-- 'laws.FnReadsFromShort': WHATEVER THE INPUT: true; the input reads as it did. -/
def fnReadsFromShortSpec : ChangeSpec := { name := "fnReadsFromShort", fn := fun _ => fun
  | [d] => { results := [.lit (.bool true)], args := [d] }
  | _ => none }
def fnReadsFromShortRow : OpenClaim := { program := "ytgihnmaaiibmeaa", sum := "da646dd777858cfcaa1f6bda7cbb6f5e4684bd5b75df4570105779cfb130e28d", func := "loop.example/treelocks/laws.FnReadsFromShort", spec := "fnReadsFromShort", apart := false }
def FnReadsFromShortSaid : Prop := fnReadsFromShortRow.holds Try.pinned (OpenSpec.ofChange fnReadsFromShortSpec)

/-- ITS FALSE NEIGHBOUR: 'it returns false'. Refute it at one input. -/
def fnReadsFromShortWrong : ChangeSpec := { name := "fnReadsFromShort", fn := fun _ => fun
  | [d] => { results := [.lit (.bool false)], args := [d] }
  | _ => none }
def FnReadsFromShortWrongFalsely : Prop := fnReadsFromShortRow.holds Try.pinned (OpenSpec.ofChange fnReadsFromShortWrong)

/-- 'laws.FnMayCommit': WHATEVER THE INPUT: true; the input reads as it did. -/
def fnMayCommitSpec : ChangeSpec := { name := "fnMayCommit", fn := fun _ => fun
  | [d] => { results := [.lit (.bool true)], args := [d] }
  | _ => none }
def fnMayCommitRow : OpenClaim := { program := "ytgihnmaaiibmeaa", sum := "da646dd777858cfcaa1f6bda7cbb6f5e4684bd5b75df4570105779cfb130e28d", func := "loop.example/treelocks/laws.FnMayCommit", spec := "fnMayCommit", apart := false }
def FnMayCommitSaid : Prop := fnMayCommitRow.holds Try.pinned (OpenSpec.ofChange fnMayCommitSpec)

/-- ITS FALSE NEIGHBOUR: 'it returns false'. Refute it at one input. -/
def fnMayCommitWrong : ChangeSpec := { name := "fnMayCommit", fn := fun _ => fun
  | [d] => { results := [.lit (.bool false)], args := [d] }
  | _ => none }
def FnMayCommitWrongFalsely : Prop := fnMayCommitRow.holds Try.pinned (OpenSpec.ofChange fnMayCommitWrong)

/-- 'laws.FnMayCommitMore': WHATEVER THE INPUT: true; the input reads as it did. -/
def fnMayCommitMoreSpec : ChangeSpec := { name := "fnMayCommitMore", fn := fun _ => fun
  | [d] => { results := [.lit (.bool true)], args := [d] }
  | _ => none }
def fnMayCommitMoreRow : OpenClaim := { program := "ytgihnmaaiibmeaa", sum := "da646dd777858cfcaa1f6bda7cbb6f5e4684bd5b75df4570105779cfb130e28d", func := "loop.example/treelocks/laws.FnMayCommitMore", spec := "fnMayCommitMore", apart := false }
def FnMayCommitMoreSaid : Prop := fnMayCommitMoreRow.holds Try.pinned (OpenSpec.ofChange fnMayCommitMoreSpec)

/-- ITS FALSE NEIGHBOUR: 'it returns false'. Refute it at one input. -/
def fnMayCommitMoreWrong : ChangeSpec := { name := "fnMayCommitMore", fn := fun _ => fun
  | [d] => { results := [.lit (.bool false)], args := [d] }
  | _ => none }
def FnMayCommitMoreWrongFalsely : Prop := fnMayCommitMoreRow.holds Try.pinned (OpenSpec.ofChange fnMayCommitMoreWrong)

/-- 'laws.FnExactReadsFrom': WHATEVER THE INPUT: true; the input reads as it did. -/
def fnExactReadsFromSpec : ChangeSpec := { name := "fnExactReadsFrom", fn := fun _ => fun
  | [d1, d2] => { results := [.lit (.bool true)], args := [d1, d2] }
  | _ => none }
def fnExactReadsFromRow : OpenClaim := { program := "ytgihnmaaiibmeaa", sum := "da646dd777858cfcaa1f6bda7cbb6f5e4684bd5b75df4570105779cfb130e28d", func := "loop.example/treelocks/laws.FnExactReadsFrom", spec := "fnExactReadsFrom", apart := false }
def FnExactReadsFromSaid : Prop := fnExactReadsFromRow.holds Try.pinned (OpenSpec.ofChange fnExactReadsFromSpec)

/-- ITS FALSE NEIGHBOUR: 'it returns false'. Refute it at one input. -/
def fnExactReadsFromWrong : ChangeSpec := { name := "fnExactReadsFrom", fn := fun _ => fun
  | [d1, d2] => { results := [.lit (.bool false)], args := [d1, d2] }
  | _ => none }
def FnExactReadsFromWrongFalsely : Prop := fnExactReadsFromRow.holds Try.pinned (OpenSpec.ofChange fnExactReadsFromWrong)

/-- 'laws.FnAbortSetMore': WHATEVER THE INPUT: true; the input reads as it did. -/
def fnAbortSetMoreSpec : ChangeSpec := { name := "fnAbortSetMore", fn := fun _ => fun
  | [d] => { results := [.lit (.bool true)], args := [d] }
  | _ => none }
def fnAbortSetMoreRow : OpenClaim := { program := "ytgihnmaaiibmeaa", sum := "da646dd777858cfcaa1f6bda7cbb6f5e4684bd5b75df4570105779cfb130e28d", func := "loop.example/treelocks/laws.FnAbortSetMore", spec := "fnAbortSetMore", apart := false }
def FnAbortSetMoreSaid : Prop := fnAbortSetMoreRow.holds Try.pinned (OpenSpec.ofChange fnAbortSetMoreSpec)

/-- ITS FALSE NEIGHBOUR: 'it returns false'. Refute it at one input. -/
def fnAbortSetMoreWrong : ChangeSpec := { name := "fnAbortSetMore", fn := fun _ => fun
  | [d] => { results := [.lit (.bool false)], args := [d] }
  | _ => none }
def FnAbortSetMoreWrongFalsely : Prop := fnAbortSetMoreRow.holds Try.pinned (OpenSpec.ofChange fnAbortSetMoreWrong)

/-- 'laws.FnExactMayCommit': WHATEVER THE INPUT: true; the input reads as it did. -/
def fnExactMayCommitSpec : ChangeSpec := { name := "fnExactMayCommit", fn := fun _ => fun
  | [d1, d2, d3] => { results := [.lit (.bool true)], args := [d1, d2, d3] }
  | _ => none }
def fnExactMayCommitRow : OpenClaim := { program := "ytgihnmaaiibmeaa", sum := "da646dd777858cfcaa1f6bda7cbb6f5e4684bd5b75df4570105779cfb130e28d", func := "loop.example/treelocks/laws.FnExactMayCommit", spec := "fnExactMayCommit", apart := false }
def FnExactMayCommitSaid : Prop := fnExactMayCommitRow.holds Try.pinned (OpenSpec.ofChange fnExactMayCommitSpec)

/-- ITS FALSE NEIGHBOUR: 'it returns false'. Refute it at one input. -/
def fnExactMayCommitWrong : ChangeSpec := { name := "fnExactMayCommit", fn := fun _ => fun
  | [d1, d2, d3] => { results := [.lit (.bool false)], args := [d1, d2, d3] }
  | _ => none }
def FnExactMayCommitWrongFalsely : Prop := fnExactMayCommitRow.holds Try.pinned (OpenSpec.ofChange fnExactMayCommitWrong)

/-- 'laws.FnAbortSet': WHATEVER THE INPUT: true; the input reads as it did. -/
def fnAbortSetSpec : ChangeSpec := { name := "fnAbortSet", fn := fun _ => fun
  | [d] => { results := [.lit (.bool true)], args := [d] }
  | _ => none }
def fnAbortSetRow : OpenClaim := { program := "ytgihnmaaiibmeaa", sum := "da646dd777858cfcaa1f6bda7cbb6f5e4684bd5b75df4570105779cfb130e28d", func := "loop.example/treelocks/laws.FnAbortSet", spec := "fnAbortSet", apart := false }
def FnAbortSetSaid : Prop := fnAbortSetRow.holds Try.pinned (OpenSpec.ofChange fnAbortSetSpec)

/-- ITS FALSE NEIGHBOUR: 'it returns false'. Refute it at one input. -/
def fnAbortSetWrong : ChangeSpec := { name := "fnAbortSet", fn := fun _ => fun
  | [d] => { results := [.lit (.bool false)], args := [d] }
  | _ => none }
def FnAbortSetWrongFalsely : Prop := fnAbortSetRow.holds Try.pinned (OpenSpec.ofChange fnAbortSetWrong)

/-- 'laws.FnAbortSetNone': WHATEVER THE INPUT: true; the input reads as it did. -/
def fnAbortSetNoneSpec : ChangeSpec := { name := "fnAbortSetNone", fn := fun _ => fun
  | [d] => { results := [.lit (.bool true)], args := [d] }
  | _ => none }
def fnAbortSetNoneRow : OpenClaim := { program := "ytgihnmaaiibmeaa", sum := "da646dd777858cfcaa1f6bda7cbb6f5e4684bd5b75df4570105779cfb130e28d", func := "loop.example/treelocks/laws.FnAbortSetNone", spec := "fnAbortSetNone", apart := false }
def FnAbortSetNoneSaid : Prop := fnAbortSetNoneRow.holds Try.pinned (OpenSpec.ofChange fnAbortSetNoneSpec)

/-- ITS FALSE NEIGHBOUR: 'it returns false'. Refute it at one input. -/
def fnAbortSetNoneWrong : ChangeSpec := { name := "fnAbortSetNone", fn := fun _ => fun
  | [d] => { results := [.lit (.bool false)], args := [d] }
  | _ => none }
def FnAbortSetNoneWrongFalsely : Prop := fnAbortSetNoneRow.holds Try.pinned (OpenSpec.ofChange fnAbortSetNoneWrong)

/-- 'laws.FnMayCommitSet': WHATEVER THE INPUT: true; the input reads as it did. -/
def fnMayCommitSetSpec : ChangeSpec := { name := "fnMayCommitSet", fn := fun _ => fun
  | [d] => { results := [.lit (.bool true)], args := [d] }
  | _ => none }
def fnMayCommitSetRow : OpenClaim := { program := "ytgihnmaaiibmeaa", sum := "da646dd777858cfcaa1f6bda7cbb6f5e4684bd5b75df4570105779cfb130e28d", func := "loop.example/treelocks/laws.FnMayCommitSet", spec := "fnMayCommitSet", apart := false }
def FnMayCommitSetSaid : Prop := fnMayCommitSetRow.holds Try.pinned (OpenSpec.ofChange fnMayCommitSetSpec)

/-- ITS FALSE NEIGHBOUR: 'it returns false'. Refute it at one input. -/
def fnMayCommitSetWrong : ChangeSpec := { name := "fnMayCommitSet", fn := fun _ => fun
  | [d] => { results := [.lit (.bool false)], args := [d] }
  | _ => none }
def FnMayCommitSetWrongFalsely : Prop := fnMayCommitSetRow.holds Try.pinned (OpenSpec.ofChange fnMayCommitSetWrong)

/-- 'laws.FnExactAbortSet': WHATEVER THE INPUT: true; the input reads as it did. -/
def fnExactAbortSetSpec : ChangeSpec := { name := "fnExactAbortSet", fn := fun _ => fun
  | [d1, d2] => { results := [.lit (.bool true)], args := [d1, d2] }
  | _ => none }
def fnExactAbortSetRow : OpenClaim := { program := "ytgihnmaaiibmeaa", sum := "da646dd777858cfcaa1f6bda7cbb6f5e4684bd5b75df4570105779cfb130e28d", func := "loop.example/treelocks/laws.FnExactAbortSet", spec := "fnExactAbortSet", apart := false }
def FnExactAbortSetSaid : Prop := fnExactAbortSetRow.holds Try.pinned (OpenSpec.ofChange fnExactAbortSetSpec)

/-- ITS FALSE NEIGHBOUR: 'it returns false'. Refute it at one input. -/
def fnExactAbortSetWrong : ChangeSpec := { name := "fnExactAbortSet", fn := fun _ => fun
  | [d1, d2] => { results := [.lit (.bool false)], args := [d1, d2] }
  | _ => none }
def FnExactAbortSetWrongFalsely : Prop := fnExactAbortSetRow.holds Try.pinned (OpenSpec.ofChange fnExactAbortSetWrong)

/- THE SECOND FORM. 'bulk': how many values and letters a reading holds, each counted each time it is reached (what is shared counts as often as it is met; a slice's spare places count too). A statement '..UptoSaid' is the law's where the arguments, and the package variables that the reading takes, are together of bulk at most 1048576: NARROWER than '..Said'. Prove '..Said' where nothing that the law and all that it calls make is longer than what came in: it says more and counts as full. Else prove '..UptoSaid'. A law counts once. -/
mutual
def uptoBulk {H : Type} : DataW H → Nat
  | .lit (.string bytes) => bytes.length + 1
  | .lit _ => 1
  | .nil => 1
  | .ptr d => uptoBulk d + 1
  | .slice elems spare => uptoBulkAll elems + uptoBulkAll spare + 1
  | .agg parts => uptoBulkAll parts + 1
  | .iface _ d => uptoBulk d + 1
  | .map entries => uptoBulkEntries entries + 1
  | .held _ => 1
def uptoBulkAll {H : Type} : List (DataW H) → Nat
  | [] => 0
  | d :: r => uptoBulk d + uptoBulkAll r
def uptoBulkEntries {H : Type} : List (Lit × DataW H) → Nat
  | [] => 0
  | x :: r => uptoBulkEntry x + uptoBulkEntries r
def uptoBulkEntry {H : Type} : Lit × DataW H → Nat
  | (.string bytes, d) => bytes.length + uptoBulk d + 1
  | (_, d) => uptoBulk d + 1
 end
def uptoSmall : (H : Type) → List (DataW H) → Bool := fun _ ds => decide (uptoBulkAll ds ≤ 1048576)
def OpenSpec.upto (s : _root_.Go.ChangeSpec) : _root_.Go.OpenSpec := { _root_.Go.OpenSpec.ofChange s with cond := some uptoSmall }

/-- 'laws.FnReadsFromWrites', WHERE WHAT IT READS IS OF BULK AT MOST 1048576: true; the input reads as it did. -/
def fnReadsFromWritesUptoRow : OpenClaim := { program := "ytgihnmaaiibmeaa", sum := "da646dd777858cfcaa1f6bda7cbb6f5e4684bd5b75df4570105779cfb130e28d", func := "loop.example/treelocks/laws.FnReadsFromWrites", spec := "fnReadsFromWrites", apart := false, narrowed := true }
def FnReadsFromWritesUptoSaid : Prop := fnReadsFromWritesUptoRow.holds Try.pinned (OpenSpec.upto fnReadsFromWritesSpec)

/-- 'laws.FnReadsFrom', WHERE WHAT IT READS IS OF BULK AT MOST 1048576: true; the input reads as it did. -/
def fnReadsFromUptoRow : OpenClaim := { program := "ytgihnmaaiibmeaa", sum := "da646dd777858cfcaa1f6bda7cbb6f5e4684bd5b75df4570105779cfb130e28d", func := "loop.example/treelocks/laws.FnReadsFrom", spec := "fnReadsFrom", apart := false, narrowed := true }
def FnReadsFromUptoSaid : Prop := fnReadsFromUptoRow.holds Try.pinned (OpenSpec.upto fnReadsFromSpec)

/-- 'laws.FnReadsFromShort', WHERE WHAT IT READS IS OF BULK AT MOST 1048576: true; the input reads as it did. -/
def fnReadsFromShortUptoRow : OpenClaim := { program := "ytgihnmaaiibmeaa", sum := "da646dd777858cfcaa1f6bda7cbb6f5e4684bd5b75df4570105779cfb130e28d", func := "loop.example/treelocks/laws.FnReadsFromShort", spec := "fnReadsFromShort", apart := false, narrowed := true }
def FnReadsFromShortUptoSaid : Prop := fnReadsFromShortUptoRow.holds Try.pinned (OpenSpec.upto fnReadsFromShortSpec)

/-- 'laws.FnMayCommit', WHERE WHAT IT READS IS OF BULK AT MOST 1048576: true; the input reads as it did. -/
def fnMayCommitUptoRow : OpenClaim := { program := "ytgihnmaaiibmeaa", sum := "da646dd777858cfcaa1f6bda7cbb6f5e4684bd5b75df4570105779cfb130e28d", func := "loop.example/treelocks/laws.FnMayCommit", spec := "fnMayCommit", apart := false, narrowed := true }
def FnMayCommitUptoSaid : Prop := fnMayCommitUptoRow.holds Try.pinned (OpenSpec.upto fnMayCommitSpec)

/-- 'laws.FnMayCommitMore', WHERE WHAT IT READS IS OF BULK AT MOST 1048576: true; the input reads as it did. -/
def fnMayCommitMoreUptoRow : OpenClaim := { program := "ytgihnmaaiibmeaa", sum := "da646dd777858cfcaa1f6bda7cbb6f5e4684bd5b75df4570105779cfb130e28d", func := "loop.example/treelocks/laws.FnMayCommitMore", spec := "fnMayCommitMore", apart := false, narrowed := true }
def FnMayCommitMoreUptoSaid : Prop := fnMayCommitMoreUptoRow.holds Try.pinned (OpenSpec.upto fnMayCommitMoreSpec)

/-- 'laws.FnExactReadsFrom', WHERE WHAT IT READS IS OF BULK AT MOST 1048576: true; the input reads as it did. -/
def fnExactReadsFromUptoRow : OpenClaim := { program := "ytgihnmaaiibmeaa", sum := "da646dd777858cfcaa1f6bda7cbb6f5e4684bd5b75df4570105779cfb130e28d", func := "loop.example/treelocks/laws.FnExactReadsFrom", spec := "fnExactReadsFrom", apart := false, narrowed := true }
def FnExactReadsFromUptoSaid : Prop := fnExactReadsFromUptoRow.holds Try.pinned (OpenSpec.upto fnExactReadsFromSpec)

/-- 'laws.FnAbortSetMore', WHERE WHAT IT READS IS OF BULK AT MOST 1048576: true; the input reads as it did. -/
def fnAbortSetMoreUptoRow : OpenClaim := { program := "ytgihnmaaiibmeaa", sum := "da646dd777858cfcaa1f6bda7cbb6f5e4684bd5b75df4570105779cfb130e28d", func := "loop.example/treelocks/laws.FnAbortSetMore", spec := "fnAbortSetMore", apart := false, narrowed := true }
def FnAbortSetMoreUptoSaid : Prop := fnAbortSetMoreUptoRow.holds Try.pinned (OpenSpec.upto fnAbortSetMoreSpec)

/-- 'laws.FnExactMayCommit', WHERE WHAT IT READS IS OF BULK AT MOST 1048576: true; the input reads as it did. -/
def fnExactMayCommitUptoRow : OpenClaim := { program := "ytgihnmaaiibmeaa", sum := "da646dd777858cfcaa1f6bda7cbb6f5e4684bd5b75df4570105779cfb130e28d", func := "loop.example/treelocks/laws.FnExactMayCommit", spec := "fnExactMayCommit", apart := false, narrowed := true }
def FnExactMayCommitUptoSaid : Prop := fnExactMayCommitUptoRow.holds Try.pinned (OpenSpec.upto fnExactMayCommitSpec)

/-- 'laws.FnAbortSet', WHERE WHAT IT READS IS OF BULK AT MOST 1048576: true; the input reads as it did. -/
def fnAbortSetUptoRow : OpenClaim := { program := "ytgihnmaaiibmeaa", sum := "da646dd777858cfcaa1f6bda7cbb6f5e4684bd5b75df4570105779cfb130e28d", func := "loop.example/treelocks/laws.FnAbortSet", spec := "fnAbortSet", apart := false, narrowed := true }
def FnAbortSetUptoSaid : Prop := fnAbortSetUptoRow.holds Try.pinned (OpenSpec.upto fnAbortSetSpec)

/-- 'laws.FnAbortSetNone', WHERE WHAT IT READS IS OF BULK AT MOST 1048576: true; the input reads as it did. -/
def fnAbortSetNoneUptoRow : OpenClaim := { program := "ytgihnmaaiibmeaa", sum := "da646dd777858cfcaa1f6bda7cbb6f5e4684bd5b75df4570105779cfb130e28d", func := "loop.example/treelocks/laws.FnAbortSetNone", spec := "fnAbortSetNone", apart := false, narrowed := true }
def FnAbortSetNoneUptoSaid : Prop := fnAbortSetNoneUptoRow.holds Try.pinned (OpenSpec.upto fnAbortSetNoneSpec)

/-- 'laws.FnMayCommitSet', WHERE WHAT IT READS IS OF BULK AT MOST 1048576: true; the input reads as it did. -/
def fnMayCommitSetUptoRow : OpenClaim := { program := "ytgihnmaaiibmeaa", sum := "da646dd777858cfcaa1f6bda7cbb6f5e4684bd5b75df4570105779cfb130e28d", func := "loop.example/treelocks/laws.FnMayCommitSet", spec := "fnMayCommitSet", apart := false, narrowed := true }
def FnMayCommitSetUptoSaid : Prop := fnMayCommitSetUptoRow.holds Try.pinned (OpenSpec.upto fnMayCommitSetSpec)

/-- 'laws.FnExactAbortSet', WHERE WHAT IT READS IS OF BULK AT MOST 1048576: true; the input reads as it did. -/
def fnExactAbortSetUptoRow : OpenClaim := { program := "ytgihnmaaiibmeaa", sum := "da646dd777858cfcaa1f6bda7cbb6f5e4684bd5b75df4570105779cfb130e28d", func := "loop.example/treelocks/laws.FnExactAbortSet", spec := "fnExactAbortSet", apart := false, narrowed := true }
def FnExactAbortSetUptoSaid : Prop := fnExactAbortSetUptoRow.holds Try.pinned (OpenSpec.upto fnExactAbortSetSpec)

end Rows
end Go.Proofs.Ytgihnmaaiibmeaa
