/-
  No cell of these rows narrows 'for every input' (looked for: loops, veiled, ifaces, maps, wideKeys, modest, calm, conditions, laid).
  DERIVED. THE GIVEN ROWS OF THIS SEAT. 9 by the template 'for every input the law returns true; each argument reads behind the call as it read before'; 0 by the template 'total and deterministic' (their statements: YtdkmgkeaebcobaaTotals.lean).
  GIVEN WITH THE SEED: the statements are not yours to turn. If you find one false, say at which input.
  Laid BY PROGRAM, IN A SANDBOX (cutbox-rows.mjs): the forced cells as the released guide's own fill.sh prints them over the translation cd605c0a433c9c22… (all of the seat's roots in one cut). By AI agents, Wed Nov 11 2026. No macro, syntax, notation, axiom, sorry.
-/
import Derived.Test.YtdkmgkeaebcobaaChecked
import GoSem.Claim
import GoSem.ClaimJoined
import GoSem.ClaimMapViews
import Derived.JoinedTies
import Derived.KernelRfl
namespace Go.Proofs.Ytdkmgkeaebcobaa
/- THE CELL 'sum', in the pinned program and in every row, IS THE sha256 OF THE DUMP (.gsa) THAT YtdkmgkeaebcobaaProg.lean LOADS. Nothing in Lean hashes anything: it is a label: what it is worth is what the hold of that sum in a sandbox is worth. -/
noncomputable def Try.pinned : Pinned := { name := "ytdkmgkeaebcobaa", sum := "cd605c0a433c9c22a711d0c77298bed1d46a6f02db5f3de97cdacb32c070ce29", checked := Try.checked }
namespace Rows
def none {H : Type} : Left H := { results := [], args := [] }

/-- 'laws.FnLosersOf': WHATEVER THE INPUT: true; the input reads as it did. -/
def fnLosersOfSpec : ChangeSpec := { name := "fnLosersOf", fn := fun _ => fun
  | [d] => { results := [.lit (.bool true)], args := [d] }
  | _ => none }
def fnLosersOfRow : OpenClaim := { program := "ytdkmgkeaebcobaa", sum := "cd605c0a433c9c22a711d0c77298bed1d46a6f02db5f3de97cdacb32c070ce29", func := "loop.example/treelocks/laws.FnLosersOf", spec := "fnLosersOf", apart := false }
def FnLosersOfSaid : Prop := fnLosersOfRow.holds Try.pinned (OpenSpec.ofChange fnLosersOfSpec)

/-- ITS FALSE NEIGHBOUR: 'it returns false'. Refute it at one input. -/
def fnLosersOfWrong : ChangeSpec := { name := "fnLosersOf", fn := fun _ => fun
  | [d] => { results := [.lit (.bool false)], args := [d] }
  | _ => none }
def FnLosersOfWrongFalsely : Prop := fnLosersOfRow.holds Try.pinned (OpenSpec.ofChange fnLosersOfWrong)

/-- 'laws.FnLosersOfShort': WHATEVER THE INPUT: true; the input reads as it did. -/
def fnLosersOfShortSpec : ChangeSpec := { name := "fnLosersOfShort", fn := fun _ => fun
  | [d] => { results := [.lit (.bool true)], args := [d] }
  | _ => none }
def fnLosersOfShortRow : OpenClaim := { program := "ytdkmgkeaebcobaa", sum := "cd605c0a433c9c22a711d0c77298bed1d46a6f02db5f3de97cdacb32c070ce29", func := "loop.example/treelocks/laws.FnLosersOfShort", spec := "fnLosersOfShort", apart := false }
def FnLosersOfShortSaid : Prop := fnLosersOfShortRow.holds Try.pinned (OpenSpec.ofChange fnLosersOfShortSpec)

/-- ITS FALSE NEIGHBOUR: 'it returns false'. Refute it at one input. -/
def fnLosersOfShortWrong : ChangeSpec := { name := "fnLosersOfShort", fn := fun _ => fun
  | [d] => { results := [.lit (.bool false)], args := [d] }
  | _ => none }
def FnLosersOfShortWrongFalsely : Prop := fnLosersOfShortRow.holds Try.pinned (OpenSpec.ofChange fnLosersOfShortWrong)

/-- 'laws.FnRedoLogLosers': WHATEVER THE INPUT: true; the input reads as it did. -/
def fnRedoLogLosersSpec : ChangeSpec := { name := "fnRedoLogLosers", fn := fun _ => fun
  | [d] => { results := [.lit (.bool true)], args := [d] }
  | _ => none }
def fnRedoLogLosersRow : OpenClaim := { program := "ytdkmgkeaebcobaa", sum := "cd605c0a433c9c22a711d0c77298bed1d46a6f02db5f3de97cdacb32c070ce29", func := "loop.example/treelocks/laws.FnRedoLogLosers", spec := "fnRedoLogLosers", apart := false }
def FnRedoLogLosersSaid : Prop := fnRedoLogLosersRow.holds Try.pinned (OpenSpec.ofChange fnRedoLogLosersSpec)

/-- ITS FALSE NEIGHBOUR: 'it returns false'. Refute it at one input. -/
def fnRedoLogLosersWrong : ChangeSpec := { name := "fnRedoLogLosers", fn := fun _ => fun
  | [d] => { results := [.lit (.bool false)], args := [d] }
  | _ => none }
def FnRedoLogLosersWrongFalsely : Prop := fnRedoLogLosersRow.holds Try.pinned (OpenSpec.ofChange fnRedoLogLosersWrong)

/-- 'laws.FnShortLogLosers': WHATEVER THE INPUT: true; the input reads as it did. -/
def fnShortLogLosersSpec : ChangeSpec := { name := "fnShortLogLosers", fn := fun _ => fun
  | [d] => { results := [.lit (.bool true)], args := [d] }
  | _ => none }
def fnShortLogLosersRow : OpenClaim := { program := "ytdkmgkeaebcobaa", sum := "cd605c0a433c9c22a711d0c77298bed1d46a6f02db5f3de97cdacb32c070ce29", func := "loop.example/treelocks/laws.FnShortLogLosers", spec := "fnShortLogLosers", apart := false }
def FnShortLogLosersSaid : Prop := fnShortLogLosersRow.holds Try.pinned (OpenSpec.ofChange fnShortLogLosersSpec)

/-- ITS FALSE NEIGHBOUR: 'it returns false'. Refute it at one input. -/
def fnShortLogLosersWrong : ChangeSpec := { name := "fnShortLogLosers", fn := fun _ => fun
  | [d] => { results := [.lit (.bool false)], args := [d] }
  | _ => none }
def FnShortLogLosersWrongFalsely : Prop := fnShortLogLosersRow.holds Try.pinned (OpenSpec.ofChange fnShortLogLosersWrong)

/-- 'laws.FnShortLogTwice': WHATEVER THE INPUT: true; the input reads as it did. -/
def fnShortLogTwiceSpec : ChangeSpec := { name := "fnShortLogTwice", fn := fun _ => fun
  | [d] => { results := [.lit (.bool true)], args := [d] }
  | _ => none }
def fnShortLogTwiceRow : OpenClaim := { program := "ytdkmgkeaebcobaa", sum := "cd605c0a433c9c22a711d0c77298bed1d46a6f02db5f3de97cdacb32c070ce29", func := "loop.example/treelocks/laws.FnShortLogTwice", spec := "fnShortLogTwice", apart := false }
def FnShortLogTwiceSaid : Prop := fnShortLogTwiceRow.holds Try.pinned (OpenSpec.ofChange fnShortLogTwiceSpec)

/-- ITS FALSE NEIGHBOUR: 'it returns false'. Refute it at one input. -/
def fnShortLogTwiceWrong : ChangeSpec := { name := "fnShortLogTwice", fn := fun _ => fun
  | [d] => { results := [.lit (.bool false)], args := [d] }
  | _ => none }
def FnShortLogTwiceWrongFalsely : Prop := fnShortLogTwiceRow.holds Try.pinned (OpenSpec.ofChange fnShortLogTwiceWrong)

/-- 'laws.FnExactRedoLog': WHATEVER THE INPUT: true; the input reads as it did. -/
def fnExactRedoLogSpec : ChangeSpec := { name := "fnExactRedoLog", fn := fun _ => fun
  | [d1, d2] => { results := [.lit (.bool true)], args := [d1, d2] }
  | _ => none }
def fnExactRedoLogRow : OpenClaim := { program := "ytdkmgkeaebcobaa", sum := "cd605c0a433c9c22a711d0c77298bed1d46a6f02db5f3de97cdacb32c070ce29", func := "loop.example/treelocks/laws.FnExactRedoLog", spec := "fnExactRedoLog", apart := false }
def FnExactRedoLogSaid : Prop := fnExactRedoLogRow.holds Try.pinned (OpenSpec.ofChange fnExactRedoLogSpec)

/-- ITS FALSE NEIGHBOUR: 'it returns false'. Refute it at one input. -/
def fnExactRedoLogWrong : ChangeSpec := { name := "fnExactRedoLog", fn := fun _ => fun
  | [d1, d2] => { results := [.lit (.bool false)], args := [d1, d2] }
  | _ => none }
def FnExactRedoLogWrongFalsely : Prop := fnExactRedoLogRow.holds Try.pinned (OpenSpec.ofChange fnExactRedoLogWrong)

/-- 'laws.FnExactLosersOf': WHATEVER THE INPUT: true; the input reads as it did. -/
def fnExactLosersOfSpec : ChangeSpec := { name := "fnExactLosersOf", fn := fun _ => fun
  | [d1, d2] => { results := [.lit (.bool true)], args := [d1, d2] }
  | _ => none }
def fnExactLosersOfRow : OpenClaim := { program := "ytdkmgkeaebcobaa", sum := "cd605c0a433c9c22a711d0c77298bed1d46a6f02db5f3de97cdacb32c070ce29", func := "loop.example/treelocks/laws.FnExactLosersOf", spec := "fnExactLosersOf", apart := false }
def FnExactLosersOfSaid : Prop := fnExactLosersOfRow.holds Try.pinned (OpenSpec.ofChange fnExactLosersOfSpec)

/-- ITS FALSE NEIGHBOUR: 'it returns false'. Refute it at one input. -/
def fnExactLosersOfWrong : ChangeSpec := { name := "fnExactLosersOf", fn := fun _ => fun
  | [d1, d2] => { results := [.lit (.bool false)], args := [d1, d2] }
  | _ => none }
def FnExactLosersOfWrongFalsely : Prop := fnExactLosersOfRow.holds Try.pinned (OpenSpec.ofChange fnExactLosersOfWrong)

/-- 'laws.FnShortLog': WHATEVER THE INPUT: true; the input reads as it did. -/
def fnShortLogSpec : ChangeSpec := { name := "fnShortLog", fn := fun _ => fun
  | [d] => { results := [.lit (.bool true)], args := [d] }
  | _ => none }
def fnShortLogRow : OpenClaim := { program := "ytdkmgkeaebcobaa", sum := "cd605c0a433c9c22a711d0c77298bed1d46a6f02db5f3de97cdacb32c070ce29", func := "loop.example/treelocks/laws.FnShortLog", spec := "fnShortLog", apart := false }
def FnShortLogSaid : Prop := fnShortLogRow.holds Try.pinned (OpenSpec.ofChange fnShortLogSpec)

/-- ITS FALSE NEIGHBOUR: 'it returns false'. Refute it at one input. -/
def fnShortLogWrong : ChangeSpec := { name := "fnShortLog", fn := fun _ => fun
  | [d] => { results := [.lit (.bool false)], args := [d] }
  | _ => none }
def FnShortLogWrongFalsely : Prop := fnShortLogRow.holds Try.pinned (OpenSpec.ofChange fnShortLogWrong)

/-- 'laws.FnExactShortLog': WHATEVER THE INPUT: true; the input reads as it did. -/
def fnExactShortLogSpec : ChangeSpec := { name := "fnExactShortLog", fn := fun _ => fun
  | [d1, d2] => { results := [.lit (.bool true)], args := [d1, d2] }
  | _ => none }
def fnExactShortLogRow : OpenClaim := { program := "ytdkmgkeaebcobaa", sum := "cd605c0a433c9c22a711d0c77298bed1d46a6f02db5f3de97cdacb32c070ce29", func := "loop.example/treelocks/laws.FnExactShortLog", spec := "fnExactShortLog", apart := false }
def FnExactShortLogSaid : Prop := fnExactShortLogRow.holds Try.pinned (OpenSpec.ofChange fnExactShortLogSpec)

/-- ITS FALSE NEIGHBOUR: 'it returns false'. Refute it at one input. -/
def fnExactShortLogWrong : ChangeSpec := { name := "fnExactShortLog", fn := fun _ => fun
  | [d1, d2] => { results := [.lit (.bool false)], args := [d1, d2] }
  | _ => none }
def FnExactShortLogWrongFalsely : Prop := fnExactShortLogRow.holds Try.pinned (OpenSpec.ofChange fnExactShortLogWrong)

/- THE SECOND FORM. 'bulk': how many values and letters a reading holds, each counted each time it is reached (what is shared counts as often as it is met; a slice's spare places count too). A statement '..UptoSaid' is the law's where the arguments, and the package variables that the reading takes, are together of bulk at most 1048576: NARROWER than '..Said'. Prove '..Said' where nothing that the law and all that it calls make is longer than what came in: it says more and counts as full. Else prove '..UptoSaid'. A law counts once. -/
mutual
def uptoBulk {H : Type} : DataW H → Nat
  | .lit (.string bytes) => bytes.length + 1
  | .lit _ => 1
  | .nil => 1
  | .ptr d => uptoBulk d + 1
  | .slice elems spare => uptoBulkAll elems + uptoBulkAll spare + 1
  | .agg parts => uptoBulkAll parts + 1
  | .iface _ d => uptoBulk d + 1
  | .map entries => uptoBulkEntries entries + 1
  | .held _ => 1
def uptoBulkAll {H : Type} : List (DataW H) → Nat
  | [] => 0
  | d :: r => uptoBulk d + uptoBulkAll r
def uptoBulkEntries {H : Type} : List (Lit × DataW H) → Nat
  | [] => 0
  | x :: r => uptoBulkEntry x + uptoBulkEntries r
def uptoBulkEntry {H : Type} : Lit × DataW H → Nat
  | (.string bytes, d) => bytes.length + uptoBulk d + 1
  | (_, d) => uptoBulk d + 1
 end
def uptoSmall : (H : Type) → List (DataW H) → Bool := fun _ ds => decide (uptoBulkAll ds ≤ 1048576)
def OpenSpec.upto (s : _root_.Go.ChangeSpec) : _root_.Go.OpenSpec := { _root_.Go.OpenSpec.ofChange s with cond := some uptoSmall }

/-- 'laws.FnLosersOf', WHERE WHAT IT READS IS OF BULK AT MOST 1048576: true; the input reads as it did. -/
def fnLosersOfUptoRow : OpenClaim := { program := "ytdkmgkeaebcobaa", sum := "cd605c0a433c9c22a711d0c77298bed1d46a6f02db5f3de97cdacb32c070ce29", func := "loop.example/treelocks/laws.FnLosersOf", spec := "fnLosersOf", apart := false, narrowed := true }
def FnLosersOfUptoSaid : Prop := fnLosersOfUptoRow.holds Try.pinned (OpenSpec.upto fnLosersOfSpec)

/-- 'laws.FnLosersOfShort', WHERE WHAT IT READS IS OF BULK AT MOST 1048576: true; the input reads as it did. -/
def fnLosersOfShortUptoRow : OpenClaim := { program := "ytdkmgkeaebcobaa", sum := "cd605c0a433c9c22a711d0c77298bed1d46a6f02db5f3de97cdacb32c070ce29", func := "loop.example/treelocks/laws.FnLosersOfShort", spec := "fnLosersOfShort", apart := false, narrowed := true }
def FnLosersOfShortUptoSaid : Prop := fnLosersOfShortUptoRow.holds Try.pinned (OpenSpec.upto fnLosersOfShortSpec)

/-- 'laws.FnRedoLogLosers', WHERE WHAT IT READS IS OF BULK AT MOST 1048576: true; the input reads as it did. -/
def fnRedoLogLosersUptoRow : OpenClaim := { program := "ytdkmgkeaebcobaa", sum := "cd605c0a433c9c22a711d0c77298bed1d46a6f02db5f3de97cdacb32c070ce29", func := "loop.example/treelocks/laws.FnRedoLogLosers", spec := "fnRedoLogLosers", apart := false, narrowed := true }
def FnRedoLogLosersUptoSaid : Prop := fnRedoLogLosersUptoRow.holds Try.pinned (OpenSpec.upto fnRedoLogLosersSpec)

/-- 'laws.FnShortLogLosers', WHERE WHAT IT READS IS OF BULK AT MOST 1048576: true; the input reads as it did. -/
def fnShortLogLosersUptoRow : OpenClaim := { program := "ytdkmgkeaebcobaa", sum := "cd605c0a433c9c22a711d0c77298bed1d46a6f02db5f3de97cdacb32c070ce29", func := "loop.example/treelocks/laws.FnShortLogLosers", spec := "fnShortLogLosers", apart := false, narrowed := true }
def FnShortLogLosersUptoSaid : Prop := fnShortLogLosersUptoRow.holds Try.pinned (OpenSpec.upto fnShortLogLosersSpec)

/-- 'laws.FnShortLogTwice', WHERE WHAT IT READS IS OF BULK AT MOST 1048576: true; the input reads as it did. -/
def fnShortLogTwiceUptoRow : OpenClaim := { program := "ytdkmgkeaebcobaa", sum := "cd605c0a433c9c22a711d0c77298bed1d46a6f02db5f3de97cdacb32c070ce29", func := "loop.example/treelocks/laws.FnShortLogTwice", spec := "fnShortLogTwice", apart := false, narrowed := true }
def FnShortLogTwiceUptoSaid : Prop := fnShortLogTwiceUptoRow.holds Try.pinned (OpenSpec.upto fnShortLogTwiceSpec)

/-- 'laws.FnExactRedoLog', WHERE WHAT IT READS IS OF BULK AT MOST 1048576: true; the input reads as it did. -/
def fnExactRedoLogUptoRow : OpenClaim := { program := "ytdkmgkeaebcobaa", sum := "cd605c0a433c9c22a711d0c77298bed1d46a6f02db5f3de97cdacb32c070ce29", func := "loop.example/treelocks/laws.FnExactRedoLog", spec := "fnExactRedoLog", apart := false, narrowed := true }
def FnExactRedoLogUptoSaid : Prop := fnExactRedoLogUptoRow.holds Try.pinned (OpenSpec.upto fnExactRedoLogSpec)

/-- 'laws.FnExactLosersOf', WHERE WHAT IT READS IS OF BULK AT MOST 1048576: true; the input reads as it did. -/
def fnExactLosersOfUptoRow : OpenClaim := { program := "ytdkmgkeaebcobaa", sum := "cd605c0a433c9c22a711d0c77298bed1d46a6f02db5f3de97cdacb32c070ce29", func := "loop.example/treelocks/laws.FnExactLosersOf", spec := "fnExactLosersOf", apart := false, narrowed := true }
def FnExactLosersOfUptoSaid : Prop := fnExactLosersOfUptoRow.holds Try.pinned (OpenSpec.upto fnExactLosersOfSpec)

/-- 'laws.FnShortLog', WHERE WHAT IT READS IS OF BULK AT MOST 1048576: true; the input reads as it did. -/
def fnShortLogUptoRow : OpenClaim := { program := "ytdkmgkeaebcobaa", sum := "cd605c0a433c9c22a711d0c77298bed1d46a6f02db5f3de97cdacb32c070ce29", func := "loop.example/treelocks/laws.FnShortLog", spec := "fnShortLog", apart := false, narrowed := true }
def FnShortLogUptoSaid : Prop := fnShortLogUptoRow.holds Try.pinned (OpenSpec.upto fnShortLogSpec)

/-- 'laws.FnExactShortLog', WHERE WHAT IT READS IS OF BULK AT MOST 1048576: true; the input reads as it did. -/
def fnExactShortLogUptoRow : OpenClaim := { program := "ytdkmgkeaebcobaa", sum := "cd605c0a433c9c22a711d0c77298bed1d46a6f02db5f3de97cdacb32c070ce29", func := "loop.example/treelocks/laws.FnExactShortLog", spec := "fnExactShortLog", apart := false, narrowed := true }
def FnExactShortLogUptoSaid : Prop := fnExactShortLogUptoRow.holds Try.pinned (OpenSpec.upto fnExactShortLogSpec)

end Rows
end Go.Proofs.Ytdkmgkeaebcobaa
