/-
  No cell of these rows narrows 'for every input' (looked for: loops, veiled, ifaces, maps, wideKeys, modest, calm, conditions, laid).
  DERIVED. THE GIVEN ROWS OF THIS SEAT. 6 by the template 'for every input the law returns true; each argument reads behind the call as it read before'; 0 by the template 'total and deterministic' (their statements: YthlfcfcfipahiaaTotals.lean).
  GIVEN WITH THE SEED: the statements are not yours to turn. If you find one false, say at which input.
  Laid BY PROGRAM, IN A SANDBOX (cutbox-rows.mjs): the forced cells as the released guide's own fill.sh prints them over the translation c6e3a4bd425bc5c4… (all of the seat's roots in one cut). By AI agents, Wed Nov 11 2026. No macro, syntax, notation, axiom, sorry.
-/
import Derived.Test.YthlfcfcfipahiaaChecked
import GoSem.Claim
import GoSem.ClaimJoined
import GoSem.ClaimMapViews
import Derived.JoinedTies
import Derived.KernelRfl
namespace Go.Proofs.Ythlfcfcfipahiaa
/- THE CELL 'sum', in the pinned program and in every row, IS THE sha256 OF THE DUMP (.gsa) THAT YthlfcfcfipahiaaProg.lean LOADS. Nothing in Lean hashes anything: it is a label: what it is worth is what the hold of that sum in a sandbox is worth. -/
noncomputable def Try.pinned : Pinned := { name := "ythlfcfcfipahiaa", sum := "c6e3a4bd425bc5c4cb7bd5b3d6ca931685ab8dd5c634c7fdcfd2c91c580a5985", checked := Try.checked }
namespace Rows
def none {H : Type} : Left H := { results := [], args := [] }

/-- 'laws.FnApplyEdits': WHATEVER THE INPUT: true; the input reads as it did. -/
def fnApplyEditsSpec : ChangeSpec := { name := "fnApplyEdits", fn := fun _ => fun
  | [d] => { results := [.lit (.bool true)], args := [d] }
  | _ => none }
def fnApplyEditsRow : OpenClaim := { program := "ythlfcfcfipahiaa", sum := "c6e3a4bd425bc5c4cb7bd5b3d6ca931685ab8dd5c634c7fdcfd2c91c580a5985", func := "loop.example/treelocks/laws.FnApplyEdits", spec := "fnApplyEdits", inPlace := ["internal/bytealg.IndexByteString", "internal/bytealg.IndexString", "internal/abi.NoEscape"], recurses := true, named := ["internal/bytealg.MaxLen"], apart := false }
def FnApplyEditsSaid : Prop := fnApplyEditsRow.holds Try.pinned (OpenSpec.ofChange fnApplyEditsSpec)

/-- ITS FALSE NEIGHBOUR: 'it returns false'. Refute it at one input. -/
def fnApplyEditsWrong : ChangeSpec := { name := "fnApplyEdits", fn := fun _ => fun
  | [d] => { results := [.lit (.bool false)], args := [d] }
  | _ => none }
def FnApplyEditsWrongFalsely : Prop := fnApplyEditsRow.holds Try.pinned (OpenSpec.ofChange fnApplyEditsWrong)

/-- 'laws.FnApplyEditsLast': WHATEVER THE INPUT: true; the input reads as it did. -/
def fnApplyEditsLastSpec : ChangeSpec := { name := "fnApplyEditsLast", fn := fun _ => fun
  | [d] => { results := [.lit (.bool true)], args := [d] }
  | _ => none }
def fnApplyEditsLastRow : OpenClaim := { program := "ythlfcfcfipahiaa", sum := "c6e3a4bd425bc5c4cb7bd5b3d6ca931685ab8dd5c634c7fdcfd2c91c580a5985", func := "loop.example/treelocks/laws.FnApplyEditsLast", spec := "fnApplyEditsLast", inPlace := ["internal/bytealg.IndexByteString", "internal/bytealg.IndexString", "internal/abi.NoEscape"], recurses := true, named := ["internal/bytealg.MaxLen"], apart := false }
def FnApplyEditsLastSaid : Prop := fnApplyEditsLastRow.holds Try.pinned (OpenSpec.ofChange fnApplyEditsLastSpec)

/-- ITS FALSE NEIGHBOUR: 'it returns false'. Refute it at one input. -/
def fnApplyEditsLastWrong : ChangeSpec := { name := "fnApplyEditsLast", fn := fun _ => fun
  | [d] => { results := [.lit (.bool false)], args := [d] }
  | _ => none }
def FnApplyEditsLastWrongFalsely : Prop := fnApplyEditsLastRow.holds Try.pinned (OpenSpec.ofChange fnApplyEditsLastWrong)

/-- 'laws.FnApplyEditsNone': WHATEVER THE INPUT: true; the input reads as it did. -/
def fnApplyEditsNoneSpec : ChangeSpec := { name := "fnApplyEditsNone", fn := fun _ => fun
  | [d] => { results := [.lit (.bool true)], args := [d] }
  | _ => none }
def fnApplyEditsNoneRow : OpenClaim := { program := "ythlfcfcfipahiaa", sum := "c6e3a4bd425bc5c4cb7bd5b3d6ca931685ab8dd5c634c7fdcfd2c91c580a5985", func := "loop.example/treelocks/laws.FnApplyEditsNone", spec := "fnApplyEditsNone", inPlace := ["internal/bytealg.IndexByteString", "internal/bytealg.IndexString", "internal/abi.NoEscape"], recurses := true, named := ["internal/bytealg.MaxLen"], apart := false }
def FnApplyEditsNoneSaid : Prop := fnApplyEditsNoneRow.holds Try.pinned (OpenSpec.ofChange fnApplyEditsNoneSpec)

/-- ITS FALSE NEIGHBOUR: 'it returns false'. Refute it at one input. -/
def fnApplyEditsNoneWrong : ChangeSpec := { name := "fnApplyEditsNone", fn := fun _ => fun
  | [d] => { results := [.lit (.bool false)], args := [d] }
  | _ => none }
def FnApplyEditsNoneWrongFalsely : Prop := fnApplyEditsNoneRow.holds Try.pinned (OpenSpec.ofChange fnApplyEditsNoneWrong)

/-- 'laws.FnExactApplyEdits': WHATEVER THE INPUT: true; the input reads as it did. -/
def fnExactApplyEditsSpec : ChangeSpec := { name := "fnExactApplyEdits", fn := fun _ => fun
  | [d1, d2] => { results := [.lit (.bool true)], args := [d1, d2] }
  | _ => none }
def fnExactApplyEditsRow : OpenClaim := { program := "ythlfcfcfipahiaa", sum := "c6e3a4bd425bc5c4cb7bd5b3d6ca931685ab8dd5c634c7fdcfd2c91c580a5985", func := "loop.example/treelocks/laws.FnExactApplyEdits", spec := "fnExactApplyEdits", inPlace := ["internal/bytealg.IndexByteString", "internal/bytealg.IndexString", "internal/abi.NoEscape"], named := ["internal/bytealg.MaxLen"], apart := false }
def FnExactApplyEditsSaid : Prop := fnExactApplyEditsRow.holds Try.pinned (OpenSpec.ofChange fnExactApplyEditsSpec)

/-- ITS FALSE NEIGHBOUR: 'it returns false'. Refute it at one input. -/
def fnExactApplyEditsWrong : ChangeSpec := { name := "fnExactApplyEdits", fn := fun _ => fun
  | [d1, d2] => { results := [.lit (.bool false)], args := [d1, d2] }
  | _ => none }
def FnExactApplyEditsWrongFalsely : Prop := fnExactApplyEditsRow.holds Try.pinned (OpenSpec.ofChange fnExactApplyEditsWrong)

/-- 'laws.FnEditsBetweenFew': WHATEVER THE INPUT: true; the input reads as it did. -/
def fnEditsBetweenFewSpec : ChangeSpec := { name := "fnEditsBetweenFew", fn := fun _ => fun
  | [d] => { results := [.lit (.bool true)], args := [d] }
  | _ => none }
def fnEditsBetweenFewRow : OpenClaim := { program := "ythlfcfcfipahiaa", sum := "c6e3a4bd425bc5c4cb7bd5b3d6ca931685ab8dd5c634c7fdcfd2c91c580a5985", func := "loop.example/treelocks/laws.FnEditsBetweenFew", spec := "fnEditsBetweenFew", inPlace := ["internal/bytealg.abigen_runtime_cmpstring", "internal/abi.NoEscape", "internal/bytealg.IndexByteString", "internal/bytealg.IndexString"], unfollowed := true, recurses := true, named := ["internal/bytealg.MaxLen"], apart := false }
def FnEditsBetweenFewSaid : Prop := fnEditsBetweenFewRow.holds Try.pinned (OpenSpec.ofChange fnEditsBetweenFewSpec)

/-- ITS FALSE NEIGHBOUR: 'it returns false'. Refute it at one input. -/
def fnEditsBetweenFewWrong : ChangeSpec := { name := "fnEditsBetweenFew", fn := fun _ => fun
  | [d] => { results := [.lit (.bool false)], args := [d] }
  | _ => none }
def FnEditsBetweenFewWrongFalsely : Prop := fnEditsBetweenFewRow.holds Try.pinned (OpenSpec.ofChange fnEditsBetweenFewWrong)

/-- 'laws.FnEditsBetweenSame': WHATEVER THE INPUT: true; the input reads as it did. -/
def fnEditsBetweenSameSpec : ChangeSpec := { name := "fnEditsBetweenSame", fn := fun _ => fun
  | [d] => { results := [.lit (.bool true)], args := [d] }
  | _ => none }
def fnEditsBetweenSameRow : OpenClaim := { program := "ythlfcfcfipahiaa", sum := "c6e3a4bd425bc5c4cb7bd5b3d6ca931685ab8dd5c634c7fdcfd2c91c580a5985", func := "loop.example/treelocks/laws.FnEditsBetweenSame", spec := "fnEditsBetweenSame", inPlace := ["internal/bytealg.abigen_runtime_cmpstring", "internal/abi.NoEscape", "internal/bytealg.IndexByteString", "internal/bytealg.IndexString"], unfollowed := true, recurses := true, named := ["internal/bytealg.MaxLen"], apart := false }
def FnEditsBetweenSameSaid : Prop := fnEditsBetweenSameRow.holds Try.pinned (OpenSpec.ofChange fnEditsBetweenSameSpec)

/-- ITS FALSE NEIGHBOUR: 'it returns false'. Refute it at one input. -/
def fnEditsBetweenSameWrong : ChangeSpec := { name := "fnEditsBetweenSame", fn := fun _ => fun
  | [d] => { results := [.lit (.bool false)], args := [d] }
  | _ => none }
def FnEditsBetweenSameWrongFalsely : Prop := fnEditsBetweenSameRow.holds Try.pinned (OpenSpec.ofChange fnEditsBetweenSameWrong)

/- THE SECOND FORM. 'bulk': how many values and letters a reading holds, each counted each time it is reached (what is shared counts as often as it is met; a slice's spare places count too). A statement '..UptoSaid' is the law's where the arguments, and the package variables that the reading takes, are together of bulk at most 1048576: NARROWER than '..Said'. Prove '..Said' where nothing that the law and all that it calls make is longer than what came in: it says more and counts as full. Else prove '..UptoSaid'. A law counts once. -/
mutual
def uptoBulk {H : Type} : DataW H → Nat
  | .lit (.string bytes) => bytes.length + 1
  | .lit _ => 1
  | .nil => 1
  | .ptr d => uptoBulk d + 1
  | .slice elems spare => uptoBulkAll elems + uptoBulkAll spare + 1
  | .agg parts => uptoBulkAll parts + 1
  | .iface _ d => uptoBulk d + 1
  | .map entries => uptoBulkEntries entries + 1
  | .held _ => 1
def uptoBulkAll {H : Type} : List (DataW H) → Nat
  | [] => 0
  | d :: r => uptoBulk d + uptoBulkAll r
def uptoBulkEntries {H : Type} : List (Lit × DataW H) → Nat
  | [] => 0
  | x :: r => uptoBulkEntry x + uptoBulkEntries r
def uptoBulkEntry {H : Type} : Lit × DataW H → Nat
  | (.string bytes, d) => bytes.length + uptoBulk d + 1
  | (_, d) => uptoBulk d + 1
 end
def uptoSmall : (H : Type) → List (DataW H) → Bool := fun _ ds => decide (uptoBulkAll ds ≤ 1048576)
def OpenSpec.upto (s : _root_.Go.ChangeSpec) : _root_.Go.OpenSpec := { _root_.Go.OpenSpec.ofChange s with cond := some uptoSmall }

/-- 'laws.FnApplyEdits', WHERE WHAT IT READS IS OF BULK AT MOST 1048576: true; the input reads as it did. -/
def fnApplyEditsUptoRow : OpenClaim := { program := "ythlfcfcfipahiaa", sum := "c6e3a4bd425bc5c4cb7bd5b3d6ca931685ab8dd5c634c7fdcfd2c91c580a5985", func := "loop.example/treelocks/laws.FnApplyEdits", spec := "fnApplyEdits", inPlace := ["internal/bytealg.IndexByteString", "internal/bytealg.IndexString", "internal/abi.NoEscape"], recurses := true, named := ["internal/bytealg.MaxLen"], apart := false, narrowed := true }
def FnApplyEditsUptoSaid : Prop := fnApplyEditsUptoRow.holds Try.pinned (OpenSpec.upto fnApplyEditsSpec)

/-- 'laws.FnApplyEditsLast', WHERE WHAT IT READS IS OF BULK AT MOST 1048576: true; the input reads as it did. -/
def fnApplyEditsLastUptoRow : OpenClaim := { program := "ythlfcfcfipahiaa", sum := "c6e3a4bd425bc5c4cb7bd5b3d6ca931685ab8dd5c634c7fdcfd2c91c580a5985", func := "loop.example/treelocks/laws.FnApplyEditsLast", spec := "fnApplyEditsLast", inPlace := ["internal/bytealg.IndexByteString", "internal/bytealg.IndexString", "internal/abi.NoEscape"], recurses := true, named := ["internal/bytealg.MaxLen"], apart := false, narrowed := true }
def FnApplyEditsLastUptoSaid : Prop := fnApplyEditsLastUptoRow.holds Try.pinned (OpenSpec.upto fnApplyEditsLastSpec)

/-- 'laws.FnApplyEditsNone', WHERE WHAT IT READS IS OF BULK AT MOST 1048576: true; the input reads as it did. -/
def fnApplyEditsNoneUptoRow : OpenClaim := { program := "ythlfcfcfipahiaa", sum := "c6e3a4bd425bc5c4cb7bd5b3d6ca931685ab8dd5c634c7fdcfd2c91c580a5985", func := "loop.example/treelocks/laws.FnApplyEditsNone", spec := "fnApplyEditsNone", inPlace := ["internal/bytealg.IndexByteString", "internal/bytealg.IndexString", "internal/abi.NoEscape"], recurses := true, named := ["internal/bytealg.MaxLen"], apart := false, narrowed := true }
def FnApplyEditsNoneUptoSaid : Prop := fnApplyEditsNoneUptoRow.holds Try.pinned (OpenSpec.upto fnApplyEditsNoneSpec)

/-- 'laws.FnExactApplyEdits', WHERE WHAT IT READS IS OF BULK AT MOST 1048576: true; the input reads as it did. -/
def fnExactApplyEditsUptoRow : OpenClaim := { program := "ythlfcfcfipahiaa", sum := "c6e3a4bd425bc5c4cb7bd5b3d6ca931685ab8dd5c634c7fdcfd2c91c580a5985", func := "loop.example/treelocks/laws.FnExactApplyEdits", spec := "fnExactApplyEdits", inPlace := ["internal/bytealg.IndexByteString", "internal/bytealg.IndexString", "internal/abi.NoEscape"], named := ["internal/bytealg.MaxLen"], apart := false, narrowed := true }
def FnExactApplyEditsUptoSaid : Prop := fnExactApplyEditsUptoRow.holds Try.pinned (OpenSpec.upto fnExactApplyEditsSpec)

/-- 'laws.FnEditsBetweenFew', WHERE WHAT IT READS IS OF BULK AT MOST 1048576: true; the input reads as it did. -/
def fnEditsBetweenFewUptoRow : OpenClaim := { program := "ythlfcfcfipahiaa", sum := "c6e3a4bd425bc5c4cb7bd5b3d6ca931685ab8dd5c634c7fdcfd2c91c580a5985", func := "loop.example/treelocks/laws.FnEditsBetweenFew", spec := "fnEditsBetweenFew", inPlace := ["internal/bytealg.abigen_runtime_cmpstring", "internal/abi.NoEscape", "internal/bytealg.IndexByteString", "internal/bytealg.IndexString"], unfollowed := true, recurses := true, named := ["internal/bytealg.MaxLen"], apart := false, narrowed := true }
def FnEditsBetweenFewUptoSaid : Prop := fnEditsBetweenFewUptoRow.holds Try.pinned (OpenSpec.upto fnEditsBetweenFewSpec)

/-- 'laws.FnEditsBetweenSame', WHERE WHAT IT READS IS OF BULK AT MOST 1048576: true; the input reads as it did. -/
def fnEditsBetweenSameUptoRow : OpenClaim := { program := "ythlfcfcfipahiaa", sum := "c6e3a4bd425bc5c4cb7bd5b3d6ca931685ab8dd5c634c7fdcfd2c91c580a5985", func := "loop.example/treelocks/laws.FnEditsBetweenSame", spec := "fnEditsBetweenSame", inPlace := ["internal/bytealg.abigen_runtime_cmpstring", "internal/abi.NoEscape", "internal/bytealg.IndexByteString", "internal/bytealg.IndexString"], unfollowed := true, recurses := true, named := ["internal/bytealg.MaxLen"], apart := false, narrowed := true }
def FnEditsBetweenSameUptoSaid : Prop := fnEditsBetweenSameUptoRow.holds Try.pinned (OpenSpec.upto fnEditsBetweenSameSpec)

end Rows
end Go.Proofs.Ythlfcfcfipahiaa
