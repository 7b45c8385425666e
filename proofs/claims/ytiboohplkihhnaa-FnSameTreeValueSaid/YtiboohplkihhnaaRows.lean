/-
  No cell of these rows narrows 'for every input' (looked for: loops, veiled, ifaces, maps, wideKeys, modest, calm, conditions, laid).
  DERIVED. THE GIVEN ROWS OF THIS SEAT. 4 by the template 'for every input the law returns true; each argument reads behind the call as it read before'; 0 by the template 'total and deterministic' (their statements: YtiboohplkihhnaaTotals.lean).
  GIVEN WITH THE SEED: the statements are not yours to turn. If you find one false, say at which input.
  Laid BY PROGRAM, IN A SANDBOX (cutbox-rows.mjs): the forced cells as the released guide's own fill.sh prints them over the translation 351880b5edd773a1… (all of the seat's roots in one cut). By AI agents, Wed Nov 11 2026. No macro, syntax, notation, axiom, sorry.
-/
import Derived.Test.YtiboohplkihhnaaChecked
import GoSem.Claim
import GoSem.ClaimJoined
import GoSem.ClaimMapViews
import Derived.JoinedTies
import Derived.KernelRfl
namespace Go.Proofs.Ytiboohplkihhnaa
/- THE CELL 'sum', in the pinned program and in every row, IS THE sha256 OF THE DUMP (.gsa) THAT YtiboohplkihhnaaProg.lean LOADS. Nothing in Lean hashes anything: it is a label: what it is worth is what the hold of that sum in a sandbox is worth. -/
noncomputable def Try.pinned : Pinned := { name := "ytiboohplkihhnaa", sum := "351880b5edd773a176da8b5c361f5bd080bbe56955e26f870808f0188b96d0e0", checked := Try.checked }
namespace Rows
def none {H : Type} : Left H := { results := [], args := [] }

/-- 'laws.FnExactSameTree': WHATEVER THE INPUT: true; the input reads as it did. -/
def fnExactSameTreeSpec : ChangeSpec := { name := "fnExactSameTree", fn := fun _ => fun
  | [d1, d2] => { results := [.lit (.bool true)], args := [d1, d2] }
  | _ => none }
def fnExactSameTreeRow : OpenClaim := { program := "ytiboohplkihhnaa", sum := "351880b5edd773a176da8b5c361f5bd080bbe56955e26f870808f0188b96d0e0", func := "loop.example/treelocks/laws.FnExactSameTree", spec := "fnExactSameTree", inPlace := ["internal/abi.NoEscape", "internal/bytealg.IndexByteString", "internal/bytealg.IndexString"], recurses := true, named := ["internal/bytealg.MaxLen"], apart := false }
def FnExactSameTreeSaid : Prop := fnExactSameTreeRow.holds Try.pinned (OpenSpec.ofChange fnExactSameTreeSpec)

/-- ITS FALSE NEIGHBOUR: 'it returns false'. Refute it at one input. -/
def fnExactSameTreeWrong : ChangeSpec := { name := "fnExactSameTree", fn := fun _ => fun
  | [d1, d2] => { results := [.lit (.bool false)], args := [d1, d2] }
  | _ => none }
def FnExactSameTreeWrongFalsely : Prop := fnExactSameTreeRow.holds Try.pinned (OpenSpec.ofChange fnExactSameTreeWrong)

/-- 'laws.FnSameTree': WHATEVER THE INPUT: true; the input reads as it did. -/
def fnSameTreeSpec : ChangeSpec := { name := "fnSameTree", fn := fun _ => fun
  | [d] => { results := [.lit (.bool true)], args := [d] }
  | _ => none }
def fnSameTreeRow : OpenClaim := { program := "ytiboohplkihhnaa", sum := "351880b5edd773a176da8b5c361f5bd080bbe56955e26f870808f0188b96d0e0", func := "loop.example/treelocks/laws.FnSameTree", spec := "fnSameTree", inPlace := ["internal/abi.NoEscape", "internal/bytealg.IndexByteString", "internal/bytealg.IndexString"], recurses := true, named := ["internal/bytealg.MaxLen"], apart := false }
def FnSameTreeSaid : Prop := fnSameTreeRow.holds Try.pinned (OpenSpec.ofChange fnSameTreeSpec)

/-- ITS FALSE NEIGHBOUR: 'it returns false'. Refute it at one input. -/
def fnSameTreeWrong : ChangeSpec := { name := "fnSameTree", fn := fun _ => fun
  | [d] => { results := [.lit (.bool false)], args := [d] }
  | _ => none }
def FnSameTreeWrongFalsely : Prop := fnSameTreeRow.holds Try.pinned (OpenSpec.ofChange fnSameTreeWrong)

/-- 'laws.FnSameTreePaths': WHATEVER THE INPUT: true; the input reads as it did. -/
def fnSameTreePathsSpec : ChangeSpec := { name := "fnSameTreePaths", fn := fun _ => fun
  | [d] => { results := [.lit (.bool true)], args := [d] }
  | _ => none }
def fnSameTreePathsRow : OpenClaim := { program := "ytiboohplkihhnaa", sum := "351880b5edd773a176da8b5c361f5bd080bbe56955e26f870808f0188b96d0e0", func := "loop.example/treelocks/laws.FnSameTreePaths", spec := "fnSameTreePaths", inPlace := ["internal/abi.NoEscape", "internal/bytealg.IndexByteString", "internal/bytealg.IndexString"], recurses := true, named := ["internal/bytealg.MaxLen"], apart := false }
def FnSameTreePathsSaid : Prop := fnSameTreePathsRow.holds Try.pinned (OpenSpec.ofChange fnSameTreePathsSpec)

/-- ITS FALSE NEIGHBOUR: 'it returns false'. Refute it at one input. -/
def fnSameTreePathsWrong : ChangeSpec := { name := "fnSameTreePaths", fn := fun _ => fun
  | [d] => { results := [.lit (.bool false)], args := [d] }
  | _ => none }
def FnSameTreePathsWrongFalsely : Prop := fnSameTreePathsRow.holds Try.pinned (OpenSpec.ofChange fnSameTreePathsWrong)

/-- 'laws.FnSameTreeValue': WHATEVER THE INPUT: true; the input reads as it did. -/
def fnSameTreeValueSpec : ChangeSpec := { name := "fnSameTreeValue", fn := fun _ => fun
  | [d] => { results := [.lit (.bool true)], args := [d] }
  | _ => none }
def fnSameTreeValueRow : OpenClaim := { program := "ytiboohplkihhnaa", sum := "351880b5edd773a176da8b5c361f5bd080bbe56955e26f870808f0188b96d0e0", func := "loop.example/treelocks/laws.FnSameTreeValue", spec := "fnSameTreeValue", inPlace := ["internal/abi.NoEscape", "internal/bytealg.IndexByteString", "internal/bytealg.IndexString"], recurses := true, named := ["internal/bytealg.MaxLen"], apart := false }
def FnSameTreeValueSaid : Prop := fnSameTreeValueRow.holds Try.pinned (OpenSpec.ofChange fnSameTreeValueSpec)

/-- ITS FALSE NEIGHBOUR: 'it returns false'. Refute it at one input. -/
def fnSameTreeValueWrong : ChangeSpec := { name := "fnSameTreeValue", fn := fun _ => fun
  | [d] => { results := [.lit (.bool false)], args := [d] }
  | _ => none }
def FnSameTreeValueWrongFalsely : Prop := fnSameTreeValueRow.holds Try.pinned (OpenSpec.ofChange fnSameTreeValueWrong)

/- THE SECOND FORM. 'bulk': how many values and letters a reading holds, each counted each time it is reached (what is shared counts as often as it is met; a slice's spare places count too). A statement '..UptoSaid' is the law's where the arguments, and the package variables that the reading takes, are together of bulk at most 1048576: NARROWER than '..Said'. Prove '..Said' where nothing that the law and all that it calls make is longer than what came in: it says more and counts as full. Else prove '..UptoSaid'. A law counts once. -/
mutual
def uptoBulk {H : Type} : DataW H → Nat
  | .lit (.string bytes) => bytes.length + 1
  | .lit _ => 1
  | .nil => 1
  | .ptr d => uptoBulk d + 1
  | .slice elems spare => uptoBulkAll elems + uptoBulkAll spare + 1
  | .agg parts => uptoBulkAll parts + 1
  | .iface _ d => uptoBulk d + 1
  | .map entries => uptoBulkEntries entries + 1
  | .held _ => 1
def uptoBulkAll {H : Type} : List (DataW H) → Nat
  | [] => 0
  | d :: r => uptoBulk d + uptoBulkAll r
def uptoBulkEntries {H : Type} : List (Lit × DataW H) → Nat
  | [] => 0
  | x :: r => uptoBulkEntry x + uptoBulkEntries r
def uptoBulkEntry {H : Type} : Lit × DataW H → Nat
  | (.string bytes, d) => bytes.length + uptoBulk d + 1
  | (_, d) => uptoBulk d + 1
 end
def uptoSmall : (H : Type) → List (DataW H) → Bool := fun _ ds => decide (uptoBulkAll ds ≤ 1048576)
def OpenSpec.upto (s : _root_.Go.ChangeSpec) : _root_.Go.OpenSpec := { _root_.Go.OpenSpec.ofChange s with cond := some uptoSmall }

/-- 'laws.FnExactSameTree', WHERE WHAT IT READS IS OF BULK AT MOST 1048576: true; the input reads as it did. -/
def fnExactSameTreeUptoRow : OpenClaim := { program := "ytiboohplkihhnaa", sum := "351880b5edd773a176da8b5c361f5bd080bbe56955e26f870808f0188b96d0e0", func := "loop.example/treelocks/laws.FnExactSameTree", spec := "fnExactSameTree", inPlace := ["internal/abi.NoEscape", "internal/bytealg.IndexByteString", "internal/bytealg.IndexString"], recurses := true, named := ["internal/bytealg.MaxLen"], apart := false, narrowed := true }
def FnExactSameTreeUptoSaid : Prop := fnExactSameTreeUptoRow.holds Try.pinned (OpenSpec.upto fnExactSameTreeSpec)

/-- 'laws.FnSameTree', WHERE WHAT IT READS IS OF BULK AT MOST 1048576: true; the input reads as it did. -/
def fnSameTreeUptoRow : OpenClaim := { program := "ytiboohplkihhnaa", sum := "351880b5edd773a176da8b5c361f5bd080bbe56955e26f870808f0188b96d0e0", func := "loop.example/treelocks/laws.FnSameTree", spec := "fnSameTree", inPlace := ["internal/abi.NoEscape", "internal/bytealg.IndexByteString", "internal/bytealg.IndexString"], recurses := true, named := ["internal/bytealg.MaxLen"], apart := false, narrowed := true }
def FnSameTreeUptoSaid : Prop := fnSameTreeUptoRow.holds Try.pinned (OpenSpec.upto fnSameTreeSpec)

/-- 'laws.FnSameTreePaths', WHERE WHAT IT READS IS OF BULK AT MOST 1048576: true; the input reads as it did. -/
def fnSameTreePathsUptoRow : OpenClaim := { program := "ytiboohplkihhnaa", sum := "351880b5edd773a176da8b5c361f5bd080bbe56955e26f870808f0188b96d0e0", func := "loop.example/treelocks/laws.FnSameTreePaths", spec := "fnSameTreePaths", inPlace := ["internal/abi.NoEscape", "internal/bytealg.IndexByteString", "internal/bytealg.IndexString"], recurses := true, named := ["internal/bytealg.MaxLen"], apart := false, narrowed := true }
def FnSameTreePathsUptoSaid : Prop := fnSameTreePathsUptoRow.holds Try.pinned (OpenSpec.upto fnSameTreePathsSpec)

/-- 'laws.FnSameTreeValue', WHERE WHAT IT READS IS OF BULK AT MOST 1048576: true; the input reads as it did. -/
def fnSameTreeValueUptoRow : OpenClaim := { program := "ytiboohplkihhnaa", sum := "351880b5edd773a176da8b5c361f5bd080bbe56955e26f870808f0188b96d0e0", func := "loop.example/treelocks/laws.FnSameTreeValue", spec := "fnSameTreeValue", inPlace := ["internal/abi.NoEscape", "internal/bytealg.IndexByteString", "internal/bytealg.IndexString"], recurses := true, named := ["internal/bytealg.MaxLen"], apart := false, narrowed := true }
def FnSameTreeValueUptoSaid : Prop := fnSameTreeValueUptoRow.holds Try.pinned (OpenSpec.upto fnSameTreeValueSpec)

end Rows
end Go.Proofs.Ytiboohplkihhnaa
