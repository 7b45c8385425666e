/-
  No cell of these rows narrows 'for every input' (looked for: loops, veiled, ifaces, maps, wideKeys, modest, calm, conditions, laid).
  DERIVED. THE GIVEN ROWS OF THIS SEAT. 3 by the template 'for every input the law returns true; each argument reads behind the call as it read before'; 0 by the template 'total and deterministic' (their statements: YtghdgncfcfdlfaaTotals.lean).
  GIVEN WITH THE SEED: the statements are not yours to turn. If you find one false, say at which input.
  Laid BY PROGRAM, IN A SANDBOX (cutbox-rows.mjs): the forced cells as the released guide's own fill.sh prints them over the translation bad4daa09fce4046… (all of the seat's roots in one cut). By AI agents, Wed Nov 11 2026. No macro, syntax, notation, axiom, sorry.
-/
import Derived.Test.YtghdgncfcfdlfaaChecked
import GoSem.Claim
import GoSem.ClaimJoined
import GoSem.ClaimMapViews
import Derived.JoinedTies
import Derived.KernelRfl
namespace Go.Proofs.Ytghdgncfcfdlfaa
/- THE CELL 'sum', in the pinned program and in every row, IS THE sha256 OF THE DUMP (.gsa) THAT YtghdgncfcfdlfaaProg.lean LOADS. Nothing in Lean hashes anything: it is a label: what it is worth is what the hold of that sum in a sandbox is worth. -/
noncomputable def Try.pinned : Pinned := { name := "ytghdgncfcfdlfaa", sum := "bad4daa09fce40463eea7a2358251a2f7372ed2deca7b727599367bdbe81ab4a", checked := Try.checked }
namespace Rows
def none {H : Type} : Left H := { results := [], args := [] }

/-- 'laws.FnExactEditsBetween': WHATEVER THE INPUT: true; the input reads as it did. -/
def fnExactEditsBetweenSpec : ChangeSpec := { name := "fnExactEditsBetween", fn := fun _ => fun
  | [d1, d2] => { results := [.lit (.bool true)], args := [d1, d2] }
  | _ => none }
def fnExactEditsBetweenRow : OpenClaim := { program := "ytghdgncfcfdlfaa", sum := "bad4daa09fce40463eea7a2358251a2f7372ed2deca7b727599367bdbe81ab4a", func := "loop.example/treelocks/laws.FnExactEditsBetween", spec := "fnExactEditsBetween", inPlace := ["internal/bytealg.abigen_runtime_cmpstring", "internal/abi.NoEscape", "internal/bytealg.IndexByteString", "internal/bytealg.IndexString"], unfollowed := true, recurses := true, named := ["internal/bytealg.MaxLen"], apart := false }
def FnExactEditsBetweenSaid : Prop := fnExactEditsBetweenRow.holds Try.pinned (OpenSpec.ofChange fnExactEditsBetweenSpec)

/-- ITS FALSE NEIGHBOUR: 'it returns false'. Refute it at one input. -/
def fnExactEditsBetweenWrong : ChangeSpec := { name := "fnExactEditsBetween", fn := fun _ => fun
  | [d1, d2] => { results := [.lit (.bool false)], args := [d1, d2] }
  | _ => none }
def FnExactEditsBetweenWrongFalsely : Prop := fnExactEditsBetweenRow.holds Try.pinned (OpenSpec.ofChange fnExactEditsBetweenWrong)

/-- 'laws.FnEditsBetween': WHATEVER THE INPUT: true; the input reads as it did. -/
def fnEditsBetweenSpec : ChangeSpec := { name := "fnEditsBetween", fn := fun _ => fun
  | [d] => { results := [.lit (.bool true)], args := [d] }
  | _ => none }
def fnEditsBetweenRow : OpenClaim := { program := "ytghdgncfcfdlfaa", sum := "bad4daa09fce40463eea7a2358251a2f7372ed2deca7b727599367bdbe81ab4a", func := "loop.example/treelocks/laws.FnEditsBetween", spec := "fnEditsBetween", inPlace := ["internal/bytealg.abigen_runtime_cmpstring", "internal/abi.NoEscape", "internal/bytealg.IndexByteString", "internal/bytealg.IndexString"], unfollowed := true, recurses := true, named := ["internal/bytealg.MaxLen"], apart := false }
def FnEditsBetweenSaid : Prop := fnEditsBetweenRow.holds Try.pinned (OpenSpec.ofChange fnEditsBetweenSpec)

/-- ITS FALSE NEIGHBOUR: 'it returns false'. Refute it at one input. -/
def fnEditsBetweenWrong : ChangeSpec := { name := "fnEditsBetween", fn := fun _ => fun
  | [d] => { results := [.lit (.bool false)], args := [d] }
  | _ => none }
def FnEditsBetweenWrongFalsely : Prop := fnEditsBetweenRow.holds Try.pinned (OpenSpec.ofChange fnEditsBetweenWrong)

/-- 'laws.FnEditsBetweenBack': WHATEVER THE INPUT: true; the input reads as it did. -/
def fnEditsBetweenBackSpec : ChangeSpec := { name := "fnEditsBetweenBack", fn := fun _ => fun
  | [d] => { results := [.lit (.bool true)], args := [d] }
  | _ => none }
def fnEditsBetweenBackRow : OpenClaim := { program := "ytghdgncfcfdlfaa", sum := "bad4daa09fce40463eea7a2358251a2f7372ed2deca7b727599367bdbe81ab4a", func := "loop.example/treelocks/laws.FnEditsBetweenBack", spec := "fnEditsBetweenBack", inPlace := ["internal/bytealg.abigen_runtime_cmpstring", "internal/abi.NoEscape", "internal/bytealg.IndexByteString", "internal/bytealg.IndexString"], unfollowed := true, recurses := true, named := ["internal/bytealg.MaxLen"], apart := false }
def FnEditsBetweenBackSaid : Prop := fnEditsBetweenBackRow.holds Try.pinned (OpenSpec.ofChange fnEditsBetweenBackSpec)

/-- ITS FALSE NEIGHBOUR: 'it returns false'. Refute it at one input. -/
def fnEditsBetweenBackWrong : ChangeSpec := { name := "fnEditsBetweenBack", fn := fun _ => fun
  | [d] => { results := [.lit (.bool false)], args := [d] }
  | _ => none }
def FnEditsBetweenBackWrongFalsely : Prop := fnEditsBetweenBackRow.holds Try.pinned (OpenSpec.ofChange fnEditsBetweenBackWrong)

/- THE SECOND FORM. 'bulk': how many values and letters a reading holds, each counted each time it is reached (what is shared counts as often as it is met; a slice's spare places count too). A statement '..UptoSaid' is the law's where the arguments, and the package variables that the reading takes, are together of bulk at most 1048576: NARROWER than '..Said'. Prove '..Said' where nothing that the law and all that it calls make is longer than what came in: it says more and counts as full. Else prove '..UptoSaid'. A law counts once. -/
mutual
def uptoBulk {H : Type} : DataW H → Nat
  | .lit (.string bytes) => bytes.length + 1
  | .lit _ => 1
  | .nil => 1
  | .ptr d => uptoBulk d + 1
  | .slice elems spare => uptoBulkAll elems + uptoBulkAll spare + 1
  | .agg parts => uptoBulkAll parts + 1
  | .iface _ d => uptoBulk d + 1
  | .map entries => uptoBulkEntries entries + 1
  | .held _ => 1
def uptoBulkAll {H : Type} : List (DataW H) → Nat
  | [] => 0
  | d :: r => uptoBulk d + uptoBulkAll r
def uptoBulkEntries {H : Type} : List (Lit × DataW H) → Nat
  | [] => 0
  | x :: r => uptoBulkEntry x + uptoBulkEntries r
def uptoBulkEntry {H : Type} : Lit × DataW H → Nat
  | (.string bytes, d) => bytes.length + uptoBulk d + 1
  | (_, d) => uptoBulk d + 1
 end
def uptoSmall : (H : Type) → List (DataW H) → Bool := fun _ ds => decide (uptoBulkAll ds ≤ 1048576)
def OpenSpec.upto (s : _root_.Go.ChangeSpec) : _root_.Go.OpenSpec := { _root_.Go.OpenSpec.ofChange s with cond := some uptoSmall }

/-- 'laws.FnExactEditsBetween', WHERE WHAT IT READS IS OF BULK AT MOST 1048576: true; the input reads as it did. -/
def fnExactEditsBetweenUptoRow : OpenClaim := { program := "ytghdgncfcfdlfaa", sum := "bad4daa09fce40463eea7a2358251a2f7372ed2deca7b727599367bdbe81ab4a", func := "loop.example/treelocks/laws.FnExactEditsBetween", spec := "fnExactEditsBetween", inPlace := ["internal/bytealg.abigen_runtime_cmpstring", "internal/abi.NoEscape", "internal/bytealg.IndexByteString", "internal/bytealg.IndexString"], unfollowed := true, recurses := true, named := ["internal/bytealg.MaxLen"], apart := false, narrowed := true }
def FnExactEditsBetweenUptoSaid : Prop := fnExactEditsBetweenUptoRow.holds Try.pinned (OpenSpec.upto fnExactEditsBetweenSpec)

/-- 'laws.FnEditsBetween', WHERE WHAT IT READS IS OF BULK AT MOST 1048576: true; the input reads as it did. -/
def fnEditsBetweenUptoRow : OpenClaim := { program := "ytghdgncfcfdlfaa", sum := "bad4daa09fce40463eea7a2358251a2f7372ed2deca7b727599367bdbe81ab4a", func := "loop.example/treelocks/laws.FnEditsBetween", spec := "fnEditsBetween", inPlace := ["internal/bytealg.abigen_runtime_cmpstring", "internal/abi.NoEscape", "internal/bytealg.IndexByteString", "internal/bytealg.IndexString"], unfollowed := true, recurses := true, named := ["internal/bytealg.MaxLen"], apart := false, narrowed := true }
def FnEditsBetweenUptoSaid : Prop := fnEditsBetweenUptoRow.holds Try.pinned (OpenSpec.upto fnEditsBetweenSpec)

/-- 'laws.FnEditsBetweenBack', WHERE WHAT IT READS IS OF BULK AT MOST 1048576: true; the input reads as it did. -/
def fnEditsBetweenBackUptoRow : OpenClaim := { program := "ytghdgncfcfdlfaa", sum := "bad4daa09fce40463eea7a2358251a2f7372ed2deca7b727599367bdbe81ab4a", func := "loop.example/treelocks/laws.FnEditsBetweenBack", spec := "fnEditsBetweenBack", inPlace := ["internal/bytealg.abigen_runtime_cmpstring", "internal/abi.NoEscape", "internal/bytealg.IndexByteString", "internal/bytealg.IndexString"], unfollowed := true, recurses := true, named := ["internal/bytealg.MaxLen"], apart := false, narrowed := true }
def FnEditsBetweenBackUptoSaid : Prop := fnEditsBetweenBackUptoRow.holds Try.pinned (OpenSpec.upto fnEditsBetweenBackSpec)

end Rows
end Go.Proofs.Ytghdgncfcfdlfaa
