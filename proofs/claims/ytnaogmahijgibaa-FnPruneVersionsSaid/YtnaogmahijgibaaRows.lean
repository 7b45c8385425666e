/-
  No cell of these rows narrows 'for every input' (looked for: loops, veiled, ifaces, maps, wideKeys, modest, calm, conditions, laid).
  DERIVED. THE GIVEN ROWS OF THIS SEAT. 14 by the template 'for every input the law returns true; each argument reads behind the call as it read before'; 0 by the template 'total and deterministic' (their statements: YtnaogmahijgibaaTotals.lean).
  GIVEN WITH THE SEED: the statements are not yours to turn. If you find one false, say at which input.
  Laid BY PROGRAM, IN A SANDBOX (cutbox-rows.mjs): the forced cells as the released guide's own fill.sh prints them over the translation 8f609e1880b1abd0… (all of the seat's roots in one cut). By AI agents, Wed Nov 11 2026. No macro, syntax, notation, axiom, sorry.
-/
import Derived.Test.YtnaogmahijgibaaChecked
import GoSem.Claim
import GoSem.ClaimJoined
import GoSem.ClaimMapViews
import Derived.JoinedTies
import Derived.KernelRfl
namespace Go.Proofs.Ytnaogmahijgibaa
/- THE CELL 'sum', in the pinned program and in every row, IS THE sha256 OF THE DUMP (.gsa) THAT YtnaogmahijgibaaProg.lean LOADS. Nothing in Lean hashes anything: it is a label: what it is worth is what the hold of that sum in a sandbox is worth. -/
noncomputable def Try.pinned : Pinned := { name := "ytnaogmahijgibaa", sum := "8f609e1880b1abd0dcef40b2fd98beaf0b0457b8f1475f20dca7f6980d59b56d", checked := Try.checked }
namespace Rows
def none {H : Type} : Left H := { results := [], args := [] }

/-- 'laws.FnExactValidVersions': WHATEVER THE INPUT: true; the input reads as it did. -/
def fnExactValidVersionsSpec : ChangeSpec := { name := "fnExactValidVersions", fn := fun _ => fun
  | [d] => { results := [.lit (.bool true)], args := [d] }
  | _ => none }
def fnExactValidVersionsRow : OpenClaim := { program := "ytnaogmahijgibaa", sum := "8f609e1880b1abd0dcef40b2fd98beaf0b0457b8f1475f20dca7f6980d59b56d", func := "loop.example/treelocks/laws.FnExactValidVersions", spec := "fnExactValidVersions", apart := false }
def FnExactValidVersionsSaid : Prop := fnExactValidVersionsRow.holds Try.pinned (OpenSpec.ofChange fnExactValidVersionsSpec)

/-- ITS FALSE NEIGHBOUR: 'it returns false'. Refute it at one input. -/
def fnExactValidVersionsWrong : ChangeSpec := { name := "fnExactValidVersions", fn := fun _ => fun
  | [d] => { results := [.lit (.bool false)], args := [d] }
  | _ => none }
def FnExactValidVersionsWrongFalsely : Prop := fnExactValidVersionsRow.holds Try.pinned (OpenSpec.ofChange fnExactValidVersionsWrong)

/-- 'laws.FnValidVersions': WHATEVER THE INPUT: true; the input reads as it did. -/
def fnValidVersionsSpec : ChangeSpec := { name := "fnValidVersions", fn := fun _ => fun
  | [d] => { results := [.lit (.bool true)], args := [d] }
  | _ => none }
def fnValidVersionsRow : OpenClaim := { program := "ytnaogmahijgibaa", sum := "8f609e1880b1abd0dcef40b2fd98beaf0b0457b8f1475f20dca7f6980d59b56d", func := "loop.example/treelocks/laws.FnValidVersions", spec := "fnValidVersions", apart := false }
def FnValidVersionsSaid : Prop := fnValidVersionsRow.holds Try.pinned (OpenSpec.ofChange fnValidVersionsSpec)

/-- ITS FALSE NEIGHBOUR: 'it returns false'. Refute it at one input. -/
def fnValidVersionsWrong : ChangeSpec := { name := "fnValidVersions", fn := fun _ => fun
  | [d] => { results := [.lit (.bool false)], args := [d] }
  | _ => none }
def FnValidVersionsWrongFalsely : Prop := fnValidVersionsRow.holds Try.pinned (OpenSpec.ofChange fnValidVersionsWrong)

/-- 'laws.FnValidVersionsTime': WHATEVER THE INPUT: true; the input reads as it did. -/
def fnValidVersionsTimeSpec : ChangeSpec := { name := "fnValidVersionsTime", fn := fun _ => fun
  | [d] => { results := [.lit (.bool true)], args := [d] }
  | _ => none }
def fnValidVersionsTimeRow : OpenClaim := { program := "ytnaogmahijgibaa", sum := "8f609e1880b1abd0dcef40b2fd98beaf0b0457b8f1475f20dca7f6980d59b56d", func := "loop.example/treelocks/laws.FnValidVersionsTime", spec := "fnValidVersionsTime", apart := false }
def FnValidVersionsTimeSaid : Prop := fnValidVersionsTimeRow.holds Try.pinned (OpenSpec.ofChange fnValidVersionsTimeSpec)

/-- ITS FALSE NEIGHBOUR: 'it returns false'. Refute it at one input. -/
def fnValidVersionsTimeWrong : ChangeSpec := { name := "fnValidVersionsTime", fn := fun _ => fun
  | [d] => { results := [.lit (.bool false)], args := [d] }
  | _ => none }
def FnValidVersionsTimeWrongFalsely : Prop := fnValidVersionsTimeRow.holds Try.pinned (OpenSpec.ofChange fnValidVersionsTimeWrong)

/-- 'laws.FnExactReadAsOf': WHATEVER THE INPUT: true; the input reads as it did. -/
def fnExactReadAsOfSpec : ChangeSpec := { name := "fnExactReadAsOf", fn := fun _ => fun
  | [d1, d2, d3] => { results := [.lit (.bool true)], args := [d1, d2, d3] }
  | _ => none }
def fnExactReadAsOfRow : OpenClaim := { program := "ytnaogmahijgibaa", sum := "8f609e1880b1abd0dcef40b2fd98beaf0b0457b8f1475f20dca7f6980d59b56d", func := "loop.example/treelocks/laws.FnExactReadAsOf", spec := "fnExactReadAsOf", apart := false }
def FnExactReadAsOfSaid : Prop := fnExactReadAsOfRow.holds Try.pinned (OpenSpec.ofChange fnExactReadAsOfSpec)

/-- ITS FALSE NEIGHBOUR: 'it returns false'. Refute it at one input. -/
def fnExactReadAsOfWrong : ChangeSpec := { name := "fnExactReadAsOf", fn := fun _ => fun
  | [d1, d2, d3] => { results := [.lit (.bool false)], args := [d1, d2, d3] }
  | _ => none }
def FnExactReadAsOfWrongFalsely : Prop := fnExactReadAsOfRow.holds Try.pinned (OpenSpec.ofChange fnExactReadAsOfWrong)

/-- 'laws.FnReadAsOf': WHATEVER THE INPUT: true; the input reads as it did. -/
def fnReadAsOfSpec : ChangeSpec := { name := "fnReadAsOf", fn := fun _ => fun
  | [d] => { results := [.lit (.bool true)], args := [d] }
  | _ => none }
def fnReadAsOfRow : OpenClaim := { program := "ytnaogmahijgibaa", sum := "8f609e1880b1abd0dcef40b2fd98beaf0b0457b8f1475f20dca7f6980d59b56d", func := "loop.example/treelocks/laws.FnReadAsOf", spec := "fnReadAsOf", apart := false }
def FnReadAsOfSaid : Prop := fnReadAsOfRow.holds Try.pinned (OpenSpec.ofChange fnReadAsOfSpec)

/-- ITS FALSE NEIGHBOUR: 'it returns false'. Refute it at one input. -/
def fnReadAsOfWrong : ChangeSpec := { name := "fnReadAsOf", fn := fun _ => fun
  | [d] => { results := [.lit (.bool false)], args := [d] }
  | _ => none }
def FnReadAsOfWrongFalsely : Prop := fnReadAsOfRow.holds Try.pinned (OpenSpec.ofChange fnReadAsOfWrong)

/-- 'laws.FnReadAsOfLast': WHATEVER THE INPUT: true; the input reads as it did. -/
def fnReadAsOfLastSpec : ChangeSpec := { name := "fnReadAsOfLast", fn := fun _ => fun
  | [d] => { results := [.lit (.bool true)], args := [d] }
  | _ => none }
def fnReadAsOfLastRow : OpenClaim := { program := "ytnaogmahijgibaa", sum := "8f609e1880b1abd0dcef40b2fd98beaf0b0457b8f1475f20dca7f6980d59b56d", func := "loop.example/treelocks/laws.FnReadAsOfLast", spec := "fnReadAsOfLast", apart := false }
def FnReadAsOfLastSaid : Prop := fnReadAsOfLastRow.holds Try.pinned (OpenSpec.ofChange fnReadAsOfLastSpec)

/-- ITS FALSE NEIGHBOUR: 'it returns false'. Refute it at one input. -/
def fnReadAsOfLastWrong : ChangeSpec := { name := "fnReadAsOfLast", fn := fun _ => fun
  | [d] => { results := [.lit (.bool false)], args := [d] }
  | _ => none }
def FnReadAsOfLastWrongFalsely : Prop := fnReadAsOfLastRow.holds Try.pinned (OpenSpec.ofChange fnReadAsOfLastWrong)

/-- 'laws.FnReadAsOfStay': WHATEVER THE INPUT: true; the input reads as it did. -/
def fnReadAsOfStaySpec : ChangeSpec := { name := "fnReadAsOfStay", fn := fun _ => fun
  | [d] => { results := [.lit (.bool true)], args := [d] }
  | _ => none }
def fnReadAsOfStayRow : OpenClaim := { program := "ytnaogmahijgibaa", sum := "8f609e1880b1abd0dcef40b2fd98beaf0b0457b8f1475f20dca7f6980d59b56d", func := "loop.example/treelocks/laws.FnReadAsOfStay", spec := "fnReadAsOfStay", apart := false }
def FnReadAsOfStaySaid : Prop := fnReadAsOfStayRow.holds Try.pinned (OpenSpec.ofChange fnReadAsOfStaySpec)

/-- ITS FALSE NEIGHBOUR: 'it returns false'. Refute it at one input. -/
def fnReadAsOfStayWrong : ChangeSpec := { name := "fnReadAsOfStay", fn := fun _ => fun
  | [d] => { results := [.lit (.bool false)], args := [d] }
  | _ => none }
def FnReadAsOfStayWrongFalsely : Prop := fnReadAsOfStayRow.holds Try.pinned (OpenSpec.ofChange fnReadAsOfStayWrong)

/-- 'laws.FnAddVersionOld': WHATEVER THE INPUT: true; the input reads as it did. -/
def fnAddVersionOldSpec : ChangeSpec := { name := "fnAddVersionOld", fn := fun _ => fun
  | [d] => { results := [.lit (.bool true)], args := [d] }
  | _ => none }
def fnAddVersionOldRow : OpenClaim := { program := "ytnaogmahijgibaa", sum := "8f609e1880b1abd0dcef40b2fd98beaf0b0457b8f1475f20dca7f6980d59b56d", func := "loop.example/treelocks/laws.FnAddVersionOld", spec := "fnAddVersionOld", apart := false }
def FnAddVersionOldSaid : Prop := fnAddVersionOldRow.holds Try.pinned (OpenSpec.ofChange fnAddVersionOldSpec)

/-- ITS FALSE NEIGHBOUR: 'it returns false'. Refute it at one input. -/
def fnAddVersionOldWrong : ChangeSpec := { name := "fnAddVersionOld", fn := fun _ => fun
  | [d] => { results := [.lit (.bool false)], args := [d] }
  | _ => none }
def FnAddVersionOldWrongFalsely : Prop := fnAddVersionOldRow.holds Try.pinned (OpenSpec.ofChange fnAddVersionOldWrong)

/-- 'laws.FnAddVersion': WHATEVER THE INPUT: true; the input reads as it did. -/
def fnAddVersionSpec : ChangeSpec := { name := "fnAddVersion", fn := fun _ => fun
  | [d] => { results := [.lit (.bool true)], args := [d] }
  | _ => none }
def fnAddVersionRow : OpenClaim := { program := "ytnaogmahijgibaa", sum := "8f609e1880b1abd0dcef40b2fd98beaf0b0457b8f1475f20dca7f6980d59b56d", func := "loop.example/treelocks/laws.FnAddVersion", spec := "fnAddVersion", apart := false }
def FnAddVersionSaid : Prop := fnAddVersionRow.holds Try.pinned (OpenSpec.ofChange fnAddVersionSpec)

/-- ITS FALSE NEIGHBOUR: 'it returns false'. Refute it at one input. -/
def fnAddVersionWrong : ChangeSpec := { name := "fnAddVersion", fn := fun _ => fun
  | [d] => { results := [.lit (.bool false)], args := [d] }
  | _ => none }
def FnAddVersionWrongFalsely : Prop := fnAddVersionRow.holds Try.pinned (OpenSpec.ofChange fnAddVersionWrong)

/-- 'laws.FnExactAddVersion': WHATEVER THE INPUT: true; the input reads as it did. -/
def fnExactAddVersionSpec : ChangeSpec := { name := "fnExactAddVersion", fn := fun _ => fun
  | [d1, d2] => { results := [.lit (.bool true)], args := [d1, d2] }
  | _ => none }
def fnExactAddVersionRow : OpenClaim := { program := "ytnaogmahijgibaa", sum := "8f609e1880b1abd0dcef40b2fd98beaf0b0457b8f1475f20dca7f6980d59b56d", func := "loop.example/treelocks/laws.FnExactAddVersion", spec := "fnExactAddVersion", apart := false }
def FnExactAddVersionSaid : Prop := fnExactAddVersionRow.holds Try.pinned (OpenSpec.ofChange fnExactAddVersionSpec)

/-- ITS FALSE NEIGHBOUR: 'it returns false'. Refute it at one input. -/
def fnExactAddVersionWrong : ChangeSpec := { name := "fnExactAddVersion", fn := fun _ => fun
  | [d1, d2] => { results := [.lit (.bool false)], args := [d1, d2] }
  | _ => none }
def FnExactAddVersionWrongFalsely : Prop := fnExactAddVersionRow.holds Try.pinned (OpenSpec.ofChange fnExactAddVersionWrong)

/-- 'laws.FnPruneVersionsLater': WHATEVER THE INPUT: true; the input reads as it did. -/
def fnPruneVersionsLaterSpec : ChangeSpec := { name := "fnPruneVersionsLater", fn := fun _ => fun
  | [d] => { results := [.lit (.bool true)], args := [d] }
  | _ => none }
def fnPruneVersionsLaterRow : OpenClaim := { program := "ytnaogmahijgibaa", sum := "8f609e1880b1abd0dcef40b2fd98beaf0b0457b8f1475f20dca7f6980d59b56d", func := "loop.example/treelocks/laws.FnPruneVersionsLater", spec := "fnPruneVersionsLater", unfollowed := true, recurses := true, apart := false }
def FnPruneVersionsLaterSaid : Prop := fnPruneVersionsLaterRow.holds Try.pinned (OpenSpec.ofChange fnPruneVersionsLaterSpec)

/-- ITS FALSE NEIGHBOUR: 'it returns false'. Refute it at one input. -/
def fnPruneVersionsLaterWrong : ChangeSpec := { name := "fnPruneVersionsLater", fn := fun _ => fun
  | [d] => { results := [.lit (.bool false)], args := [d] }
  | _ => none }
def FnPruneVersionsLaterWrongFalsely : Prop := fnPruneVersionsLaterRow.holds Try.pinned (OpenSpec.ofChange fnPruneVersionsLaterWrong)

/-- 'laws.FnPruneVersionsTwice': WHATEVER THE INPUT: true; the input reads as it did. -/
def fnPruneVersionsTwiceSpec : ChangeSpec := { name := "fnPruneVersionsTwice", fn := fun _ => fun
  | [d] => { results := [.lit (.bool true)], args := [d] }
  | _ => none }
def fnPruneVersionsTwiceRow : OpenClaim := { program := "ytnaogmahijgibaa", sum := "8f609e1880b1abd0dcef40b2fd98beaf0b0457b8f1475f20dca7f6980d59b56d", func := "loop.example/treelocks/laws.FnPruneVersionsTwice", spec := "fnPruneVersionsTwice", unfollowed := true, recurses := true, apart := false }
def FnPruneVersionsTwiceSaid : Prop := fnPruneVersionsTwiceRow.holds Try.pinned (OpenSpec.ofChange fnPruneVersionsTwiceSpec)

/-- ITS FALSE NEIGHBOUR: 'it returns false'. Refute it at one input. -/
def fnPruneVersionsTwiceWrong : ChangeSpec := { name := "fnPruneVersionsTwice", fn := fun _ => fun
  | [d] => { results := [.lit (.bool false)], args := [d] }
  | _ => none }
def FnPruneVersionsTwiceWrongFalsely : Prop := fnPruneVersionsTwiceRow.holds Try.pinned (OpenSpec.ofChange fnPruneVersionsTwiceWrong)

/-- 'laws.FnExactPruneVersions': WHATEVER THE INPUT: true; the input reads as it did. -/
def fnExactPruneVersionsSpec : ChangeSpec := { name := "fnExactPruneVersions", fn := fun _ => fun
  | [d1, d2] => { results := [.lit (.bool true)], args := [d1, d2] }
  | _ => none }
def fnExactPruneVersionsRow : OpenClaim := { program := "ytnaogmahijgibaa", sum := "8f609e1880b1abd0dcef40b2fd98beaf0b0457b8f1475f20dca7f6980d59b56d", func := "loop.example/treelocks/laws.FnExactPruneVersions", spec := "fnExactPruneVersions", unfollowed := true, recurses := true, apart := false }
def FnExactPruneVersionsSaid : Prop := fnExactPruneVersionsRow.holds Try.pinned (OpenSpec.ofChange fnExactPruneVersionsSpec)

/-- ITS FALSE NEIGHBOUR: 'it returns false'. Refute it at one input. -/
def fnExactPruneVersionsWrong : ChangeSpec := { name := "fnExactPruneVersions", fn := fun _ => fun
  | [d1, d2] => { results := [.lit (.bool false)], args := [d1, d2] }
  | _ => none }
def FnExactPruneVersionsWrongFalsely : Prop := fnExactPruneVersionsRow.holds Try.pinned (OpenSpec.ofChange fnExactPruneVersionsWrong)

/-- 'laws.FnPruneVersions': WHATEVER THE INPUT: true; the input reads as it did. -/
def fnPruneVersionsSpec : ChangeSpec := { name := "fnPruneVersions", fn := fun _ => fun
  | [d] => { results := [.lit (.bool true)], args := [d] }
  | _ => none }
def fnPruneVersionsRow : OpenClaim := { program := "ytnaogmahijgibaa", sum := "8f609e1880b1abd0dcef40b2fd98beaf0b0457b8f1475f20dca7f6980d59b56d", func := "loop.example/treelocks/laws.FnPruneVersions", spec := "fnPruneVersions", unfollowed := true, recurses := true, apart := false }
def FnPruneVersionsSaid : Prop := fnPruneVersionsRow.holds Try.pinned (OpenSpec.ofChange fnPruneVersionsSpec)

/-- ITS FALSE NEIGHBOUR: 'it returns false'. Refute it at one input. -/
def fnPruneVersionsWrong : ChangeSpec := { name := "fnPruneVersions", fn := fun _ => fun
  | [d] => { results := [.lit (.bool false)], args := [d] }
  | _ => none }
def FnPruneVersionsWrongFalsely : Prop := fnPruneVersionsRow.holds Try.pinned (OpenSpec.ofChange fnPruneVersionsWrong)

/- THE SECOND FORM. 'bulk': how many values and letters a reading holds, each counted each time it is reached (what is shared counts as often as it is met; a slice's spare places count too). A statement '..UptoSaid' is the law's where the arguments, and the package variables that the reading takes, are together of bulk at most 1048576: NARROWER than '..Said'. Prove '..Said' where nothing that the law and all that it calls make is longer than what came in: it says more and counts as full. Else prove '..UptoSaid'. A law counts once. -/
mutual
def uptoBulk {H : Type} : DataW H → Nat
  | .lit (.string bytes) => bytes.length + 1
  | .lit _ => 1
  | .nil => 1
  | .ptr d => uptoBulk d + 1
  | .slice elems spare => uptoBulkAll elems + uptoBulkAll spare + 1
  | .agg parts => uptoBulkAll parts + 1
  | .iface _ d => uptoBulk d + 1
  | .map entries => uptoBulkEntries entries + 1
  | .held _ => 1
def uptoBulkAll {H : Type} : List (DataW H) → Nat
  | [] => 0
  | d :: r => uptoBulk d + uptoBulkAll r
def uptoBulkEntries {H : Type} : List (Lit × DataW H) → Nat
  | [] => 0
  | x :: r => uptoBulkEntry x + uptoBulkEntries r
def uptoBulkEntry {H : Type} : Lit × DataW H → Nat
  | (.string bytes, d) => bytes.length + uptoBulk d + 1
  | (_, d) => uptoBulk d + 1
 end
def uptoSmall : (H : Type) → List (DataW H) → Bool := fun _ ds => decide (uptoBulkAll ds ≤ 1048576)
def OpenSpec.upto (s : _root_.Go.ChangeSpec) : _root_.Go.OpenSpec := { _root_.Go.OpenSpec.ofChange s with cond := some uptoSmall }

/-- 'laws.FnExactValidVersions', WHERE WHAT IT READS IS OF BULK AT MOST 1048576: true; the input reads as it did. -/
def fnExactValidVersionsUptoRow : OpenClaim := { program := "ytnaogmahijgibaa", sum := "8f609e1880b1abd0dcef40b2fd98beaf0b0457b8f1475f20dca7f6980d59b56d", func := "loop.example/treelocks/laws.FnExactValidVersions", spec := "fnExactValidVersions", apart := false, narrowed := true }
def FnExactValidVersionsUptoSaid : Prop := fnExactValidVersionsUptoRow.holds Try.pinned (OpenSpec.upto fnExactValidVersionsSpec)

/-- 'laws.FnValidVersions', WHERE WHAT IT READS IS OF BULK AT MOST 1048576: true; the input reads as it did. -/
def fnValidVersionsUptoRow : OpenClaim := { program := "ytnaogmahijgibaa", sum := "8f609e1880b1abd0dcef40b2fd98beaf0b0457b8f1475f20dca7f6980d59b56d", func := "loop.example/treelocks/laws.FnValidVersions", spec := "fnValidVersions", apart := false, narrowed := true }
def FnValidVersionsUptoSaid : Prop := fnValidVersionsUptoRow.holds Try.pinned (OpenSpec.upto fnValidVersionsSpec)

/-- 'laws.FnValidVersionsTime', WHERE WHAT IT READS IS OF BULK AT MOST 1048576: true; the input reads as it did. -/
def fnValidVersionsTimeUptoRow : OpenClaim := { program := "ytnaogmahijgibaa", sum := "8f609e1880b1abd0dcef40b2fd98beaf0b0457b8f1475f20dca7f6980d59b56d", func := "loop.example/treelocks/laws.FnValidVersionsTime", spec := "fnValidVersionsTime", apart := false, narrowed := true }
def FnValidVersionsTimeUptoSaid : Prop := fnValidVersionsTimeUptoRow.holds Try.pinned (OpenSpec.upto fnValidVersionsTimeSpec)

/-- 'laws.FnExactReadAsOf', WHERE WHAT IT READS IS OF BULK AT MOST 1048576: true; the input reads as it did. -/
def fnExactReadAsOfUptoRow : OpenClaim := { program := "ytnaogmahijgibaa", sum := "8f609e1880b1abd0dcef40b2fd98beaf0b0457b8f1475f20dca7f6980d59b56d", func := "loop.example/treelocks/laws.FnExactReadAsOf", spec := "fnExactReadAsOf", apart := false, narrowed := true }
def FnExactReadAsOfUptoSaid : Prop := fnExactReadAsOfUptoRow.holds Try.pinned (OpenSpec.upto fnExactReadAsOfSpec)

/-- 'laws.FnReadAsOf', WHERE WHAT IT READS IS OF BULK AT MOST 1048576: true; the input reads as it did. -/
def fnReadAsOfUptoRow : OpenClaim := { program := "ytnaogmahijgibaa", sum := "8f609e1880b1abd0dcef40b2fd98beaf0b0457b8f1475f20dca7f6980d59b56d", func := "loop.example/treelocks/laws.FnReadAsOf", spec := "fnReadAsOf", apart := false, narrowed := true }
def FnReadAsOfUptoSaid : Prop := fnReadAsOfUptoRow.holds Try.pinned (OpenSpec.upto fnReadAsOfSpec)

/-- 'laws.FnReadAsOfLast', WHERE WHAT IT READS IS OF BULK AT MOST 1048576: true; the input reads as it did. -/
def fnReadAsOfLastUptoRow : OpenClaim := { program := "ytnaogmahijgibaa", sum := "8f609e1880b1abd0dcef40b2fd98beaf0b0457b8f1475f20dca7f6980d59b56d", func := "loop.example/treelocks/laws.FnReadAsOfLast", spec := "fnReadAsOfLast", apart := false, narrowed := true }
def FnReadAsOfLastUptoSaid : Prop := fnReadAsOfLastUptoRow.holds Try.pinned (OpenSpec.upto fnReadAsOfLastSpec)

/-- 'laws.FnReadAsOfStay', WHERE WHAT IT READS IS OF BULK AT MOST 1048576: true; the input reads as it did. -/
def fnReadAsOfStayUptoRow : OpenClaim := { program := "ytnaogmahijgibaa", sum := "8f609e1880b1abd0dcef40b2fd98beaf0b0457b8f1475f20dca7f6980d59b56d", func := "loop.example/treelocks/laws.FnReadAsOfStay", spec := "fnReadAsOfStay", apart := false, narrowed := true }
def FnReadAsOfStayUptoSaid : Prop := fnReadAsOfStayUptoRow.holds Try.pinned (OpenSpec.upto fnReadAsOfStaySpec)

/-- 'laws.FnAddVersionOld', WHERE WHAT IT READS IS OF BULK AT MOST 1048576: true; the input reads as it did. -/
def fnAddVersionOldUptoRow : OpenClaim := { program := "ytnaogmahijgibaa", sum := "8f609e1880b1abd0dcef40b2fd98beaf0b0457b8f1475f20dca7f6980d59b56d", func := "loop.example/treelocks/laws.FnAddVersionOld", spec := "fnAddVersionOld", apart := false, narrowed := true }
def FnAddVersionOldUptoSaid : Prop := fnAddVersionOldUptoRow.holds Try.pinned (OpenSpec.upto fnAddVersionOldSpec)

/-- 'laws.FnAddVersion', WHERE WHAT IT READS IS OF BULK AT MOST 1048576: true; the input reads as it did. -/
def fnAddVersionUptoRow : OpenClaim := { program := "ytnaogmahijgibaa", sum := "8f609e1880b1abd0dcef40b2fd98beaf0b0457b8f1475f20dca7f6980d59b56d", func := "loop.example/treelocks/laws.FnAddVersion", spec := "fnAddVersion", apart := false, narrowed := true }
def FnAddVersionUptoSaid : Prop := fnAddVersionUptoRow.holds Try.pinned (OpenSpec.upto fnAddVersionSpec)

/-- 'laws.FnExactAddVersion', WHERE WHAT IT READS IS OF BULK AT MOST 1048576: true; the input reads as it did. -/
def fnExactAddVersionUptoRow : OpenClaim := { program := "ytnaogmahijgibaa", sum := "8f609e1880b1abd0dcef40b2fd98beaf0b0457b8f1475f20dca7f6980d59b56d", func := "loop.example/treelocks/laws.FnExactAddVersion", spec := "fnExactAddVersion", apart := false, narrowed := true }
def FnExactAddVersionUptoSaid : Prop := fnExactAddVersionUptoRow.holds Try.pinned (OpenSpec.upto fnExactAddVersionSpec)

/-- 'laws.FnPruneVersionsLater', WHERE WHAT IT READS IS OF BULK AT MOST 1048576: true; the input reads as it did. -/
def fnPruneVersionsLaterUptoRow : OpenClaim := { program := "ytnaogmahijgibaa", sum := "8f609e1880b1abd0dcef40b2fd98beaf0b0457b8f1475f20dca7f6980d59b56d", func := "loop.example/treelocks/laws.FnPruneVersionsLater", spec := "fnPruneVersionsLater", unfollowed := true, recurses := true, apart := false, narrowed := true }
def FnPruneVersionsLaterUptoSaid : Prop := fnPruneVersionsLaterUptoRow.holds Try.pinned (OpenSpec.upto fnPruneVersionsLaterSpec)

/-- 'laws.FnPruneVersionsTwice', WHERE WHAT IT READS IS OF BULK AT MOST 1048576: true; the input reads as it did. -/
def fnPruneVersionsTwiceUptoRow : OpenClaim := { program := "ytnaogmahijgibaa", sum := "8f609e1880b1abd0dcef40b2fd98beaf0b0457b8f1475f20dca7f6980d59b56d", func := "loop.example/treelocks/laws.FnPruneVersionsTwice", spec := "fnPruneVersionsTwice", unfollowed := true, recurses := true, apart := false, narrowed := true }
def FnPruneVersionsTwiceUptoSaid : Prop := fnPruneVersionsTwiceUptoRow.holds Try.pinned (OpenSpec.upto fnPruneVersionsTwiceSpec)

/-- 'laws.FnExactPruneVersions', WHERE WHAT IT READS IS OF BULK AT MOST 1048576: true; the input reads as it did. -/
def fnExactPruneVersionsUptoRow : OpenClaim := { program := "ytnaogmahijgibaa", sum := "8f609e1880b1abd0dcef40b2fd98beaf0b0457b8f1475f20dca7f6980d59b56d", func := "loop.example/treelocks/laws.FnExactPruneVersions", spec := "fnExactPruneVersions", unfollowed := true, recurses := true, apart := false, narrowed := true }
def FnExactPruneVersionsUptoSaid : Prop := fnExactPruneVersionsUptoRow.holds Try.pinned (OpenSpec.upto fnExactPruneVersionsSpec)

/-- 'laws.FnPruneVersions', WHERE WHAT IT READS IS OF BULK AT MOST 1048576: true; the input reads as it did. -/
def fnPruneVersionsUptoRow : OpenClaim := { program := "ytnaogmahijgibaa", sum := "8f609e1880b1abd0dcef40b2fd98beaf0b0457b8f1475f20dca7f6980d59b56d", func := "loop.example/treelocks/laws.FnPruneVersions", spec := "fnPruneVersions", unfollowed := true, recurses := true, apart := false, narrowed := true }
def FnPruneVersionsUptoSaid : Prop := fnPruneVersionsUptoRow.holds Try.pinned (OpenSpec.upto fnPruneVersionsSpec)

end Rows
end Go.Proofs.Ytnaogmahijgibaa
