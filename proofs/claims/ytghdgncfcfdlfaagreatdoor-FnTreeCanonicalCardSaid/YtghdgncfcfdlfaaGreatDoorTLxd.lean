/- Short names for values and blocks. Conditions: none. -/
import Derived.Test.YtghdgncfcfdlfaaGreatDoorTLxc
namespace Go.Proofs.YtghdgncfcfdlfaaGreatDoor
open Go
abbrev sF {α : Type} (r : Nat) (x : List α) : AV := .one (.e (.sl r 0 x.length))
abbrev pA (r o : Nat) : AV := .one (.e (.p r o))
abbrev nR (x : List Nod) : Blk := .row .nod x false
abbrev nO (x : List Nod) : Blk := .row .nod x true
abbrev lR (x : List Lck) : Blk := .row .lck x false
abbrev lO (x : List Lck) : Blk := .row .lck x true
abbrev sR (x : List Str) : Blk := .row .str x false
abbrev sO (x : List Str) : Blk := .row .str x true
abbrev iR (x : List Int) : Blk := .row .int x false
abbrev iO (x : List Int) : Blk := .row .int x true
abbrev uR (x : List Int) : Blk := .row .u8 x false
abbrev uO (x : List Int) : Blk := .row .u8 x true
abbrev eR (x : List Edt) : Blk := .row .edt x false
abbrev eO (x : List Edt) : Blk := .row .edt x true
abbrev bR (x : List Bool) : Blk := .row .bool x false
abbrev bO (x : List Bool) : Blk := .row .bool x true
/-- true and false by turns, so many of each -/
def tfl : Bool → List Nat → List Bool
  | _, [] => []
  | b, k :: l => List.replicate k b ++ tfl (!b) l
def tf (b : Bool) (l : List Nat) : Array Bool := ⟨tfl b l⟩
end Go.Proofs.YtghdgncfcfdlfaaGreatDoor
