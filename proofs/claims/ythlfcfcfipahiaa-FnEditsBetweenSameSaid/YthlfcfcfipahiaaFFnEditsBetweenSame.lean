/- The law FnEditsBetweenSame: for all of its arguments the call returns true and leaves them as they were. Conditions: none. -/
import Derived.Test.YthlfcfcfipahiaaPL1
import Derived.Test.YthlfcfcfipahiaaTLzc
import Derived.Test.YthlfcfcfipahiaaRows
import Derived.WalkKit
import Derived.ProofKit
import Derived.JoinedOf
import Derived.JoinedAt
namespace Go.Proofs.Ythlfcfcfipahiaa
open Go Go.ChangeShapes Go.WideShapes Go.ChangeAt Go.RowKit
set_option linter.unusedVariables false

theorem own_knob : ownKnob Try.prog.godebug = none := by kernel_rfl
theorem laid_out : laidOutB Try.prog = true := by kernel_rfl

theorem fok_FnEditsBetweenSame (ds : List AD) (h : All2 AD.isK ds [.sl .u8]) : FOk EE 8 (AD.avs 0 ds) (AD.blks ds) (B true) (AD.blks ds) := by
  cases ds with | nil => exact h.elim | cons d0 ds => ?_
  cases ds with | cons _ _ => exact h.2.elim | nil => ?_
  obtain ⟨h0, _⟩ := h
  obtain ⟨x0, rfl, g0⟩ := isK_sl h0
  obtain ⟨n, hn⟩ := law_FnEditsBetweenSame x0 g0
  exact laws_FnEditsBetweenSame_ok n x0 true hn

set_option maxRecDepth 100000 in
theorem lifted (os : Os) (started : os.Started) (H : Type) (enc : TypeId × Value → H) :
    ReturnsInHanded {} Try.checked os 8 .any (Rows.fnEditsBetweenSameSpec.pre6 enc Try.prog Try.f8 Rows.fnEditsBetweenSameRow.domain false) (Rows.fnEditsBetweenSameSpec.post enc Try.prog Try.f8 false true false false) := by
  refine returnsInHanded_of_change (C := Try.checked) own_knob started (by kernel_rfl) Try.func8
    (ChangeSpec.witness6 (enc := enc) (C := Try.checked) false ⟨#[], #[.slice none 0 0], []⟩ 8 (by kernel_rfl) (by kernel_rfl) (by kernel_rfl) (by kernel_rfl)) ?_
  intro W base args ds gs before hval hW _ _
  exact law_contract (E := EE) [.sl .u8] 4 (by kernel_rfl) (by kernel_rfl) (by kernel_rfl) rfl (fun ds hd => by match ds, hd with | [d0], _ => rfl) laid_out (by kernel_rfl) fok_FnEditsBetweenSame W base args ds gs before hval hW (fun g R xs h => by cases h)

theorem FnEditsBetweenSame_holds : Rows.FnEditsBetweenSameSaid :=
  OpenClaim.holds_of_wide 8 Try.f8 rfl rfl rfl rfl rfl rfl rfl ⟨rfl, rfl, rfl, rfl, rfl⟩ rfl rfl rfl rfl rfl (by kernel_rfl) Try.func8 (by kernel_rfl)
    (of_decide_eq_true (by kernel_rfl)) (by unfold Func.isWrapper; first | (rw [if_pos (by decide +kernel)]; kernel_rfl) | (rw [if_neg (by decide +kernel)]; exact ⟨rfl, rfl⟩))
    (fun os started H enc _ => lifted os started H enc)
end Go.Proofs.Ythlfcfcfipahiaa
