/- The law FnExactReadAsOf: for all of its arguments the call returns true and leaves them as they were. Conditions: none. -/
import Derived.Test.YtnaogmahijgibaaP6
import Derived.Test.YtnaogmahijgibaaTLzc
import Derived.Test.YtnaogmahijgibaaRows
import Derived.WalkKit
import Derived.ProofKit
import Derived.JoinedOf
import Derived.JoinedAt
namespace Go.Proofs.Ytnaogmahijgibaa
open Go Go.ChangeShapes Go.WideShapes Go.ChangeAt Go.RowKit
set_option linter.unusedVariables false

theorem own_knob : ownKnob Try.prog.godebug = none := by kernel_rfl
theorem laid_out : laidOutB Try.prog = true := by kernel_rfl

theorem fok_FnExactReadAsOf (ds : List AD) (h : All2 AD.isK ds [.sl .ver, .int, .int]) : FOk EE 6 (AD.avs 0 ds) (AD.blks ds) (B true) (AD.blks ds) := by
  match ds, h with
  | [.sl R0 x0, .int x1, .int x2], h =>
    obtain ⟨⟨rfl, h0⟩, h1, h2, _⟩ := h
    obtain ⟨n, hn⟩ := law_FnExactReadAsOf x0 x1 x2 h0 h1 h2
    exact laws_FnExactReadAsOf_ok n x0 x1 x2 true hn

set_option maxRecDepth 100000 in
theorem lifted (os : Os) (started : os.Started) (H : Type) (enc : TypeId × Value → H) :
    ReturnsInHanded {} Try.checked os 6 .any (Rows.fnExactReadAsOfSpec.pre6 enc Try.prog Try.f6 Rows.fnExactReadAsOfRow.domain false) (Rows.fnExactReadAsOfSpec.post enc Try.prog Try.f6 false true false false) := by
  refine returnsInHanded_of_change (C := Try.checked) own_knob started (by kernel_rfl) Try.func6
    (ChangeSpec.witness6 (enc := enc) (C := Try.checked) false ⟨#[], #[.slice none 0 0, .int .i64 0, .int .i64 0], []⟩ 8 (by kernel_rfl) (by kernel_rfl) (by kernel_rfl) (by kernel_rfl)) ?_
  intro W base args ds gs before hval hW _ _
  exact law_contract (E := EE) [.sl .ver, .int, .int] 4 (by kernel_rfl) (by kernel_rfl) (by kernel_rfl) rfl (fun ds hd => by match ds, hd with | [d0, d1, d2], _ => rfl) laid_out (by kernel_rfl) fok_FnExactReadAsOf W base args ds gs before hval hW (fun g R xs h => by cases h)

theorem FnExactReadAsOf_holds : Rows.FnExactReadAsOfSaid :=
  OpenClaim.holds_of_wide 6 Try.f6 rfl rfl rfl rfl rfl rfl rfl ⟨rfl, rfl, rfl, rfl, rfl⟩ rfl rfl rfl rfl rfl (by kernel_rfl) Try.func6 (by kernel_rfl)
    (of_decide_eq_true (by kernel_rfl)) (by unfold Func.isWrapper; first | (rw [if_pos (by decide +kernel)]; kernel_rfl) | (rw [if_neg (by decide +kernel)]; exact ⟨rfl, rfl⟩))
    (fun os started H enc _ => lifted os started H enc)
end Go.Proofs.Ytnaogmahijgibaa
