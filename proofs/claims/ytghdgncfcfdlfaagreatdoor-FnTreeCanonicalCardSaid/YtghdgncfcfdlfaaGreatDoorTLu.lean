/- Cuts: what is known of the ways out of a statement may be weakened. Conditions: none. -/
import Derived.Test.YtghdgncfcfdlfaaGreatDoorTLt
namespace Go.Proofs.YtghdgncfcfdlfaaGreatDoor
open Go
section
variable {E : Env} {Γ : Ctx} {st : St} {Q : Exit → St → Prop}
theorem W_cut {c : Code} {Q' : Exit → St → Prop} (h : W E Γ c Q' st) (k : ∀ e s, Q' e s → Q e s) : W E Γ c Q st := by
 intro θ a w hr
 refine wp_mono (h θ a w hr) ?_
 rintro e a w ⟨θ, s, hq, hr⟩
 exact ⟨θ, s, k e s hq, hr⟩
theorem LW_mono {P : Program} {c : Code} {Q Q' : Exit → Act → World → Prop} {a : Act} {w : World} (h : LW P c Q a w) (hq : ∀ e a w, Q e a w → Q' e a w) : LW P c Q' a w := by
 intro b k cs
 obtain ⟨e, a', w', q, r⟩ := h b k cs
 exact ⟨e, a', w', hq _ _ _ q, r⟩
theorem WL_cut {c : Code} {Q' : Exit → St → Prop} (h : WL E Γ c Q' st) (k : ∀ e s, Q' e s → Q e s) : WL E Γ c Q st := by
 intro θ a w hr
 refine LW_mono (h θ a w hr) ?_
 rintro e a w ⟨θ, s, hq, hr⟩
 exact ⟨θ, s, k e s hq, hr⟩
end
end Go.Proofs.YtghdgncfcfdlfaaGreatDoor
