/- Plain facts: the law FnLosersOf. Conditions: none. -/
import Derived.Test.YtdkmgkeaebcobaaLB
import Derived.Test.YtdkmgkeaebcobaaLL0
import Derived.Test.YtdkmgkeaebcobaaLIe
namespace Go.Proofs.Ytdkmgkeaebcobaa
open Go
theorem law_FnLosersOf (x0 : List Int) (h0 : x0.length ≤ 9223372036854775807 ∧ ∀ x ∈ x0, RC.wf .u8 x) : ∃ n, laws_FnLosersOf n x0 = some true := by
  refine Ex.get ?_
  unfold laws_FnLosersOf
  refine Ex.code rfl (fun hl => ?_)
  refine Ex.bind (P := fun r => GR r.1 r.2.2.1 r.2.2.2 ∧ r.2.1.length ≤ 17) ?_ ?_
  · unfold spec_DrawLosersOf
    exact Ex.bind (drawLog_ex (u8_wf h0.2) hl) (fun r hr => Ex.ret hr)
  · rintro ⟨x, h, k, l⟩ ⟨hg, hlen⟩
    simp only at hg hlen ⊢
    have hn := hg.nl
    have htl := hg.len
    generalize (x.drop k).take l = t at hn htl
    have hs : ∀ {α : Type} {g : Nat → List Int → Option α} {Q : α → Prop}, Ex (fun n => g n (losersR t h)) Q → Ex (fun n => bindO (spec_LosersOf n t h) fun r => g n r) Q := fun k => Ex.be (specLosers_ex hn (by omega) (by omega)) k
    have hlr := losersR_len t h
    refine Ex.be (implLosers_ex t) (hs (Ex.be (eqInts_ex (by omega)) ?_))
    refine Ex.be (Ex.no rfl (Ex.be (implLog_ex t) (Ex.ret rfl))) ?_
    refine Ex.ite (fun _ => hs (Ex.be (eqInts_ex (by omega)) (Ex.ret rfl))) (fun hv => ?_)
    have hv := notF hv
    rw [losersR, if_pos hv] at hlr ⊢
    refine Ex.be (a := .inr ()) ?_ ?_
    rotate_left
    · exact Ex.ret rfl
    refine upU 4 (fun _ => True) ?_ ?_ 0 (by omega) trivial
    · intro w hw _ next
      simp only [laws_FnLosersOf_L1]
      refine Ex.yes (decide_eq_true (by omega)) (Ex.be (a := loserL (w : Int) h) ?_ ?_)
      · have := down h drcd (fun _ => True) (fun l (b : Bool) => lastB (w : Int) l b) (f := fun n b i => laws_FnLosersOf_L2 h (losers h) w x0 n b i) ?_ ?_ 0 false (Nat.zero_le _) trivial
        · refine Ex.mono this (fun r hr => ?_)
          rw [hr, List.drop_zero, lastB_loser]
        · intro j b hj _ next
          simp only [laws_FnLosersOf_L2, Int.toNat_natCast]
          refine Ex.yes (decide_eq_true (by omega)) (Ex.guard (by omega) ?_)
          rw [w64_succ (by omega), lastB]
          refine Ex.be (a := if (h.getD j drcd).who = (w : Int) then !(h.getD j drcd).fin else b) ?_ (next _ trivial)
          refine Ex.ite (fun h2 => Ex.guard (by omega) (Ex.ret ?_)) (fun h2 => Ex.ret ?_)
          · rw [if_pos (of_decide_eq_true h2)]
          · rw [if_neg (of_decide_eq_false h2)]
        · intro b _
          simp only [laws_FnLosersOf_L2]
          exact Ex.no (decide_eq_false (by omega)) (Ex.ret rfl)
      · refine Ex.be (lawIsIn_ex (by omega) _) ?_
        rw [losers_has hw, w64_succ (by omega)]
        exact Ex.no (by simp) (next trivial)
    · intro _
      simp only [laws_FnLosersOf_L1]
      exact Ex.no rfl (Ex.ret rfl)
end Go.Proofs.Ytdkmgkeaebcobaa
