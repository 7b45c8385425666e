/- Plain facts: the law FnShortLogTwice. Conditions: none. -/
import Derived.Test.YtdkmgkeaebcobaaLB
import Derived.Test.YtdkmgkeaebcobaaLD
import Derived.Test.YtdkmgkeaebcobaaLRe
namespace Go.Proofs.Ytdkmgkeaebcobaa
open Go
theorem law_FnShortLogTwice (x0 : List Int) (h0 : x0.length ≤ 9223372036854775807 ∧ ∀ x ∈ x0, RC.wf .u8 x) : ∃ n, laws_FnShortLogTwice n x0 = some true := by
  refine Ex.get ?_
  unfold laws_FnShortLogTwice
  refine Ex.code rfl (fun hl => ?_)
  refine Ex.bind (P := fun r => GR r.1 r.2.2.1 r.2.2.2 ∧ r.2.1.length ≤ 17) ?_ ?_
  · unfold spec_DrawShortLog
    exact Ex.bind (drawLog_ex (u8_wf h0.2) hl) (fun r hr => Ex.ret hr)
  · rintro ⟨x, h, k, l⟩ ⟨hg, hlen⟩
    simp only at hg hlen ⊢
    have hn := hg.nl
    have htl := hg.len
    have hs : ∀ {α : Type} {g : Nat → List Rcd → Option α} {Q : α → Prop}, Ex (fun n => g n (shortR ((x.drop k).take l) h)) Q → Ex (fun n => bindO (spec_ShortLog n ((x.drop k).take l) h) fun r => g n r) Q := fun k => Ex.be (specShort_ex hn (by omega) (by omega)) k
    have hlr : (shortR ((x.drop k).take l) h).length ≤ h.length := by
      unfold shortR
      split
      · exact short_len _ _
      · simp
    refine Ex.be (implShort_ex _) (hs (Ex.be (eqRecs_ex (by omega)) ?_))
    refine Ex.be (Ex.no rfl (Ex.be (implLog_ex _) (Ex.ret rfl))) ?_
    refine Ex.ite (fun _ => hs (Ex.be (eqRecs_ex (by omega)) (Ex.ret rfl))) (fun hv => ?_)
    have hv := notF hv
    obtain ⟨hT, h16, hr⟩ := validL_iff.1 hv
    rw [shortR, if_pos hv] at hlr ⊢
    generalize ho : shortL (fun _ => false) h = o at hlr
    have hp : o.Pairwise fun a b => a.fin = false → b.fin = false → a.node ≠ b.node := ho ▸ short_pair h _
    have hv' : validL ((x.drop k).take l) o = true := validL_iff.2 ⟨hT, by omega, fun r hx => hr r (short_mem h (fun _ => false) r (ho ▸ hx)).1⟩
    have htw : shortL (fun _ => false) o = o := by
      rw [← ho]; exact short_twice h _ (fun r hx => (rcdOk_iff (hr r hx)).1.1)
    refine Ex.be (a := .inr ()) ?_ ?_
    · refine upU o.length (fun _ => True) ?_ ?_ 0 (Nat.zero_le _) trivial
      · intro i hi _ next
        simp only [laws_FnShortLogTwice_L1]
        refine Ex.yes (decide_eq_true (by omega)) (Ex.be (a := .inr ()) ?_ ?_)
        · refine upU i (fun _ => True) ?_ ?_ 0 (Nat.zero_le _) trivial
          · intro j hj _ next
            simp only [laws_FnShortLogTwice_L2, Int.toNat_natCast]
            rw [w64_succ (by omega)]
            refine Ex.yes (decide_eq_true (by omega)) (Ex.guard (by omega) (Ex.be (a := false) ?_ (Ex.no rfl (next trivial))))
            refine Ex.ite (fun h4 => Ex.guard (by omega) (Ex.ite (fun h5 => Ex.guard (by omega) (Ex.guard (by omega) (Ex.ret ?_))) (fun _ => Ex.ret rfl))) (fun _ => Ex.ret rfl)
            rw [decide_eq_false]
            intro e
            have := List.pairwise_iff_getElem.1 hp j i (by omega) hi hj
            have g : ∀ (m : Nat) (hm : m < o.length), o.getD m drcd = o[m] := fun m hm => by rw [List.getD_eq_getElem?_getD, List.getElem?_eq_getElem hm]; rfl
            rw [g i hi] at h4 e
            rw [g j (by omega)] at h5 e
            exact this (notT h5) (notT h4) e.symm
          · intro _
            simp only [laws_FnShortLogTwice_L2]
            exact Ex.no (decide_eq_false (by omega)) (Ex.ret rfl)
        · show Ex (fun n => laws_FnShortLogTwice_L1 k l o x0 x n (w64 ((i : Int) + 1))) _
          rw [w64_succ (by omega)]
          exact next trivial
      · intro _
        simp only [laws_FnShortLogTwice_L1]
        exact Ex.no (decide_eq_false (by omega)) (Ex.ret rfl)
    · refine Ex.be (implShort_ex _) ?_
      rw [shortR, if_pos hv', htw]
      exact Ex.be (eqRecs_ex (by omega)) (Ex.ret rfl)
end Go.Proofs.Ytdkmgkeaebcobaa
