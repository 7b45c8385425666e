/- Plain facts: the law FnLosersOfShort. Conditions: none. -/
import Derived.Test.YtdkmgkeaebcobaaLB
import Derived.Test.YtdkmgkeaebcobaaLL0
import Derived.Test.YtdkmgkeaebcobaaLIe
namespace Go.Proofs.Ytdkmgkeaebcobaa
open Go
theorem law_FnLosersOfShort (x0 : List Int) (h0 : x0.length ≤ 9223372036854775807 ∧ ∀ x ∈ x0, RC.wf .u8 x) : ∃ n, laws_FnLosersOfShort n x0 = some true := by
  refine Ex.get ?_
  unfold laws_FnLosersOfShort
  refine Ex.code rfl (fun hl => ?_)
  refine Ex.bind (P := fun r => GR r.1 r.2.2.1 r.2.2.2 ∧ r.2.1.length ≤ 17) ?_ ?_
  · unfold spec_DrawLosersOf
    exact Ex.bind (drawLog_ex (u8_wf h0.2) hl) (fun r hr => Ex.ret hr)
  · rintro ⟨x, h, k, l⟩ ⟨hg, hlen⟩
    simp only at hg hlen ⊢
    have hn := hg.nl
    have htl := hg.len
    generalize (x.drop k).take l = t at hn htl
    have hs : ∀ {α : Type} {g : Nat → List Int → Option α} {Q : α → Prop}, Ex (fun n => g n (losersR t h)) Q → Ex (fun n => bindO (spec_LosersOf n t h) fun r => g n r) Q := fun k => Ex.be (specLosers_ex hn (by omega) (by omega)) k
    have hlr := losersR_len t h
    refine Ex.be (implLosers_ex t) (hs (Ex.be (eqInts_ex (by omega)) ?_))
    refine Ex.be (a := !validL t h || decide ((h.length : Int) < 2)) (Ex.no rfl (Ex.be (implLog_ex t) ?_)) ?_
    · cases validL t h with
      | false => exact Ex.yes rfl (Ex.ret rfl)
      | true => exact Ex.no rfl (Ex.ret rfl)
    · refine Ex.ite (fun _ => hs (Ex.be (eqInts_ex (by omega)) (Ex.ret rfl))) (fun hv => ?_)
      rw [Bool.or_eq_false_iff] at hv
      have h2 := of_decide_eq_false hv.2
      have hv := notF hv.1
      obtain ⟨hT, h16, hr⟩ := validL_iff.1 hv
      rw [losersR, if_pos hv] at hlr ⊢
      have e1 : w64 ((h.length : Int) - 1) = ((h.length - 1 : Nat) : Int) := by rw [w64_id (by omega) (by omega)]; omega
      have e2 : w64 (((h.length - 1 : Nat) : Int) - 1) = ((h.length - 2 : Nat) : Int) := by rw [w64_id (by omega) (by omega)]; omega
      simp only [e1, e2, Int.toNat_natCast, List.drop_zero]
      obtain ⟨p, a, b, rfl⟩ : ∃ p a b, h = p ++ [a, b] := by
        refine ⟨h.take (h.length - 2), h[h.length - 2]'(by omega), h[h.length - 1]'(by omega), ?_⟩
        have := List.take_append_drop (h.length - 2) h
        rw [List.drop_eq_getElem_cons (show h.length - 2 < h.length by omega), List.drop_eq_getElem_cons (show h.length - 2 + 1 < h.length by omega), List.drop_eq_nil_of_le (by omega)] at this
        have e : h.length - 2 + 1 = h.length - 1 := by omega
        simp only [e] at this
        exact this.symm
      have q1 : (p ++ [a, b]).getD ((p ++ [a, b]).length - 1) drcd = b := by simp
      have q2 : (p ++ [a, b]).getD ((p ++ [a, b]).length - 2) drcd = a := by simp
      have q3 : (p ++ [a, b]).take ((p ++ [a, b]).length - 1) = p ++ [a] := by
        rw [List.take_append]; simp [List.take_of_length_le]
      simp only [q1, q2, q3]
      have hb := (rcdOk_iff (hr b (by simp))).1
      refine Ex.guard (by omega) (Ex.be (a := !b.fin || (!decide (a.who = b.who) || a.fin)) ?_ ?_)
      · refine Ex.ite (fun h3 => Ex.ret (by rw [h3]; rfl)) (fun h3 => Ex.guard (by omega) (Ex.guard (by omega) ?_))
        rw [h3, Bool.false_or]
        exact Ex.ite (fun h4 => Ex.ret (by rw [h4]; rfl)) (fun h4 => Ex.guard (by omega) (Ex.ret (by rw [h4]; rfl)))
      · refine Ex.ite (fun _ => Ex.ret rfl) (fun hc => ?_)
        simp only [Bool.or_eq_false_iff, Bool.not_eq_false', decide_eq_true_eq] at hc
        refine Ex.guard (by omega) (Ex.be (implLosers_ex t) (Ex.guard (by omega) ?_))
        have hv' : validL t (p ++ [a]) = true := validL_iff.2 ⟨hT, by simp at h16 ⊢; omega, fun r hx => hr r (by simp at hx ⊢; rcases hx with h | h <;> simp [h])⟩
        rw [losersR, if_pos hv']
        have hl2 : (losers (p ++ [a])).length ≤ 4 := Nat.le_trans (List.length_filter_le _ _) (by simp)
        refine Ex.be (lawIsIn_ex (by omega) _) ?_
        obtain ⟨w, hw, hw4⟩ : ∃ w : Nat, b.who = (w : Int) ∧ w < 4 := ⟨b.who.toNat, by omega, by omega⟩
        have g1 : (losers (p ++ [a])).contains b.who = true := by
          rw [hw, losers_has hw4, ← lastB_loser, lastB_snoc, if_pos (by omega), hc.2.2]; rfl
        have g2 : (losers (p ++ [a, b])).contains b.who = false := by
          rw [hw, losers_has hw4, ← lastB_loser, show p ++ [a, b] = (p ++ [a]) ++ [b] by simp, lastB_snoc, if_pos hw, hc.1]; rfl
        rw [g1]
        refine Ex.be (a := true) (Ex.yes rfl (Ex.guard (by omega) (Ex.be (lawIsIn_ex (by omega) _) (Ex.ret ?_)))) (Ex.ret rfl)
        rw [g2]; rfl
end Go.Proofs.Ytdkmgkeaebcobaa
