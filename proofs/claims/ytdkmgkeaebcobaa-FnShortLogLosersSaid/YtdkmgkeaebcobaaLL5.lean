/- Plain facts: the law FnShortLogLosers. Conditions: none. -/
import Derived.Test.YtdkmgkeaebcobaaLB
import Derived.Test.YtdkmgkeaebcobaaLD
import Derived.Test.YtdkmgkeaebcobaaLRe
namespace Go.Proofs.Ytdkmgkeaebcobaa
open Go
theorem short_none : ∀ (l : List Rcd) (op : Nat → Bool), (∀ r ∈ l, r.fin = false) → shortL op l = []
  | [], _, _ => rfl
  | r :: l, op, h => by
    have hf := h r (List.mem_cons_self ..)
    have h' := fun x hx => h x (List.mem_cons_of_mem _ hx)
    have he : endd r.who l = false := by
      rw [Bool.eq_false_iff]
      intro hc
      rw [endd, List.any_eq_true] at hc
      obtain ⟨x, hx, hc⟩ := hc
      rw [h' x hx] at hc; cases hc
    rw [shortL, if_neg (by rw [hf]; simp), if_neg (by rw [he]; simp)]
    exact short_none l op h'
theorem law_FnShortLogLosers (x0 : List Int) (h0 : x0.length ≤ 9223372036854775807 ∧ ∀ x ∈ x0, RC.wf .u8 x) : ∃ n, laws_FnShortLogLosers n x0 = some true := by
  refine Ex.get ?_
  unfold laws_FnShortLogLosers
  refine Ex.code rfl (fun hl => ?_)
  refine Ex.bind (P := fun r => GR r.1 r.2.2.1 r.2.2.2 ∧ r.2.1.length ≤ 17) ?_ ?_
  · unfold spec_DrawShortLog
    exact Ex.bind (drawLog_ex (u8_wf h0.2) hl) (fun r hr => Ex.ret hr)
  · rintro ⟨x, h, k, l⟩ ⟨hg, hlen⟩
    simp only at hg hlen ⊢
    have hn := hg.nl
    have htl := hg.len
    have hs : ∀ {α : Type} {g : Nat → List Rcd → Option α} {Q : α → Prop}, Ex (fun n => g n (shortR ((x.drop k).take l) h)) Q → Ex (fun n => bindO (spec_ShortLog n ((x.drop k).take l) h) fun r => g n r) Q := fun k => Ex.be (specShort_ex hn (by omega) (by omega)) k
    have hlr : (shortR ((x.drop k).take l) h).length ≤ h.length := by
      unfold shortR
      split
      · exact short_len _ _
      · simp
    refine Ex.be (implShort_ex _) (hs (Ex.be (eqRecs_ex (by omega)) ?_))
    refine Ex.be (Ex.no rfl (Ex.be (implLog_ex _) (Ex.ret rfl))) ?_
    refine Ex.ite (fun _ => hs (Ex.be (eqRecs_ex (by omega)) (Ex.ret rfl))) (fun hv => ?_)
    refine Ex.bind (P := fun o => ∀ r ∈ o, r.fin = false) ?_ ?_
    · refine up h.length (fun j (o : List Rcd) => o.length ≤ j ∧ ∀ r ∈ o, r.fin = false) (f := fun n o i => laws_FnShortLogLosers_L1 k l h x0 x n o i) ?_ ?_ 0 [] (Nat.zero_le _) ⟨by simp, by simp⟩
      · rintro j o hj ⟨h1, h2⟩ next
        simp only [laws_FnShortLogLosers_L1, Int.toNat_natCast]
        rw [w64_succ (by omega)]
        refine Ex.yes (decide_eq_true (by omega)) (Ex.guard (by omega) ?_)
        refine Ex.bind (P := fun o' => o'.length ≤ j + 1 ∧ ∀ r ∈ o', r.fin = false) ?_ (fun o' ho => next o' ho)
        refine Ex.ite (fun h4 => Ex.guard (by omega) (Ex.guard (by simp; omega) (Ex.ret ⟨by simp; omega, fun r hr => ?_⟩))) (fun h4 => Ex.ret ⟨by omega, h2⟩)
        rcases List.mem_append.1 hr with h5 | h5
        · exact h2 r h5
        · rw [List.mem_singleton.1 h5]; exact notT h4
      · rintro o ⟨h1, h2⟩
        simp only [laws_FnShortLogLosers_L1]
        exact Ex.no (decide_eq_false (by omega)) (Ex.ret h2)
    · intro o ho
      refine Ex.be (implShort_ex _) (Ex.ret ?_)
      rw [shortR, short_none o _ ho]
      split <;> rfl
end Go.Proofs.Ytdkmgkeaebcobaa
