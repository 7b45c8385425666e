/- Plain facts: the law FnShortLog. Conditions: none. -/
import Derived.Test.YtdkmgkeaebcobaaLB
import Derived.Test.YtdkmgkeaebcobaaLD
import Derived.Test.YtdkmgkeaebcobaaLL0
import Derived.Test.YtdkmgkeaebcobaaLNe
import Derived.Test.YtdkmgkeaebcobaaLRe
namespace Go.Proofs.Ytdkmgkeaebcobaa
open Go
theorem shortR_len (t : List Nod) (h : List Rcd) : (shortR t h).length ≤ h.length := by
  unfold shortR
  split
  · exact short_len _ _
  · simp
theorem drawShort_ex {x1 : List Int} (h : ∀ b ∈ x1, 0 ≤ b ∧ b ≤ 255) (hl : x1.length ≤ 1048576) : Ex (fun n => spec_DrawShortLog n x1) (fun r => GR r.1 r.2.2.1 r.2.2.2 ∧ r.2.1.length ≤ 17) := by
  unfold spec_DrawShortLog
  exact Ex.bind (drawLog_ex h hl) (fun r hr => Ex.ret hr)
theorem valid_short {t : List Nod} {h : List Rcd} (hv : validL t h = true) (op : Nat → Bool) : validL t (shortL op h) = true := by
  obtain ⟨hT, h16, hr⟩ := validL_iff.1 hv
  exact validL_iff.2 ⟨hT, by have := short_len h op; omega, fun r hx => hr r (short_mem _ _ _ hx).1⟩
theorem law_FnShortLog (x0 : List Int) (h0 : x0.length ≤ 9223372036854775807 ∧ ∀ x ∈ x0, RC.wf .u8 x) : ∃ n, laws_FnShortLog n x0 = some true := by
  refine Ex.get ?_
  unfold laws_FnShortLog
  refine Ex.code rfl (fun hl => ?_)
  refine Ex.bind (drawShort_ex (u8_wf h0.2) hl) ?_
  rintro ⟨x, h, k, l⟩ ⟨hg, hlen⟩
  simp only at hg hlen ⊢
  have hn := hg.nl
  have htl := hg.len
  generalize (x.drop k).take l = t at hn htl
  have hs : ∀ {α : Type} {g : Nat → List Rcd → Option α} {Q : α → Prop}, Ex (fun n => g n (shortR t h)) Q → Ex (fun n => bindO (spec_ShortLog n t h) fun r => g n r) Q := fun k => Ex.be (specShort_ex hn (by omega) (by omega)) k
  have hlr := shortR_len t h
  refine Ex.be (implShort_ex _) (hs (Ex.be (eqRecs_ex (by omega)) ?_))
  refine Ex.be (Ex.no rfl (Ex.be (implLog_ex t) (Ex.ret rfl))) ?_
  refine Ex.ite (fun _ => hs (Ex.be (eqRecs_ex (by omega)) (Ex.ret rfl))) (fun hv => ?_)
  have hv := notF hv
  obtain ⟨hT, h16, hr⟩ := validL_iff.1 hv
  have hv' := valid_short hv (fun _ => false)
  have hw : ∀ r ∈ h, 0 ≤ r.who ∧ 0 ≤ r.node := fun r hx => by have := rcdOk_iff (hr r hx); omega
  rw [shortR, if_pos hv] at hlr ⊢
  refine Ex.be (implRedo_ex _) (Ex.be (implRedo_ex _) ?_)
  have e : redoR t (shortL (fun _ => false) h) = redoR t h := by
    rw [redoR, redoR, if_pos hv, if_pos hv', redo_short h _ t hw]
  rw [e]
  have hl2 : (redoR t h).length ≤ 13 := by
    rw [redoR, if_pos hv, redoL_len]; exact htl
  refine Ex.be (eqNodes_ex (by omega)) (Ex.be (a := true) (Ex.yes rfl (Ex.be (implLosers_ex _) (Ex.yes ?_ (Ex.yes (decide_eq_true (by omega)) (Ex.be (implLog_ex t) (Ex.ret hv')))))) (Ex.ret rfl))
  rw [losersR, if_pos hv', losers, List.filter_eq_nil_iff.2 (fun w hw' => ?_)]
  · rfl
  · have h5 : 0 ≤ w := by
      simp only [List.mem_cons, List.not_mem_nil, or_false] at hw'; omega
    rw [loser_short w h5 h _ (fun r hx => (hw r hx).1)]; simp
end Go.Proofs.Ytdkmgkeaebcobaa
