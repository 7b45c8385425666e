/- Plain facts: the law FnRedoLogLosers. Conditions: none. -/
import Derived.Test.YtdkmgkeaebcobaaLB
import Derived.Test.YtdkmgkeaebcobaaLL0
import Derived.Test.YtdkmgkeaebcobaaLNe
namespace Go.Proofs.Ytdkmgkeaebcobaa
open Go
/-- what is left without the losers -/
def keptL : List Rcd → List Rcd
  | [] => []
  | r :: l => if (r.fin || endd r.who l) = true then r :: keptL l else keptL l
theorem kept_endd (w : Int) : ∀ l, endd w (keptL l) = endd w l
  | [] => rfl
  | r :: l => by
    have e : ∀ l', endd w (r :: l') = ((r.fin && decide (r.who = w)) || endd w l') := fun _ => rfl
    rw [keptL]
    split
    · rw [e, e, kept_endd w l]
    · rename_i h
      rw [Bool.not_eq_true, Bool.or_eq_false_iff] at h
      rw [e, h.1, kept_endd w l]; rfl
theorem kept_redo : ∀ (l : List Rcd) (t : List Nod), redoL (keptL l) t = redoL l t
  | [], _ => rfl
  | r :: l, t => by
    rw [keptL]
    split
    · rw [redoL, redoL, kept_endd, kept_redo l]
    · rename_i h
      rw [Bool.not_eq_true, Bool.or_eq_false_iff] at h
      rw [redoL, h.2, Bool.and_false, kept_redo l]; rfl
theorem kept_loser (w : Int) : ∀ l, loserL w (keptL l) = false
  | [] => rfl
  | r :: l => by
    rw [keptL]
    split
    · rename_i h
      rw [loserL, kept_loser w l, kept_endd, Bool.or_false]
      by_cases hw : r.who = w
      · rw [Bool.or_eq_true, hw] at h
        rcases h with h | h
        · rw [h]; simp
        · rw [h]; simp
      · rw [decide_eq_false hw]; rfl
    · exact kept_loser w l
theorem kept_sub : ∀ l, (keptL l).Sublist l
  | [] => List.Sublist.slnil
  | r :: l => by
    rw [keptL]
    split
    · exact (kept_sub l).cons_cons r
    · exact (kept_sub l).cons r

theorem law_FnRedoLogLosers (x0 : List Int) (h0 : x0.length ≤ 9223372036854775807 ∧ ∀ x ∈ x0, RC.wf .u8 x) : ∃ n, laws_FnRedoLogLosers n x0 = some true := by
  refine Ex.get ?_
  unfold laws_FnRedoLogLosers
  refine Ex.code rfl (fun hl => ?_)
  refine Ex.bind (P := fun r => GR r.1 r.2.2.1 r.2.2.2 ∧ r.2.1.length ≤ 17) ?_ ?_
  · unfold spec_DrawRedoLog
    exact Ex.bind (drawLog_ex (u8_wf h0.2) hl) (fun r hr => Ex.ret hr)
  · rintro ⟨x, h, k, l⟩ ⟨hg, hlen⟩
    simp only at hg hlen ⊢
    have hn := hg.nl
    have htl := hg.len
    have hs : ∀ {α : Type} {g : Nat → List Nod → Option α} {Q : α → Prop}, Ex (fun n => g n (redoR ((x.drop k).take l) h)) Q → Ex (fun n => bindO (spec_RedoLog n ((x.drop k).take l) h) fun r => g n r) Q := fun k => Ex.be (specRedo_ex hn (by omega) (by omega)) k
    have hlr : (redoR ((x.drop k).take l) h).length ≤ 13 := by
      unfold redoR
      split
      · rw [redoL_len]; exact htl
      · simp
    refine Ex.be (implRedo_ex _) (hs (Ex.be (eqNodes_ex (by omega)) ?_))
    refine Ex.ite (fun _ => hs (Ex.be (eqNodes_ex (by omega)) (Ex.ret rfl))) (fun hv => ?_)
    have hv : validL ((x.drop k).take l) h = true := by
      cases hc : validL ((x.drop k).take l) h with
      | true => rfl
      | false => rw [redoR, hc] at hv; simp at hv
    obtain ⟨hT, h16, hr⟩ := validL_iff.1 hv
    refine Ex.be (a := keptL h) ?_ ?_
    · refine up h.length (fun j (o : List Rcd) => o.length ≤ j ∧ o ++ keptL (h.drop j) = keptL h) (f := fun n o i => laws_FnRedoLogLosers_L1 k l h (redoR ((x.drop k).take l) h) x0 x n o i) ?_ ?_ 0 [] (Nat.zero_le _) ⟨by simp, rfl⟩
      · rintro j o hj ⟨h1, h2⟩ next
        simp only [laws_FnRedoLogLosers_L1, Int.toNat_natCast]
        rw [w64_succ (by omega)]
        refine Ex.yes (decide_eq_true (by omega)) (Ex.guard (by omega) (Ex.be (a := (h.getD j drcd).fin || endd (h.getD j drcd).who (h.drop (j + 1))) ?_ ?_))
        · refine down h drcd (fun _ => True) (fun l' (b : Bool) => b || endd (h.getD j drcd).who l') (f := fun n b i => laws_FnRedoLogLosers_L2 k l h (redoR ((x.drop k).take l) h) o j x0 x n b i) ?_ ?_ (j + 1) (h.getD j drcd).fin (by omega) trivial
          · intro i b hi _ next
            simp only [laws_FnRedoLogLosers_L2, Int.toNat_natCast]
            rw [w64_succ (by omega)]
            have e : ∀ l', endd (h.getD j drcd).who (h.getD i drcd :: l') = (((h.getD i drcd).fin && decide ((h.getD i drcd).who = (h.getD j drcd).who)) || endd (h.getD j drcd).who l') := fun _ => rfl
            rw [e, ← Bool.or_assoc]
            refine Ex.yes (decide_eq_true (by omega)) (Ex.be (a := b || ((h.getD i drcd).fin && decide ((h.getD i drcd).who = (h.getD j drcd).who))) ?_ (next _ trivial))
            refine Ex.ite (fun h2 => Ex.ret (by rw [h2]; rfl)) (fun h2 => Ex.guard (by omega) ?_)
            rw [h2, Bool.false_or]
            exact Ex.ite (fun h3 => Ex.guard (by omega) (Ex.guard (by omega) (Ex.ret (by rw [h3]; rfl)))) (fun h3 => Ex.ret (by rw [h3]; rfl))
          · intro b _
            simp only [laws_FnRedoLogLosers_L2]
            exact Ex.no (decide_eq_false (by omega)) (Ex.ret (by simp [endd]))
        · rw [drop_at drcd hj, keptL] at h2
          refine Ex.be (a := if ((h.getD j drcd).fin || endd (h.getD j drcd).who (h.drop (j + 1))) = true then o ++ [h.getD j drcd] else o) ?_ (next _ ?_)
          · refine Ex.ite (fun h4 => Ex.guard (by omega) (Ex.guard (by simp; omega) (Ex.ret ?_))) (fun h4 => Ex.ret ?_)
            · rw [if_pos h4]; rfl
            · rw [if_neg (by rw [h4]; simp)]
          · split
            · rename_i h4
              rw [if_pos h4] at h2
              exact ⟨by simp; omega, by rw [← h2]; simp⟩
            · rename_i h4
              rw [if_neg h4] at h2
              exact ⟨by omega, h2⟩
      · rintro o ⟨h1, h2⟩
        simp only [laws_FnRedoLogLosers_L1]
        refine Ex.no (decide_eq_false (by omega)) (Ex.ret ?_)
        rw [List.drop_length, keptL, List.append_nil] at h2
        exact h2
    · have hv' : validL ((x.drop k).take l) (keptL h) = true := validL_iff.2 ⟨hT, by have := (kept_sub h).length_le; omega, fun r hx => hr r ((kept_sub h).subset hx)⟩
      have e : redoR ((x.drop k).take l) (keptL h) = redoR ((x.drop k).take l) h := by
        rw [redoR, redoR, if_pos hv, if_pos hv', kept_redo]
      refine Ex.be (implRedo_ex _) ?_
      rw [e]
      refine Ex.be (eqNodes_ex (by omega)) ?_
      refine Ex.be (a := true) (Ex.yes rfl (Ex.be (implLosers_ex _) (Ex.ret ?_))) (Ex.ret rfl)
      rw [losersR, if_pos hv', losers, List.filter_eq_nil_iff.2 (fun w _ => by rw [kept_loser]; simp)]
      rfl
end Go.Proofs.Ytdkmgkeaebcobaa
