/- Plain facts: losers, more. Conditions: none. -/
import Derived.Test.YtdkmgkeaebcobaaLC
namespace Go.Proofs.Ytdkmgkeaebcobaa
open Go
theorem losersR_len (t : List Nod) (h : List Rcd) : (losersR t h).length ≤ 4 := by
  unfold losersR
  split
  · exact Nat.le_trans (List.length_filter_le _ _) (by simp)
  · simp
theorem loserNone (w : Int) : ∀ (l : List Rcd), (l.any fun r => decide (r.who = w)) = false → loserL w l = false
  | [], _ => rfl
  | r :: l, h => by
    rw [List.any_cons, Bool.or_eq_false_iff] at h
    rw [loserL, h.1, Bool.false_and, Bool.false_or]
    exact loserNone w l h.2
theorem loserSome (w : Int) : ∀ (l : List Rcd), (l.any fun r => decide (r.who = w)) = true → endd w l = false → loserL w l = true
  | [], h, _ => by simp at h
  | r :: l, h, he => by
    rw [endd, List.any_cons, Bool.or_eq_false_iff] at he
    rw [List.any_cons, Bool.or_eq_true] at h
    rw [loserL, show endd w l = false from he.2]
    by_cases hw : r.who = w
    · rw [decide_eq_true hw, Bool.and_true] at he
      rw [he.1, decide_eq_true hw]; rfl
    · rw [decide_eq_false hw] at h
      rw [loserSome w l (h.resolve_left (by simp)) he.2]; simp
theorem endNone (w : Int) : ∀ (l : List Rcd), (l.any fun r => decide (r.who = w)) = false → endd w l = false
  | [], _ => rfl
  | r :: l, h => by
    rw [List.any_cons, Bool.or_eq_false_iff] at h
    rw [endd, List.any_cons, h.1, Bool.and_false, Bool.false_or]
    exact endNone w l h.2

/-- the last record of somebody is no end -/
def lastB (w : Int) : List Rcd → Bool → Bool
  | [], b => b
  | r :: l, b => lastB w l (if r.who = w then !r.fin else b)
theorem lastB_eq (w : Int) : ∀ (l : List Rcd) (b : Bool), lastB w l b = if (l.any fun r => decide (r.who = w)) = true then loserL w l else b
  | [], b => rfl
  | r :: l, b => by
    rw [lastB, lastB_eq w l, List.any_cons, loserL]
    by_cases hw : r.who = w
    · rw [if_pos hw, decide_eq_true hw, Bool.true_or, if_pos rfl, Bool.true_and]
      cases ha : (l.any fun r => decide (r.who = w)) with
      | false =>
        rw [if_neg (by simp), loserNone w l ha, endNone w l ha]; simp
      | true =>
        rw [if_pos rfl]
        cases he : endd w l with
        | true => simp
        | false => rw [loserSome w l ha he]; simp
    · rw [if_neg hw, decide_eq_false hw, Bool.false_or, Bool.false_and, Bool.false_or]
theorem lastB_loser (w : Int) (l : List Rcd) : lastB w l false = loserL w l := by
  rw [lastB_eq]
  cases ha : (l.any fun r => decide (r.who = w)) with
  | false => rw [if_neg (by simp), loserNone w l ha]
  | true => rw [if_pos rfl]
theorem lastB_snoc (w : Int) : ∀ (l : List Rcd) (r : Rcd) (b : Bool), lastB w (l ++ [r]) b = if r.who = w then !r.fin else lastB w l b
  | [], r, b => rfl
  | x :: l, r, b => by
    rw [List.cons_append, lastB, lastB_snoc w l r, lastB]
theorem losers_has {h : List Rcd} {w : Nat} (hw : w < 4) : (losers h).contains (w : Int) = loserL (w : Int) h := by
  rw [losers, Bool.eq_iff_iff, List.contains_iff_mem, List.mem_filter]
  have : (w : Int) ∈ ([0, 1, 2, 3] : List Int) := by
    simp only [List.mem_cons, List.not_mem_nil, or_false]; omega
  simp [this]
end Go.Proofs.Ytdkmgkeaebcobaa
