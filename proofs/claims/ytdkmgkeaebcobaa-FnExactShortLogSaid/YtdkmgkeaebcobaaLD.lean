/- Plain facts: short logs. Conditions: none. -/
import Derived.Test.YtdkmgkeaebcobaaLC
namespace Go.Proofs.Ytdkmgkeaebcobaa
open Go

/-- is a later record of the same node redone -/
def replL (node : Int) : List Rcd → Bool
  | [] => false
  | r :: l => (decide (r.node = node) && (!r.fin && endd r.who l)) || replL node l
def upN (op : Nat → Bool) (w : Nat) (b : Bool) : Nat → Bool := fun j => if j = w then b else op j
def shortL : (Nat → Bool) → List Rcd → List Rcd
  | _, [] => []
  | op, r :: l => if r.fin = true then (if op r.who.toNat = true then r :: shortL (upN op r.who.toNat false) l else shortL (upN op r.who.toNat false) l)
      else if (endd r.who l && !replL r.node l) = true then r :: shortL (upN op r.who.toNat true) l else shortL op l
def shortR (t : List Nod) (h : List Rcd) : List Rcd := if validL t h = true then shortL (fun _ => false) h else []

theorem isReplaced_ex {h : List Rcd} (hl : h.length ≤ 1000000000000) {k : Nat} (hk : k < h.length) : Ex (fun n => impl_isReplaced n h (k : Int)) (· = replL (h.getD k drcd).node (h.drop (k + 1))) := by
  unfold impl_isReplaced
  rw [w64_succ (by omega)]
  refine Ex.be (a := if replL (h.getD k drcd).node (h.drop (k + 1)) = true then .inl () else .inr ()) ?_ ?_
  · refine upU h.length (fun j => replL (h.getD k drcd).node (h.drop j) = replL (h.getD k drcd).node (h.drop (k + 1))) ?_ ?_ (k + 1) (by omega) rfl
    · intro j hj hi next
      simp only [impl_isReplaced_L1, Int.toNat_natCast]
      refine Ex.yes (decide_eq_true (by omega)) (Ex.guard (by omega) (Ex.guard (by omega) ?_))
      rw [drop_at drcd hj, replL] at hi
      refine Ex.be (a := decide ((h.getD j drcd).node = (h.getD k drcd).node) && (!(h.getD j drcd).fin && endd (h.getD j drcd).who (h.drop (j + 1)))) ?_ ?_
      · refine Ex.ite (fun h1 => Ex.be (isDone_ex hl hj) (Ex.ret (by rw [h1, Bool.true_and]))) (fun h1 => Ex.ret (by rw [h1, Bool.false_and]))
      · refine Ex.ite (fun h1 => Ex.ret ?_) (fun h1 => ?_)
        · rw [h1, Bool.true_or] at hi; rw [← hi]; rfl
        · rw [h1, Bool.false_or] at hi
          rw [w64_succ (by omega)]
          exact next hi
    · intro hi
      simp only [impl_isReplaced_L1]
      refine Ex.no (decide_eq_false (by omega)) (Ex.ret ?_)
      rw [← hi, List.drop_length]; rfl
  · cases replL (h.getD k drcd).node (h.drop (k + 1)) with
    | true => exact Ex.ret rfl
    | false => exact Ex.ret rfl

theorem replaced_ex {h : List Rcd} (hl : h.length ≤ 1000000000000) {k : Nat} (hk : k < h.length) : Ex (fun n => spec_replaced n h (k : Int)) (· = replL (h.getD k drcd).node (h.drop (k + 1))) := by
  unfold spec_replaced
  rw [w64_succ (by omega)]
  refine Ex.be (a := if replL (h.getD k drcd).node (h.drop (k + 1)) = true then .inl () else .inr ()) ?_ ?_
  · refine upU h.length (fun j => replL (h.getD k drcd).node (h.drop j) = replL (h.getD k drcd).node (h.drop (k + 1))) ?_ ?_ (k + 1) (by omega) rfl
    · intro j hj hi next
      simp only [spec_replaced_L1, Int.toNat_natCast]
      refine Ex.yes (decide_eq_true (by omega)) (Ex.guard (by omega) ?_)
      rw [drop_at drcd hj, replL] at hi
      rw [w64_succ (by omega)]
      refine Ex.be (a := decide ((h.getD j drcd).node = (h.getD k drcd).node) && (!(h.getD j drcd).fin && endd (h.getD j drcd).who (h.drop (j + 1)))) ?_ ?_
      · refine Ex.ite (fun h1 => Ex.guard (by omega) (Ex.guard (by omega) ?_)) (fun h1 => Ex.ret ?_)
        · rw [h1, Bool.true_and]
          refine Ex.ite (fun h2 => Ex.guard (by omega) (Ex.be (ended_ex hl (by omega) _) (Ex.ret ?_))) (fun h2 => Ex.ret ?_)
          · rw [h2, Bool.true_and]
          · rw [h2, Bool.false_and]
        · rw [h1, Bool.false_and, Bool.and_false]
      · refine Ex.ite (fun h1 => Ex.ret ?_) (fun h1 => ?_)
        · rw [h1, Bool.true_or] at hi; rw [← hi]; rfl
        · rw [h1, Bool.false_or] at hi
          exact next hi
    · intro hi
      simp only [spec_replaced_L1]
      refine Ex.no (decide_eq_false (by omega)) (Ex.ret ?_)
      rw [← hi, List.drop_length]; rfl
  · cases replL (h.getD k drcd).node (h.drop (k + 1)) with
    | true => exact Ex.ret rfl
    | false => exact Ex.ret rfl

def flagOp (s : List Bool) : Nat → Bool := fun j => s.getD j false
theorem flagOp_set {s : List Bool} {w : Nat} (h : w < s.length) (b : Bool) : flagOp (s.set w b) = upN (flagOp s) w b := by
  funext j
  rw [flagOp, upN, getD_set' h]
  by_cases e : w = j
  · subst e; simp
  · rw [if_neg e, if_neg (fun h => e h.symm)]; rfl
theorem flagOp_none : flagOp [false, false, false, false] = fun _ => false := by
  funext j
  match j with
  | 0 => rfl
  | 1 => rfl
  | 2 => rfl
  | 3 => rfl
  | _ + 4 => rfl

theorem implShort_ex (t : List Nod) {h : List Rcd} : Ex (fun n => impl_ShortLog n t h) (· = shortR t h) := by
  unfold impl_ShortLog
  refine Ex.be (implLog_ex t) ?_
  rw [shortR]
  cases hv : validL t h with
  | false => exact Ex.yes rfl (Ex.ret rfl)
  | true =>
    obtain ⟨hT, hl, hr⟩ := validL_iff.1 hv
    refine Ex.no rfl ?_
    rw [if_pos rfl]
    refine Ex.bind (P := fun x => x = shortL (fun _ => false) h) ?_ (fun r hr => Ex.ret hr)
    refine up h.length (fun k (s : List Rcd × List Bool) => s.1.length ≤ k ∧ s.2.length = 4 ∧ s.1 ++ shortL (flagOp s.2) (h.drop k) = shortL (fun _ => false) h) (f := fun n s i => impl_ShortLog_L1 h t n s.1 s.2 i) ?_ ?_ 0 ([], [false, false, false, false]) (Nat.zero_le _) ⟨by simp, rfl, by rw [flagOp_none]; rfl⟩
    · rintro k ⟨o, s⟩ hk ⟨h1, h2, h3⟩ next
      simp only at h1 h2 h3
      simp only [impl_ShortLog_L1, Int.toNat_natCast, Nat.mul_one]
      have hw := (rcdOk_iff (hr _ (getD_mem (d := drcd) hk))).1
      refine Ex.yes (decide_eq_true (by omega)) ?_
      rw [drop_at drcd hk, shortL] at h3
      refine Ex.bind (P := fun v => v.1.length ≤ k + 1 ∧ v.2.length = 4 ∧ v.1 ++ shortL (flagOp v.2) (h.drop (k + 1)) = shortL (fun _ => false) h) ?_ ?_
      · refine Ex.guard (by omega) (Ex.ite (fun hf => Ex.guard (by omega) ?_) (fun hf => ?_))
        · rw [if_pos hf] at h3
          refine Ex.be (a := if flagOp s (h.getD k drcd).who.toNat = true then o ++ [h.getD k drcd] else o) ?_ (Ex.guard (by omega) (Ex.ret ?_))
          · refine Ex.ite (fun h4 => Ex.guard (by simp; omega) (Ex.ret ?_)) (fun h4 => Ex.ret ?_)
            · rw [if_pos (show flagOp s _ = true from h4)]; rfl
            · rw [if_neg (by rw [flagOp, h4]; simp)]
          · refine ⟨?_, by simpa using h2, ?_⟩
            · simp only
              split
              · simp; omega
              · omega
            · simp only
              rw [flagOp_set (by omega)]
              split
              · rename_i h4
                rw [if_pos h4] at h3
                rw [← h3]; simp
              · rename_i h4
                rw [if_neg h4] at h3
                exact h3
        · rw [if_neg (by rw [hf]; simp)] at h3
          refine Ex.be (isDone_ex (by omega) hk) ?_
          have hd : (!(h.getD k drcd).fin && endd (h.getD k drcd).who (h.drop (k + 1))) = endd (h.getD k drcd).who (h.drop (k + 1)) := by rw [hf]; rfl
          rw [hd]
          refine Ex.be (a := endd (h.getD k drcd).who (h.drop (k + 1)) && !replL (h.getD k drcd).node (h.drop (k + 1))) ?_ ?_
          · refine Ex.ite (fun h4 => Ex.be (isReplaced_ex (by omega) hk) (Ex.ret (by rw [h4, Bool.true_and]))) (fun h4 => Ex.ret (by rw [h4, Bool.false_and]))
          · refine Ex.bind (P := fun v => v.1.length ≤ k + 1 ∧ v.2.length = 4 ∧ v.1 ++ shortL (flagOp v.2) (h.drop (k + 1)) = shortL (fun _ => false) h) ?_ (fun v hv => Ex.ret hv)
            refine Ex.ite (fun h4 => Ex.guard (by simp; omega) (Ex.guard (by omega) (Ex.ret ⟨by simp; omega, by simpa using h2, ?_⟩))) (fun h4 => Ex.ret ⟨by simp only; omega, h2, ?_⟩)
            · rw [if_pos h4] at h3
              simp only
              rw [flagOp_set (by omega), ← h3]
              simp
            · rw [if_neg (by rw [h4]; simp)] at h3
              exact h3
      · rintro ⟨o', s'⟩ h4
        show Ex (fun n => impl_ShortLog_L1 h t n o' s' (w64 ((k : Int) + 1))) _
        rw [w64_succ (by omega)]
        exact next (o', s') h4
    · rintro ⟨o, s⟩ ⟨h1, h2, h3⟩
      simp only at h1 h2 h3
      simp only [impl_ShortLog_L1]
      refine Ex.no (decide_eq_false (by omega)) (Ex.ret ?_)
      rw [List.drop_length, shortL, List.append_nil] at h3
      exact h3

theorem specIsIn_ex {l : List Int} (hl : l.length ≤ 1000000000000) (w : Int) : Ex (fun n => spec_isIn n l w) (· = decide (w ∈ l)) := by
  unfold spec_isIn
  refine Ex.be (a := if (l.any fun x => decide (x = w)) = true then .inl () else .inr ()) ?_ ?_
  · refine any_loop l 0 (fun x => decide (x = w)) ?_ ?_ ?_
    · intro k hk hq
      simp only [spec_isIn_L1, Int.toNat_natCast]
      exact Ex.yes (decide_eq_true (by omega)) (Ex.guard (by omega) (Ex.yes hq (Ex.ret rfl)))
    · intro k hk hq r hr
      simp only [spec_isIn_L1, Int.toNat_natCast]
      rw [w64_succ (by omega)]
      exact Ex.yes (decide_eq_true (by omega)) (Ex.guard (by omega) (Ex.no hq hr))
    · simp only [spec_isIn_L1]
      exact Ex.no (decide_eq_false (by omega)) (Ex.ret rfl)
  · have e : decide (w ∈ l) = l.any fun x => decide (x = w) := by
      rw [Bool.eq_iff_iff, List.any_eq_true, decide_eq_true_eq]
      constructor
      · intro h; exact ⟨w, h, decide_eq_true rfl⟩
      · rintro ⟨x, h1, h2⟩; rw [← of_decide_eq_true h2]; exact h1
    rw [e]
    cases l.any fun x => decide (x = w) with
    | true => exact Ex.ret rfl
    | false => exact Ex.ret rfl

theorem leave_ex {l : List Int} (hl : l.length ≤ 1000000000000) (w : Int) : Ex (fun n => spec_leave n l w) (· = l.filter fun x => !decide (x = w)) := by
  unfold spec_leave
  refine Ex.bind (P := fun x => x = l.filter fun x => !decide (x = w)) ?_ (fun r hr => Ex.ret hr)
  refine up l.length (fun k (o : List Int) => o.length ≤ k ∧ o ++ (l.drop k).filter (fun x => !decide (x = w)) = l.filter fun x => !decide (x = w)) (f := fun n o i => spec_leave_L1 l w n o i) ?_ ?_ 0 [] (Nat.zero_le _) ⟨by simp, by simp⟩
  · rintro k o hk ⟨h1, h2⟩ next
    simp only [spec_leave_L1, Int.toNat_natCast]
    refine Ex.yes (decide_eq_true (by omega)) (Ex.guard (by omega) ?_)
    rw [w64_succ (by omega)]
    rw [drop_at 0 hk, List.filter_cons] at h2
    refine Ex.be (a := if (!decide (l.getD k 0 = w)) = true then o ++ [l.getD k 0] else o) ?_ (next _ ?_)
    · refine Ex.ite (fun h4 => Ex.guard (by omega) (Ex.guard (by simp; omega) (Ex.ret ?_))) (fun h4 => Ex.ret ?_)
      · rw [if_pos h4]; rfl
      · rw [if_neg (by rw [h4]; simp)]
    · split
      · rename_i h4
        rw [if_pos h4] at h2
        exact ⟨by simp; omega, by rw [← h2]; simp⟩
      · rename_i h4
        rw [if_neg h4] at h2
        exact ⟨by omega, h2⟩
  · rintro o ⟨h1, h2⟩
    simp only [spec_leave_L1]
    refine Ex.no (decide_eq_false (by omega)) (Ex.ret ?_)
    rw [List.drop_length, List.filter_nil, List.append_nil] at h2
    exact h2

def listOp (g : List Int) : Nat → Bool := fun j => decide ((j : Int) ∈ g)
theorem listOp_add {g : List Int} {w : Int} (h : 0 ≤ w) : listOp (g ++ [w]) = upN (listOp g) w.toNat true := by
  funext j
  rw [listOp, upN, listOp, Bool.eq_iff_iff]
  by_cases e : j = w.toNat
  · rw [if_pos e]
    have : (j : Int) = w := by omega
    simp [this]
  · rw [if_neg e]
    have : ¬ (j : Int) = w := by omega
    simp [this]
theorem listOp_out {g : List Int} {w : Int} (h : 0 ≤ w) : listOp (g.filter fun x => !decide (x = w)) = upN (listOp g) w.toNat false := by
  funext j
  rw [listOp, upN, listOp, Bool.eq_iff_iff]
  by_cases e : j = w.toNat
  · rw [if_pos e]
    have : (j : Int) = w := by omega
    simp [this]
  · rw [if_neg e]
    have : ¬ (j : Int) = w := by omega
    simp [this]
theorem upN_same {op : Nat → Bool} {w : Nat} {b : Bool} (h : op w = b) : upN op w b = op := by
  funext j
  rw [upN]
  split
  · rename_i e; rw [e, h]
  · rfl

theorem specShort_ex {t : List Nod} (hn : NL t) (ht : t.length ≤ 400000000) {h : List Rcd} (hlh : h.length ≤ 1000000000000) : Ex (fun n => spec_ShortLog n t h) (· = shortR t h) := by
  unfold spec_ShortLog
  refine specBad_ex hn ht hlh (fun hv => Ex.ret ?_) (fun hv => ?_)
  · rw [shortR, hv]; rfl
  · rw [shortR, if_pos hv]
    obtain ⟨hT, hl, hr⟩ := validL_iff.1 hv
    refine Ex.bind (P := fun x => x = shortL (fun _ => false) h) ?_ (fun r hr => Ex.ret hr)
    refine up h.length (fun k (s : List Rcd × List Int) => s.1.length ≤ k ∧ s.2.length ≤ k ∧ s.1 ++ shortL (listOp s.2) (h.drop k) = shortL (fun _ => false) h) (f := fun n s i => spec_ShortLog_L1 h t n s.1 s.2 i) ?_ ?_ 0 ([], []) (Nat.zero_le _) ⟨by simp, by simp, rfl⟩
    · rintro k ⟨o, s⟩ hk ⟨h1, h2, h3⟩ next
      simp only at h1 h2 h3
      simp only [spec_ShortLog_L1, Int.toNat_natCast]
      have hw := (rcdOk_iff (hr _ (getD_mem (d := drcd) hk))).1
      refine Ex.yes (decide_eq_true (by omega)) ?_
      rw [drop_at drcd hk, shortL] at h3
      have hop : listOp s (h.getD k drcd).who.toNat = decide ((h.getD k drcd).who ∈ s) := by
        rw [listOp, Int.toNat_of_nonneg hw.1]
      refine Ex.bind (P := fun v => v.1.length ≤ k + 1 ∧ v.2.length ≤ k + 1 ∧ v.1 ++ shortL (listOp v.2) (h.drop (k + 1)) = shortL (fun _ => false) h) ?_ ?_
      · refine Ex.guard (by omega) (Ex.ite (fun hf => ?_) (fun hf => ?_))
        · rw [if_pos hf] at h3
          refine Ex.be (specIsIn_ex (by omega) _) ?_
          refine Ex.bind (P := fun v => v.1.length ≤ k + 1 ∧ v.2.length ≤ k + 1 ∧ v.1 ++ shortL (listOp v.2) (h.drop (k + 1)) = shortL (fun _ => false) h) ?_ (fun v hv => Ex.ret hv)
          refine Ex.ite (fun h4 => Ex.guard (by simp; omega) (Ex.be (leave_ex (by omega) _) (Ex.ret ⟨by simp; omega, ?_, ?_⟩))) (fun h4 => Ex.ret ⟨by simp only; omega, by simp only; omega, ?_⟩)
          · simp only
            exact Nat.le_trans (List.length_filter_le _ _) (by omega)
          · simp only
            rw [listOp_out hw.1]
            rw [if_pos (by rw [hop]; exact h4)] at h3
            rw [← h3]
            simp
          · simp only
            rw [if_neg (by rw [hop, h4]; simp), upN_same (by rw [hop, h4])] at h3
            exact h3
        · rw [if_neg (by rw [hf]; simp)] at h3
          rw [w64_succ (by omega)]
          refine Ex.be (ended_ex (by omega) (by omega) _) ?_
          refine Ex.be (a := endd (h.getD k drcd).who (h.drop (k + 1)) && !replL (h.getD k drcd).node (h.drop (k + 1))) ?_ ?_
          · refine Ex.ite (fun h4 => Ex.be (replaced_ex (by omega) hk) (Ex.ret (by rw [h4, Bool.true_and]))) (fun h4 => Ex.ret (by rw [h4, Bool.false_and]))
          · refine Ex.bind (P := fun v => v.1.length ≤ k + 1 ∧ v.2.length ≤ k + 1 ∧ v.1 ++ shortL (listOp v.2) (h.drop (k + 1)) = shortL (fun _ => false) h) ?_ (fun v hv => Ex.ret hv)
            refine Ex.ite (fun h4 => Ex.guard (by simp; omega) (Ex.guard (by simp; omega) (Ex.ret ⟨by simp; omega, by simp; omega, ?_⟩))) (fun h4 => Ex.ret ⟨by simp only; omega, by simp only; omega, ?_⟩)
            · rw [if_pos h4] at h3
              simp only
              have e : s ++ (([(h.getD k drcd).who].drop 0).take [(h.getD k drcd).who].length) = s ++ [(h.getD k drcd).who] := rfl
              rw [e, listOp_add hw.1, ← h3]
              simp
            · rw [if_neg (by rw [h4]; simp)] at h3
              exact h3
      · rintro ⟨o', s'⟩ h4
        show Ex (fun n => spec_ShortLog_L1 h t n o' s' (w64 ((k : Int) + 1))) _
        rw [w64_succ (by omega)]
        exact next (o', s') h4
    · rintro ⟨o, s⟩ ⟨h1, h2, h3⟩
      simp only at h1 h2 h3
      simp only [spec_ShortLog_L1]
      refine Ex.no (decide_eq_false (by omega)) (Ex.ret ?_)
      rw [List.drop_length, shortL, List.append_nil] at h3
      exact h3

/-! What the short log comes to. -/

theorem endd_cons (w : Int) (r : Rcd) (l : List Rcd) : endd w (r :: l) = ((r.fin && decide (r.who = w)) || endd w l) := rfl
theorem short_endd : ∀ (l : List Rcd) (op : Nat → Bool) (w : Int), (∀ r ∈ l, 0 ≤ r.who) → 0 ≤ w → op w.toNat = true → endd w l = true → endd w (shortL op l) = true
  | [], _, _, _, _, _, h => h
  | r :: l, op, w, hr, hw, ho, h => by
    have hr' := fun x hx => hr x (List.mem_cons_of_mem _ hx)
    have h0 := hr r (List.mem_cons_self ..)
    rw [shortL]
    by_cases hf : r.fin = true
    · rw [if_pos hf]
      by_cases hwho : r.who = w
      · rw [hwho, if_pos ho, endd_cons, hf, hwho]; simp
      · rw [endd_cons, decide_eq_false hwho, Bool.and_false, Bool.false_or] at h
        have h5 := short_endd l (upN op r.who.toNat false) w hr' hw (by rw [upN, if_neg (by omega)]; exact ho) h
        split
        · rw [endd_cons, h5, Bool.or_true]
        · exact h5
    · have hf' : r.fin = false := by simpa using hf
      rw [if_neg hf]
      rw [endd_cons, hf', Bool.false_and, Bool.false_or] at h
      split
      · rw [endd_cons, hf', Bool.false_and, Bool.false_or]
        refine short_endd l _ w hr' hw ?_ h
        rw [upN]
        split
        · rfl
        · exact ho
      · exact short_endd l op w hr' hw ho h

theorem short_mem : ∀ (l : List Rcd) (op : Nat → Bool) (x : Rcd), x ∈ shortL op l → x ∈ l ∧ (x.fin = false → replL x.node l = true)
  | [], _, x, h => by simp [shortL] at h
  | r :: l, op, x, h => by
    have step : ∀ op', x ∈ shortL op' l → x ∈ r :: l ∧ (x.fin = false → replL x.node (r :: l) = true) := by
      intro op' hx
      obtain ⟨h1, h2⟩ := short_mem l op' x hx
      exact ⟨List.mem_cons_of_mem _ h1, fun hf => by rw [replL, h2 hf, Bool.or_true]⟩
    rw [shortL] at h
    by_cases hf : r.fin = true
    · rw [if_pos hf] at h
      split at h
      · rcases List.mem_cons.1 h with rfl | h
        · exact ⟨List.mem_cons_self .., fun h' => by rw [hf] at h'; cases h'⟩
        · exact step _ h
      · exact step _ h
    · have hf' : r.fin = false := by simpa using hf
      rw [if_neg hf] at h
      split at h
      · rename_i hk
        rcases List.mem_cons.1 h with rfl | h
        · refine ⟨List.mem_cons_self .., fun _ => ?_⟩
          rw [Bool.and_eq_true] at hk
          rw [replL, hf', hk.1]; simp
        · exact step _ h
      · exact step _ h

theorem replL_mem : ∀ (l : List Rcd) (n : Int), replL n l = true → ∃ x ∈ l, x.fin = false ∧ x.node = n
  | [], _, h => by simp [replL] at h
  | r :: l, n, h => by
    rw [replL, Bool.or_eq_true] at h
    rcases h with h | h
    · simp only [Bool.and_eq_true, decide_eq_true_eq, Bool.not_eq_true'] at h
      exact ⟨r, List.mem_cons_self .., h.2.1, h.1⟩
    · obtain ⟨x, h1, h2⟩ := replL_mem l n h
      exact ⟨x, List.mem_cons_of_mem _ h1, h2⟩

/-- nothing in the short log is replaced there -/
theorem short_repl {l : List Rcd} {op : Nat → Bool} {n : Int} (h : replL n l = false) : replL n (shortL op l) = false := by
  rw [Bool.eq_false_iff]
  intro h'
  obtain ⟨x, h1, h2, h3⟩ := replL_mem _ _ h'
  have := (short_mem l op x h1).2 h2
  rw [h3, h] at this
  cases this

theorem short_twice : ∀ (l : List Rcd) (op : Nat → Bool), (∀ r ∈ l, 0 ≤ r.who) → shortL op (shortL op l) = shortL op l
  | [], _, _ => rfl
  | r :: l, op, hr => by
    have hr' := fun x hx => hr x (List.mem_cons_of_mem _ hx)
    have h0 := hr r (List.mem_cons_self ..)
    rw [shortL]
    by_cases hf : r.fin = true
    · rw [if_pos hf]
      by_cases ho : op r.who.toNat = true
      · rw [if_pos ho]
        show shortL op (r :: _) = _
        rw [shortL, if_pos hf, if_pos ho, short_twice l _ hr']
      · have ho' : op r.who.toNat = false := by simpa using ho
        rw [if_neg ho, upN_same ho']
        exact short_twice l op hr'
    · have hf' : r.fin = false := by simpa using hf
      rw [if_neg hf]
      split
      · rename_i hk
        rw [Bool.and_eq_true, Bool.not_eq_true'] at hk
        show shortL op (r :: _) = _
        rw [shortL, if_neg hf, short_twice l _ hr', if_pos]
        rw [short_endd l _ r.who hr' h0 (by rw [upN, if_pos rfl]) hk.1, short_repl hk.2]
        rfl
      · exact short_twice l op hr'

theorem short_pair : ∀ (l : List Rcd) (op : Nat → Bool), (shortL op l).Pairwise fun a b => a.fin = false → b.fin = false → a.node ≠ b.node
  | [], _ => List.Pairwise.nil
  | r :: l, op => by
    rw [shortL]
    by_cases hf : r.fin = true
    · rw [if_pos hf]
      split
      · exact List.Pairwise.cons (fun x _ h => by rw [hf] at h; cases h) (short_pair l _)
      · exact short_pair l _
    · rw [if_neg hf]
      split
      · rename_i hk
        rw [Bool.and_eq_true, Bool.not_eq_true'] at hk
        refine List.Pairwise.cons (fun x hx _ hxf e => ?_) (short_pair l _)
        have := (short_mem l _ x hx).2 hxf
        rw [← e, hk.2] at this
        cases this
      · exact short_pair l _

theorem short_len : ∀ (l : List Rcd) (op : Nat → Bool), (shortL op l).length ≤ l.length
  | [], _ => Nat.le_refl _
  | r :: l, op => by
    have h := short_len l
    rw [shortL]
    split
    · split
      · have := h (upN op r.who.toNat false); simp; omega
      · have := h (upN op r.who.toNat false); simp; omega
    · split
      · have := h (upN op r.who.toNat true); simp; omega
      · have := h op; simp; omega

theorem upd_twice (t : List Nod) (n v w : Int) : upd (upd t n v) n w = upd t n w := by
  unfold upd
  rw [List.set_set]
  rcases Nat.lt_or_ge n.toNat t.length with h | h
  · rw [getD_set' h, if_pos rfl]
  · rw [List.set_eq_of_length_le h, List.set_eq_of_length_le h]
theorem upd_comm (t : List Nod) {n m : Int} (hn : 0 ≤ n) (hm : 0 ≤ m) (h : n ≠ m) (v w : Int) : upd (upd t n v) m w = upd (upd t m w) n v := by
  have e : n.toNat ≠ m.toNat := by omega
  have g : ∀ (i j : Nat) (x : Nod), i ≠ j → (t.set i x).getD j dnod = t.getD j dnod := fun i j x hij => by
    rw [List.getD_eq_getElem?_getD, List.getElem?_set_ne hij, List.getD_eq_getElem?_getD]
  unfold upd
  rw [g _ _ _ e, g _ _ _ (fun h => e h.symm), List.set_comm _ _ e]

theorem redo_skip : ∀ (l : List Rcd) (t : List Nod) (n v : Int), (∀ r ∈ l, 0 ≤ r.node) → 0 ≤ n → replL n l = true → redoL l (upd t n v) = redoL l t
  | [], _, _, _, _, _, h => by simp [replL] at h
  | r :: l, t, n, v, hr, hn, h => by
    have hr' := fun x hx => hr x (List.mem_cons_of_mem _ hx)
    have h0 := hr r (List.mem_cons_self ..)
    rw [redoL, redoL]
    by_cases hd : (!r.fin && endd r.who l) = true
    · rw [if_pos hd, if_pos hd]
      by_cases hnode : r.node = n
      · rw [hnode, upd_twice]
      · rw [replL, decide_eq_false hnode, Bool.false_and, Bool.false_or] at h
        rw [upd_comm t hn h0 (fun e => hnode e.symm)]
        exact redo_skip l _ n v hr' hn h
    · rw [if_neg hd, if_neg hd]
      rw [Bool.not_eq_true] at hd
      rw [replL, hd, Bool.and_false, Bool.false_or] at h
      exact redo_skip l _ n v hr' hn h

theorem redo_short : ∀ (l : List Rcd) (op : Nat → Bool) (t : List Nod), (∀ r ∈ l, 0 ≤ r.who ∧ 0 ≤ r.node) → redoL (shortL op l) t = redoL l t
  | [], _, _, _ => rfl
  | r :: l, op, t, hr => by
    have hr' := fun x hx => hr x (List.mem_cons_of_mem _ hx)
    have h0 := hr r (List.mem_cons_self ..)
    rw [shortL, redoL]
    by_cases hf : r.fin = true
    · have e : ∀ (x : Rcd) (l' : List Rcd), x.fin = true → redoL (x :: l') t = redoL l' t := fun x l' hx => by rw [redoL, hx]; rfl
      rw [if_pos hf, hf]
      split
      · rw [e r _ hf]
        exact redo_short l _ t hr'
      · exact redo_short l _ t hr'
    · have hf' : r.fin = false := by simpa using hf
      rw [if_neg hf, hf', Bool.not_false, Bool.true_and]
      split
      · rename_i hk
        rw [Bool.and_eq_true, Bool.not_eq_true'] at hk
        rw [redoL, hf', short_endd l _ r.who (fun x hx => (hr' x hx).1) h0.1 (by rw [upN, if_pos rfl]) hk.1, hk.1]
        exact redo_short l _ _ hr'
      · rename_i hk
        rw [redo_short l op t hr']
        cases he : endd r.who l with
        | false => rfl
        | true =>
          rw [he, Bool.true_and, Bool.not_eq_true, Bool.not_eq_false'] at hk
          rw [if_pos rfl]
          exact (redo_skip l t r.node r.value (fun x hx => (hr' x hx).2) h0.2 hk).symm

theorem loser_none (w : Int) : ∀ (l : List Rcd), (∀ r ∈ l, r.who ≠ w) → loserL w l = false
  | [], _ => rfl
  | r :: l, h => by
    rw [loserL, decide_eq_false (h r (List.mem_cons_self ..)), Bool.false_and, Bool.false_or]
    exact loser_none w l (fun x hx => h x (List.mem_cons_of_mem _ hx))
/-- nobody loses in a short log -/
theorem loser_short (w : Int) (hw : 0 ≤ w) : ∀ (l : List Rcd) (op : Nat → Bool), (∀ r ∈ l, 0 ≤ r.who) → loserL w (shortL op l) = false
  | [], _, _ => rfl
  | r :: l, op, hr => by
    have hr' := fun x hx => hr x (List.mem_cons_of_mem _ hx)
    have h0 := hr r (List.mem_cons_self ..)
    rw [shortL]
    by_cases hf : r.fin = true
    · rw [if_pos hf]
      split
      · rw [loserL, hf, loser_short w hw l _ hr']; simp
      · exact loser_short w hw l _ hr'
    · rw [if_neg hf]
      split
      · rename_i hk
        rw [Bool.and_eq_true, Bool.not_eq_true'] at hk
        rw [loserL, loser_short w hw l _ hr', Bool.or_false]
        by_cases e : r.who = w
        · rw [← e, short_endd l _ r.who hr' h0 (by rw [upN, if_pos rfl]) hk.1]; simp
        · rw [decide_eq_false e, Bool.false_and]
      · exact loser_short w hw l _ hr'
end Go.Proofs.Ytdkmgkeaebcobaa
