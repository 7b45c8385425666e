/- Plain facts: a rule for loops, names, trees. Conditions: none. -/
import Derived.Test.YthlfcfcfipahiaaV0
import Derived.Test.YthlfcfcfipahiaaTT
namespace Go.Proofs.Ythlfcfcfipahiaa
open Go

theorem implName_ex (s : Str) : Ex (fun n => impl_isName n s) (· = nameOk s) := by
  unfold impl_isName
  cases hw : impl_within ((s.length : Nat) : Int) 1 4 with
  | false =>
    refine Ex.yes rfl (Ex.ret ?_)
    simp only [impl_within, Bool.and_eq_false_iff, decide_eq_false_iff_not] at hw
    rw [eq_comm, Bool.eq_false_iff]
    intro h
    simp only [nameOk, Bool.and_eq_true, decide_eq_true_eq] at h
    omega
  | true =>
    simp only [impl_within, Bool.and_eq_true, decide_eq_true_eq] at hw
    have e : nameOk s = s.all ch := by
      simp only [nameOk]
      rw [decide_eq_true (by omega), decide_eq_true (by omega)]; simp
    refine Ex.no rfl ?_
    refine Ex.be (a := if s.all ch = true then .inr () else .inl ()) ?_ ?_
    · refine upU s.length (fun k => (s.drop k).all ch = s.all ch) ?_ ?_ 0 (Nat.zero_le _) (by simp)
      · intro k hk hi next
        simp only [impl_isName_L1, Int.toNat_natCast]
        rw [all_split ch 0 hk] at hi
        refine Ex.yes (decide_eq_true (by omega)) (Ex.guard (by omega) ?_)
        refine Ex.be (a := !ch (s.getD k 0)) ?_ ?_
        · refine Ex.ite (fun h => Ex.ret ?_) (fun h => Ex.guard (by omega) (Ex.ret ?_))
          · have := of_decide_eq_true h
            rw [ch, decide_eq_false (by omega)]; rfl
          · have := of_decide_eq_false h
            rw [ch, decide_eq_true (p := 97 ≤ _) (by omega), Bool.true_and]
            rcases Nat.lt_or_ge 122 (s.getD k 0).toNat with h | h
            · rw [decide_eq_true (by omega), decide_eq_false (by omega)]; rfl
            · rw [decide_eq_false (by omega), decide_eq_true (by omega)]; rfl
        · cases hc : ch (s.getD k 0) with
          | false =>
            rw [hc, Bool.false_and] at hi
            refine Ex.yes rfl (Ex.ret ?_)
            rw [← hi]; rfl
          | true =>
            rw [hc, Bool.true_and] at hi
            rw [w64_succ (by omega)]
            exact Ex.no rfl (next hi)
      · intro hi
        simp only [impl_isName_L1]
        refine Ex.no (decide_eq_false (by omega)) (Ex.ret ?_)
        rw [← hi]; simp
    · rw [e]
      cases s.all ch with
      | true => exact Ex.ret rfl
      | false => exact Ex.ret rfl

theorem specName_ex {s : Str} (hs : s.length ≤ 1000000000000) : Ex (fun n => spec_validName n s) (· = nameOk s) := by
  unfold spec_validName
  refine Ex.be (a := if s.all ch = true then .inr () else .inl ()) ?_ ?_
  · refine upU s.length (fun k => (s.drop k).all ch = s.all ch) ?_ ?_ 0 (Nat.zero_le _) (by simp)
    · intro k hk hi next
      simp only [spec_validName_L1, Int.toNat_natCast]
      rw [all_split ch 0 hk] at hi
      refine Ex.yes (decide_eq_true (by omega)) (Ex.guard (by omega) ?_)
      have hlt := UInt8.toNat_lt (s.getD k 0)
      have e : spec_inRange (w64 ((s.getD k 0).toNat : Int)) 97 122 = ch (s.getD k 0) := by
        rw [w64_id (by omega) (by omega), spec_inRange, ch, Bool.eq_iff_iff]
        simp only [Bool.and_eq_true, decide_eq_true_eq]; omega
      rw [e]
      cases hc : ch (s.getD k 0) with
      | false =>
        rw [hc, Bool.false_and] at hi
        refine Ex.yes rfl (Ex.ret ?_)
        rw [← hi]; rfl
      | true =>
        rw [hc, Bool.true_and] at hi
        rw [w64_succ (by omega)]
        exact Ex.no rfl (next hi)
    · intro hi
      simp only [spec_validName_L1]
      refine Ex.no (decide_eq_false (by omega)) (Ex.ret ?_)
      rw [← hi]; simp
  · have e : spec_inRange ((s.length : Nat) : Int) 1 4 = (decide (1 ≤ s.length) && decide (s.length ≤ 4)) := by
      rw [spec_inRange, Bool.eq_iff_iff]
      simp only [Bool.and_eq_true, decide_eq_true_eq]; omega
    rw [nameOk, e]
    cases s.all ch with
    | true => exact Ex.ret (by simp)
    | false => exact Ex.ret (by simp)

theorem implKid_ex {l : List Nod} (hl : l.length ≤ 1000000000000) (p : Int) (s : Str) : Ex (fun n => impl_kidIn n l p s) (· = firstAt (sib p s) l 0) := by
  unfold impl_kidIn
  refine Ex.bind (P := fun v => (match v with | .inl i => i | .inr _ => -1) = firstAt (sib p s) l 0) ?_ ?_
  · refine upU l.length (fun k => firstAt (sib p s) (l.drop k) k = firstAt (sib p s) l 0) ?_ ?_ 0 (Nat.zero_le _) rfl
    · intro k hk hi next
      simp only [impl_kidIn_L1, Int.toNat_natCast]
      rw [drop_at dnod hk, firstAt] at hi
      refine Ex.yes (decide_eq_true (by omega)) (Ex.guard (by omega) ?_)
      refine Ex.ite (fun h => Ex.ret ?_) (fun h => ?_)
      · have h : sib p s (l.getD k dnod) = true := h
        rw [if_pos h] at hi; exact hi
      · have h : sib p s (l.getD k dnod) = false := h
        rw [if_neg (by rw [h]; simp)] at hi
        rw [w64_succ (by omega)]
        exact next hi
    · intro hi
      simp only [impl_kidIn_L1]
      refine Ex.no (decide_eq_false (by omega)) (Ex.ret ?_)
      rw [List.drop_length, firstAt] at hi; exact hi
  · intro v hv
    rcases v with i | u
    · exact Ex.ret hv
    · exact Ex.ret hv

theorem specKid_ex {l : List Nod} (hl : l.length ≤ 1000000000000) (p : Int) (s : Str) : Ex (fun n => spec_kid n l p s) (· = firstAt (sib p s) (l.drop 1) 1) := by
  unfold spec_kid
  refine Ex.bind (P := fun v => (match v with | .inl i => i | .inr _ => -1) = firstAt (sib p s) (l.drop 1) 1) ?_ ?_
  · rcases Nat.eq_zero_or_pos l.length with hz | hz
    · have : l = [] := List.eq_nil_of_length_eq_zero hz
      subst this
      refine Ex.succ ?_
      simp only [spec_kid_L1]
      exact Ex.no rfl (Ex.ret rfl)
    · refine upU l.length (fun k => firstAt (sib p s) (l.drop k) k = firstAt (sib p s) (l.drop 1) 1) ?_ ?_ 1 hz rfl
      · intro k hk hi next
        simp only [spec_kid_L1, Int.toNat_natCast]
        rw [drop_at dnod hk, firstAt] at hi
        refine Ex.yes (decide_eq_true (by omega)) (Ex.guard (by omega) ?_)
        refine Ex.be (a := sib p s (l.getD k dnod)) (Ex.ite (fun h => Ex.guard (by omega) (Ex.ret ?_)) (fun h => Ex.ret ?_)) ?_
        · rw [sib, h]; simp
        · rw [sib, h]; simp
        · cases h : sib p s (l.getD k dnod) with
          | true => rw [if_pos h] at hi; exact Ex.yes rfl (Ex.ret hi)
          | false =>
            rw [if_neg (by rw [h]; simp)] at hi
            rw [w64_succ (by omega)]
            exact Ex.no rfl (next hi)
      · intro hi
        simp only [spec_kid_L1]
        refine Ex.no (decide_eq_false (by omega)) (Ex.ret ?_)
        rw [List.drop_length, firstAt] at hi; exact hi
  · intro v hv
    rcases v with i | u
    · exact Ex.ret hv
    · exact Ex.ret hv

theorem depth_loop {t : List Nod} (hl : t.length ≤ 1000000000) : ∀ (i : Nat) (d : Int), i < t.length → (∀ j, j ≤ i → PO t j) → 0 ≤ d → d + i ≤ 1000000000 →
    Ex (fun n => spec_depth_L1 t n (i : Int) d) (· = d + (dp t i : Nat)) := by
  intro i
  induction i using Nat.strongRecOn with
  | ind i ih =>
    intro d hi hp hd hdi
    refine Ex.succ ?_
    simp only [spec_depth_L1, Int.toNat_natCast]
    have hpi := hp i (Nat.le_refl _)
    refine Ex.guard (by omega) ?_
    rcases Nat.eq_zero_or_pos i with hz | hz
    · have e : (t.getD i dnod).parent = -1 := by rw [PO, if_pos hz] at hpi; exact hpi
      refine Ex.no (decide_eq_false (by omega)) (Ex.ret ?_)
      rw [dp, dif_neg (by omega)]; simp
    · rw [PO, if_neg (by omega)] at hpi
      refine Ex.yes (decide_eq_true hpi.1) (Ex.guard (by omega) ?_)
      rw [w64_id (by omega) (by omega)]
      have := ih (t.getD i dnod).parent.toNat hpi.2 (d + 1) (by omega) (fun j hj => hp j (by omega)) (by omega) (by omega)
      rw [Int.toNat_of_nonneg hpi.1] at this
      refine Ex.mono this ?_
      intro r hr
      rw [hr, dp.eq_1 t i, dif_pos hpi]; omega

theorem depth_ex {t : List Nod} (hl : t.length ≤ 400000000) {i : Nat} (hi : i < t.length) (hp : ∀ j, j ≤ i → PO t j) : Ex (fun n => spec_depth n t (i : Int)) (· = (dp t i : Nat)) := by
  unfold spec_depth
  refine Ex.be (depth_loop (by omega) i 0 hi hp (Int.le_refl 0) (by omega)) (Ex.ret (by simp))

theorem specNode_ex {t : List Nod} (hn : NL t) (hl : t.length ≤ 400000000) {i : Nat} (hi : i < t.length) (ho : okTo t i) : Ex (fun n => spec_validNode n t (i : Int)) (· = nodeOk t i) := by
  unfold spec_validNode
  simp only [Int.toNat_natCast]
  refine Ex.guard (by omega) ?_
  have e : spec_inRange (t.getD i dnod).value (-1000) 1000 = rv (t.getD i dnod).value := rfl
  rw [e, nodeOk]
  cases hr : rv (t.getD i dnod).value with
  | false => exact Ex.yes rfl (Ex.ret rfl)
  | true =>
    refine Ex.no rfl ?_
    rw [Bool.true_and]
    rcases Nat.eq_zero_or_pos i with hz | hz
    · refine Ex.yes (decide_eq_true (by omega)) (Ex.guard (by omega) (Ex.be (a := decide ((t.getD i dnod).parent = -1) && decide ((t.getD i dnod).name = [])) ?_ (Ex.ret ?_)))
      · refine Ex.ite (fun h => Ex.guard (by omega) (Ex.ret ?_)) (fun h => Ex.ret ?_)
        · rw [h]; rfl
        · rw [h]; rfl
      · rw [if_pos hz]
    · refine Ex.no (decide_eq_false (by omega)) (Ex.guard (by omega) ?_)
      rw [w64_id (by omega) (by omega), if_neg (by omega)]
      refine Ex.bind (P := fun r => r = _) ?_ (fun r hr => Ex.ret hr)
      have e2 : spec_inRange (t.getD i dnod).parent 0 ((i : Int) - 1) = (decide (0 ≤ (t.getD i dnod).parent) && decide ((t.getD i dnod).parent ≤ (i : Int) - 1)) := rfl
      rw [e2]
      refine Ex.ite (fun h => ?_) (fun h => ?_)
      · rw [h, Bool.true_and]
        simp only [Bool.and_eq_true, decide_eq_true_eq] at h
        refine Ex.guard (by omega) (Ex.be (specName_ex (hn.2 _ (getD_mem hi))) ?_)
        refine Ex.ite (fun h1 => ?_) (fun h1 => ?_)
        · rw [h1, Bool.true_and]
          refine Ex.guard (by omega) (Ex.guard (by omega) (Ex.guard (by omega) ?_))
          rw [List.drop_zero]
          refine Ex.be (specKid_ex (by simp; omega) _ _) ?_
          have h3 := no_root (nodeOk_PO (ho 0 hz)) h.1 (t.getD i dnod).name hz hi
          refine Ex.ite (fun h4 => ?_) (fun h4 => ?_)
          · rw [h3.1 (of_decide_eq_true h4)]
            refine Ex.be (depth_ex hl hi (fun j hj => ?_)) (Ex.ret (by simp; omega))
            rcases Nat.eq_or_lt_of_le hj with rfl | hj
            · rw [PO, if_neg (by omega)]; omega
            · exact nodeOk_PO (ho j hj)
          · have := of_decide_eq_false h4
            have h5 : (t.take i).any (sib (t.getD i dnod).parent (t.getD i dnod).name) = true := by
              rw [← Bool.not_eq_false]; exact fun h => this (h3.2 h)
            rw [h5]; exact Ex.ret rfl
        · rw [h1]; exact Ex.ret rfl
      · rw [h]; exact Ex.ret rfl

theorem specTree_ex {t : List Nod} (hn : NL t) (hl : t.length ≤ 400000000) : Ex (fun n => spec_validTree n t) (· = validT t) := by
  unfold spec_validTree
  refine Ex.be (a := if (List.range t.length).all (nodeOk t) = true then .inr () else .inl ()) ?_ ?_
  · refine upU t.length (fun k => okTo t k) ?_ ?_ 0 (Nat.zero_le _) (fun j hj => by omega)
    · intro k hk hi next
      simp only [spec_validTree_L1]
      refine Ex.yes (decide_eq_true (by omega)) (Ex.be (specNode_ex hn hl hk hi) ?_)
      cases h : nodeOk t k with
      | false =>
        refine Ex.yes rfl (Ex.ret ?_)
        rw [all_range_false hk h]; rfl
      | true =>
        rw [w64_succ (by omega)]
        refine Ex.no rfl (next (fun j hj => ?_))
        rcases Nat.eq_or_lt_of_le (Nat.le_of_lt_succ hj) with rfl | h1
        · exact h
        · exact hi j h1
    · intro hi
      simp only [spec_validTree_L1]
      refine Ex.no (decide_eq_false (by omega)) (Ex.ret ?_)
      rw [all_range.2 hi]; rfl
  · have e : spec_inRange ((t.length : Nat) : Int) 1 12 = (decide (1 ≤ t.length) && decide (t.length ≤ 12)) := by
      rw [spec_inRange, Bool.eq_iff_iff]
      simp only [Bool.and_eq_true, decide_eq_true_eq]; omega
    rw [validT, e]
    cases (List.range t.length).all (nodeOk t) with
    | true => exact Ex.ret (by simp)
    | false => exact Ex.ret (by simp)

theorem implTree_ex (t : List Nod) : Ex (fun n => impl_ValidTree n t) (· = validT t) := by
  unfold impl_ValidTree
  refine Ex.ite (fun h => Ex.ret ?_) (fun h => ?_)
  · simp only [Bool.or_eq_true, decide_eq_true_eq] at h
    rw [eq_comm, Bool.eq_false_iff]
    intro h'
    simp only [validT, Bool.and_eq_true, decide_eq_true_eq] at h'
    omega
  · simp only [Bool.or_eq_false_iff, decide_eq_false_iff_not] at h
    have hl : 1 ≤ t.length ∧ t.length ≤ 12 := by omega
    refine Ex.guard (by omega) ?_
    have hbad : (decide ((t.getD 0 dnod).parent = -1) && decide ((t.getD 0 dnod).name = [])) = false → validT t = false := by
      intro hf
      rw [Bool.eq_false_iff]
      intro h'
      simp only [validT, Bool.and_eq_true] at h'
      have := all_range.1 h'.2 0 (by omega)
      rw [nodeOk, if_pos rfl, hf, Bool.and_false] at this
      cases this
    refine Ex.be (a := !(decide ((t.getD 0 dnod).parent = -1) && decide ((t.getD 0 dnod).name = []))) ?_ ?_
    · cases hp : decide ((t.getD 0 dnod).parent = -1) with
      | true => exact Ex.no rfl (Ex.guard (by omega) (Ex.ret rfl))
      | false => exact Ex.yes rfl (Ex.ret rfl)
    · refine Ex.ite (fun hb => Ex.ret ?_) (fun hb => ?_)
      · rw [hbad (notT hb)]
      · have hroot : (decide ((t.getD 0 dnod).parent = -1) && decide ((t.getD 0 dnod).name = [])) = true := notF hb
        have e : validT t = (List.range t.length).all (nodeOk t) := by
          rw [validT, decide_eq_true hl.1, decide_eq_true hl.2]; simp
        refine Ex.guard (by omega) ?_
        refine Ex.be (a := if (List.range t.length).all (nodeOk t) = true then .inr () else .inl ()) ?_ ?_
        · refine up t.length (fun k (ds : List Int) => ds.length = t.length ∧ okTo t k ∧ ∀ j, j < t.length → (j < k ∨ j = 0) → ds.getD j 0 = (dp t j : Nat)) (f := fun n ds i => impl_ValidTree_L1 t n ds i) ?_ ?_ 0 _ (Nat.zero_le _) ⟨by simp, fun j hj => by omega, ?_⟩
          · rintro k ds hk ⟨h1, h2, h3⟩ next
            simp only [impl_ValidTree_L1, Int.toNat_natCast]
            refine Ex.yes (decide_eq_true (by omega)) ?_
            refine Ex.bind (P := fun v => (nodeOk t k = false ∧ v = .inl ()) ∨ (nodeOk t k = true ∧ ∃ ds' : List Int, v = .inr ds' ∧ (ds'.length = t.length ∧ ∀ j, j < t.length → (j < k + 1 ∨ j = 0) → ds'.getD j 0 = ((dp t j : Nat) : Int)))) ?_ ?_
            · refine Ex.guard (by omega) ?_
              have e1 : impl_within (t.getD k dnod).value (-1000) 1000 = rv (t.getD k dnod).value := rfl
              rw [e1, nodeOk]
              cases hr : rv (t.getD k dnod).value with
              | false => exact Ex.yes rfl (Ex.ret (.inl ⟨rfl, rfl⟩))
              | true =>
                rw [Bool.true_and]
                refine Ex.no rfl ?_
                rcases Nat.eq_zero_or_pos k with hz | hz
                · subst hz
                  refine Ex.yes rfl (Ex.ret (.inr ⟨?_, ds, rfl, h1, fun j hj hj' => h3 j hj (by omega)⟩))
                  rw [if_pos rfl]; exact hroot
                · refine Ex.no (decide_eq_false (by omega)) ?_
                  rw [if_neg (by omega), w64_id (by omega) (by omega)]
                  have e2 : impl_within (t.getD k dnod).parent 0 ((k : Int) - 1) = (decide (0 ≤ (t.getD k dnod).parent) && decide ((t.getD k dnod).parent ≤ (k : Int) - 1)) := rfl
                  rw [e2]
                  refine Ex.be (a := !((decide (0 ≤ (t.getD k dnod).parent) && decide ((t.getD k dnod).parent ≤ (k : Int) - 1)) && nameOk (t.getD k dnod).name)) ?_ ?_
                  · cases (decide (0 ≤ (t.getD k dnod).parent) && decide ((t.getD k dnod).parent ≤ (k : Int) - 1)) with
                    | false => exact Ex.yes rfl (Ex.ret rfl)
                    | true => exact Ex.no rfl (Ex.be (implName_ex _) (Ex.ret rfl))
                  · rw [← Bool.and_assoc]
                    refine Ex.ite (fun hb1 => ?_) (fun hb1 => ?_)
                    · rw [show ((decide (0 ≤ (t.getD k dnod).parent) && decide ((t.getD k dnod).parent ≤ (k : Int) - 1)) && nameOk (t.getD k dnod).name) = false from notT hb1]
                      exact Ex.ret (.inl ⟨rfl, rfl⟩)
                    · have hb2 : ((decide (0 ≤ (t.getD k dnod).parent) && decide ((t.getD k dnod).parent ≤ (k : Int) - 1)) && nameOk (t.getD k dnod).name) = true := notF hb1
                      rw [hb2, Bool.true_and]
                      simp only [Bool.and_eq_true, decide_eq_true_eq] at hb2
                      refine Ex.guard (by omega) ?_
                      rw [List.drop_zero]
                      refine Ex.be (implKid_ex (by simp; omega) _ _) ?_
                      have hf := firstAt_iff (sib (t.getD k dnod).parent (t.getD k dnod).name) (t.take k) 0
                      refine Ex.ite (fun h4 => ?_) (fun h4 => ?_)
                      · rw [hf.1 (of_decide_eq_true h4)]; exact Ex.ret (.inl ⟨rfl, rfl⟩)
                      · have h5 : (t.take k).any (sib (t.getD k dnod).parent (t.getD k dnod).name) = false := by
                          rw [← Bool.not_eq_true, ← hf]; exact of_decide_eq_false h4
                        rw [h5]
                        refine Ex.guard (by omega) (Ex.guard (by omega) (Ex.guard (by simp; omega) ?_))
                        have e3 := h3 (t.getD k dnod).parent.toNat (by omega) (.inl (by omega))
                        have e4 : dp t k = dp t (t.getD k dnod).parent.toNat + 1 := by rw [dp.eq_1 t k, dif_pos (by omega)]
                        have e5 := dp_le (t := t) (t.getD k dnod).parent.toNat
                        have e6 : w64 (ds.getD (t.getD k dnod).parent.toNat 0 + 1) = (dp t k : Nat) := by
                          rw [e3, w64_id (by omega) (by omega)]; omega
                        refine Ex.ite (fun h6 => ?_) (fun h6 => ?_)
                        · have := of_decide_eq_true h6
                          rw [getD_set' (by omega), if_pos rfl, e6] at this
                          rw [decide_eq_false (by omega)]; exact Ex.ret (.inl ⟨rfl, rfl⟩)
                        · have := of_decide_eq_false h6
                          rw [getD_set' (by omega), if_pos rfl, e6] at this
                          rw [decide_eq_true (by omega), e6]
                          refine Ex.ret (.inr ⟨rfl, _, rfl, by simpa using h1, fun j hj hj' => ?_⟩)
                          rw [getD_set' (by omega)]
                          split
                          · rename_i e; subst e; omega
                          · exact h3 j hj (by omega)
            · rintro v (⟨hf, rfl⟩ | ⟨hf, ds', rfl, h4, h5⟩)
              · refine Ex.ret ?_
                rw [all_range_false hk hf]; rfl
              · show Ex (fun n => impl_ValidTree_L1 t n ds' (w64 ((k : Int) + 1))) _
                rw [w64_succ (by omega)]
                refine next ds' ⟨h4, fun j hj => ?_, h5⟩
                rcases Nat.eq_or_lt_of_le (Nat.le_of_lt_succ hj) with rfl | h6
                · exact hf
                · exact h2 j h6
          · rintro ds ⟨h1, h2, h3⟩
            simp only [impl_ValidTree_L1]
            refine Ex.no (decide_eq_false (by omega)) (Ex.ret ?_)
            rw [all_range.2 h2]; rfl
          · intro j hj hj'
            obtain rfl : j = 0 := by omega
            have hp : (t.getD 0 dnod).parent = -1 := by simpa using (Bool.and_eq_true_iff.1 hroot).1
            rw [dp, dif_neg (by omega), List.getD_eq_getElem?_getD, List.getElem?_replicate]
            split
            · rfl
            · rfl
        · rw [e]
          cases (List.range t.length).all (nodeOk t) with
          | true => exact Ex.ret rfl
          | false => exact Ex.ret rfl
end Go.Proofs.Ythlfcfcfipahiaa
