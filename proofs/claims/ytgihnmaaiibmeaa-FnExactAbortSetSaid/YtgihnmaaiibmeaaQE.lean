/- Plain facts: the laws on what is undone. Conditions: none. -/
import Derived.Test.YtgihnmaaiibmeaaQD
namespace Go.Proofs.Ytgihnmaaiibmeaa
open Go
set_option linter.unusedVariables false

theorem nodup_len : ∀ (A s : List Int), s.Nodup → (∀ t ∈ s, t ∈ A) → s.length ≤ A.length
  | [], s, _, h => by
    cases s with
    | nil => simp
    | cons a l => exact absurd (h a (by simp)) (by simp)
  | a :: A, s, hn, h => by
    by_cases ha : a ∈ s
    · have h1 := nodup_len A (s.erase a) (hn.erase a) (fun t ht => by
        obtain ⟨h2, h3⟩ := (List.Nodup.mem_erase_iff hn).1 ht
        rcases List.mem_cons.1 (h t h3) with e | e
        · exact absurd e h2
        · exact e)
      rw [List.length_erase_of_mem ha] at h1
      simp only [List.length_cons]
      omega
    · have h1 := nodup_len A s hn (fun t ht => by
        rcases List.mem_cons.1 (h t ht) with rfl | e
        · exact absurd ht ha
        · exact e)
      simp only [List.length_cons]
      omega

structure Seen (h : List Acc) (who : Int) (s : List Int) (i : Nat) : Prop where
  nd : s.Nodup
  ok : ∀ t ∈ s, (0 ≤ t ∧ t ≤ 3) ∧ Rch h who t
  hw : who ∈ s
  cl : ∀ j, j < i → ∀ r : Int, 0 ≤ r ∧ r ≤ 3 → rf h r (s.getD j 0) = true → r ∈ s
  le : i ≤ s.length

theorem Seen.len {h : List Acc} {who : Int} {s : List Int} {i : Nat} (hs : Seen h who s i) : s.length ≤ 4 := by
  have := nodup_len [0, 1, 2, 3] s hs.nd (fun t ht => by
    have := (hs.ok t ht).1
    simp only [List.mem_cons, List.not_mem_nil, or_false]
    omega)
  simpa using this

theorem seen_in {h : List Acc} (hl : h.length < 1000000) {who : Int} {i : Nat} : ∀ (m k : Nat) (s : List Int), k + m = 4 → Seen h who s i → i < s.length →
    (∀ r : Int, 0 ≤ r ∧ r < (k : Int) → rf h r (s.getD i 0) = true → r ∈ s) → Ex (fun n => spec_AbortSet_L2 h (i : Int) n s (k : Int)) (fun s' => Seen h who s' (i + 1))
  | 0, k, s, hk, hs, hi, hc => by
    refine Ex.succ ?_
    simp only [spec_AbortSet_L2]
    refine Ex.no (decide_eq_false (by omega)) (Ex.ret ⟨hs.nd, hs.ok, hs.hw, fun j hj r hr hrf => ?_, hi⟩)
    rcases Nat.lt_or_ge j i with h1 | h1
    · exact hs.cl j h1 r hr hrf
    · obtain rfl : j = i := by omega
      exact hc r (by omega) hrf
  | m + 1, k, s, hk, hs, hi, hc => by
    refine Ex.succ ?_
    have hlen := hs.len
    simp only [spec_AbortSet_L2, Int.toNat_natCast]
    rw [w64_succ (by omega)]
    refine Ex.yes (decide_eq_true (by omega)) (Ex.guard (by omega) (Ex.be (specReads1_ex hl _ _) ?_))
    refine Ex.be (a := rf h (k : Int) (s.getD i 0) && !s.contains (k : Int)) ?_ ?_
    · refine Ex.ite (fun hb => Ex.be (specIn_ex (by omega) _) (Ex.ret (by rw [hb]; rfl))) (fun hb => Ex.ret (by rw [hb]; rfl))
    · cases hb : rf h (k : Int) (s.getD i 0) && !s.contains (k : Int) with
      | true =>
        rw [Bool.and_eq_true, Bool.not_eq_true', Bool.eq_false_iff, ne_eq, List.contains_iff_mem] at hb
        refine Ex.be (Ex.yes rfl (Ex.guard (by simp; omega) (Ex.ret rfl))) ?_
        rw [view_all]
        have hg : ∀ j, j < s.length → (s ++ [(k : Int)]).getD j 0 = s.getD j 0 := by
          intro j hj
          rw [List.getD_eq_getElem?_getD, List.getElem?_append_left hj, List.getD_eq_getElem?_getD]
        have hx := hs.ok _ (getD_mem (d := (0 : Int)) hi)
        refine seen_in hl m (k + 1) _ (by omega) ⟨?_, ?_, ?_, ?_, ?_⟩ (by simp; omega) ?_
        · rw [List.nodup_append]
          refine ⟨hs.nd, by simp, ?_⟩
          intro a ha b hb2
          simp at hb2
          subst hb2
          rintro rfl
          exact hb.2 ha
        · intro t ht
          rcases List.mem_append.1 ht with ht | ht
          · exact hs.ok t ht
          · simp at ht
            subst ht
            exact ⟨by omega, .step hx.2 (by omega) hb.1⟩
        · exact List.mem_append.2 (.inl hs.hw)
        · intro j hj r hr hrf
          rw [hg j (by omega)] at hrf
          exact List.mem_append.2 (.inl (hs.cl j hj r hr hrf))
        · have := hs.le
          simp; omega
        · intro r hr hrf
          rw [hg i hi] at hrf
          by_cases e : r = (k : Int)
          · subst e; simp
          · exact List.mem_append.2 (.inl (hc r (by omega) hrf))
      | false =>
        refine Ex.be (Ex.no rfl (Ex.ret rfl)) ?_
        refine seen_in hl m (k + 1) s (by omega) hs hi ?_
        intro r hr hrf
        by_cases e : r = (k : Int)
        · subst e
          rw [hrf, Bool.true_and, Bool.not_eq_false', List.contains_iff_mem] at hb
          exact hb
        · exact hc r (by omega) hrf

theorem seen_out {h : List Acc} (hl : h.length < 1000000) {who : Int} : ∀ (m i : Nat) (s : List Int), i + m = 5 → Seen h who s i →
    Ex (fun n => spec_AbortSet_L1 h n s (i : Int)) (fun s' => Seen h who s' s'.length)
  | 0, i, s, hi, hs => by
    have := hs.len
    have := hs.le
    omega
  | m + 1, i, s, hi, hs => by
    refine Ex.succ ?_
    have hlen := hs.len
    simp only [spec_AbortSet_L1]
    rw [w64_succ (by omega)]
    refine Ex.ite (fun hb => ?_) (fun hb => ?_)
    · have hb := of_decide_eq_true hb
      refine Ex.bind (seen_in hl 4 0 s rfl hs (by omega) (fun r hr => by omega)) (fun s' hs' => ?_)
      exact seen_out hl m (i + 1) s' (by omega) hs'
    · have hb := of_decide_eq_false hb
      refine Ex.ret ?_
      have := hs.le
      obtain rfl : i = s.length := by omega
      exact hs

theorem Seen.all {h : List Acc} {who : Int} {s : List Int} (hs : Seen h who s s.length) {t : Int} : t ∈ s ↔ Rch h who t := by
  constructor
  · exact fun ht => (hs.ok t ht).2
  · intro hr
    induction hr with
    | base => exact hs.hw
    | @step w r h1 h2 h3 ih =>
      obtain ⟨j, hj, rfl⟩ := List.mem_iff_getElem.1 ih
      refine hs.cl j hj r h2 ?_
      rw [getD_at hj]
      exact h3

open Classical in
theorem specAbort_ex {h : List Acc} (hl : h.length < 1000000) (who : Int) : Ex (fun n => spec_AbortSet n h who) (· = abR h who) := by
  unfold spec_AbortSet abR
  refine Ex.be (specValidA_ex (by omega)) ?_
  by_cases hc : validA h = true ∧ 0 ≤ who ∧ who ≤ 3
  · rw [if_pos hc]
    obtain ⟨hv, hw1, hw2⟩ := hc
    refine Ex.no (by rw [hv]; unfold spec_inRange; rw [decide_eq_true hw1, decide_eq_true hw2]; rfl) ?_
    refine Ex.bind (seen_out hl 5 0 [who] rfl ⟨by simp, fun t ht => by simp at ht; subst ht; exact ⟨⟨hw1, hw2⟩, .base⟩, by simp, fun j hj => by omega, by simp⟩) (fun s hs => ?_)
    have hlen := hs.len
    refine Ex.be ?_ (Ex.ret rfl)
    have loop := loop4 (σ := List Int) (inv := fun k a => a = (([0, 1, 2, 3] : List Int).take k).filter fun t => s.contains t) (f := fun n a k => spec_AbortSet_L3 s h n a k) (fin := fun a => a) (s0 := []) rfl ?_ ?_
    · refine Ex.mono loop ?_
      rintro r ⟨a, rfl, ha⟩
      rw [ha]
      unfold abL
      refine List.filter_congr (fun t ht => ?_)
      rw [Bool.eq_iff_iff, List.contains_iff_mem, decide_eq_true_eq]
      exact hs.all
    · intro k a hk ha Q hQ
      simp only [spec_AbortSet_L3]
      rw [w64_succ (by omega)]
      refine Ex.yes (decide_eq_true (by omega)) (Ex.be (specIn_ex (by omega) _) ?_)
      have hal : a.length ≤ 4 := by
        rw [ha]
        refine Nat.le_trans (List.length_filter_le _ _) ?_
        simp; omega
      refine Ex.bind (P := fun a' => a' = (([0, 1, 2, 3] : List Int).take (k + 1)).filter fun t => s.contains t) ?_ hQ
      refine Ex.ite (fun hb => Ex.guard (by simp; omega) (Ex.ret ?_)) (fun hb => Ex.ret ?_)
      · rw [four_succ _ hk, ← ha, if_pos hb]
        rfl
      · rw [four_succ _ hk, ← ha, hb]
        simp
    · intro a ha
      simp only [spec_AbortSet_L3]
      exact Ex.no (by decide) (Ex.ret rfl)
  · rw [if_neg hc]
    refine Ex.yes ?_ (Ex.ret rfl)
    rw [Bool.or_eq_true]
    by_cases hv : validA h = true
    · right
      unfold spec_inRange
      rw [Bool.not_eq_true', Bool.and_eq_false_iff, decide_eq_false_iff_not, decide_eq_false_iff_not]
      by_cases h1 : 0 ≤ who
      · exact .inr (fun h2 => hc ⟨hv, h1, h2⟩)
      · exact .inl h1
    · left
      simp [hv]

open Classical in
theorem abR_pos {h : List Acc} {who : Int} (hz : (abR h who).length ≠ 0) : validA h = true ∧ (0 ≤ who ∧ who ≤ 3) ∧ abR h who = abL h who := by
  unfold abR at hz ⊢
  split at hz
  · rename_i hc
    exact ⟨hc.1, hc.2, if_pos hc⟩
  · exact absurd rfl hz

theorem drawAbort_ex {x1 : List Int} (h : ∀ b ∈ x1, 0 ≤ b ∧ b ≤ 255) (hl : x1.length ≤ 1048576) : Ex (fun n => spec_DrawAbortSet n x1) (fun r => r.1.length ≤ 20) := by
  unfold spec_DrawAbortSet
  refine Ex.bind (drawReads_ex h hl) ?_
  rintro ⟨a, b⟩ hab
  exact Ex.ret hab

theorem law_FnAbortSetMore (x0 : List Int) (h0 : x0.length ≤ 9223372036854775807 ∧ ∀ x ∈ x0, RC.wf .u8 x) : ∃ n, laws_FnAbortSetMore n x0 = some true := by
  refine Ex.get ?_
  unfold laws_FnAbortSetMore
  refine Ex.code rfl (fun hl => ?_)
  refine Ex.bind (drawAbort_ex (u8_wf h0.2) hl) ?_
  rintro ⟨h, who⟩ hh
  simp only at hh ⊢
  have hlen := abR_len h who
  refine Ex.be (implAbort_ex (by omega) _) (Ex.be (specAbort_ex (by omega) _) (Ex.be (equalInts_ex (by omega)) ?_))
  by_cases hz : (abR h who).length = 0
  · exact Ex.yes (by simp [hz]) (Ex.be (specAbort_ex (by omega) _) (Ex.be (equalInts_ex (by omega)) (Ex.ret rfl)))
  · by_cases hz2 : h.length = 0
    · exact Ex.yes (by simp [hz2]) (Ex.be (specAbort_ex (by omega) _) (Ex.be (equalInts_ex (by omega)) (Ex.ret rfl)))
    · obtain ⟨hv, hw, he⟩ := abR_pos hz
      refine Ex.no (by simp [hz, hz2]) ?_
      have e : w64 ((h.length : Int) - 1) = ((h.length - 1 : Nat) : Int) := by rw [w64_id (by omega) (by omega)]; omega
      rw [e]
      simp only [Int.toNat_natCast, List.drop_zero]
      have hlen2 := abR_len (h.take (h.length - 1)) who
      refine Ex.guard (by omega) (Ex.be (implAbort_ex (by simp; omega) _) ?_)
      have he2 : abR (h.take (h.length - 1)) who = abL (h.take (h.length - 1)) who := by
        unfold abR
        rw [if_pos ⟨validA_take hv _, hw⟩]
      have hsub : ∀ t ∈ abR (h.take (h.length - 1)) who, t ∈ abR h who := by
        intro t ht
        rw [he2, mem_abL hw] at ht
        rw [he, mem_abL hw]
        induction ht with
        | base => exact .base
        | @step w r h1 h2 h3 ih =>
          refine .step ih h2 ?_
          have hw' : w ∈ rfL (h.take (h.length - 1)) r := by
            refine mem_rfL.2 ⟨?_, h3⟩
            have := h1.range hw
            omega
          exact (mem_rfL.1 ((rfL_take (who := r) hz2).1 w hw')).2
      refine Ex.be (subset_loop (f := laws_FnAbortSetMore_L1 _ _ x0) (B := .inr ()) (by omega) hsub ?_ ?_) ?_
      · intro k hk r ih
        simp only [laws_FnAbortSetMore_L1, Int.toNat_natCast]
        rw [w64_succ (by omega)]
        exact Ex.yes (decide_eq_true (by omega)) (Ex.guard (by omega) ih)
      · simp only [laws_FnAbortSetMore_L1]
        exact Ex.no (decide_eq_false (by omega)) (Ex.ret rfl)
      · refine Ex.ret (decide_eq_true ?_)
        have : who ∈ abR (h.take (h.length - 1)) who := by rw [he2, mem_abL hw]; exact .base
        have := List.length_pos_of_mem this
        omega

theorem abortSet_in {h : List Acc} {who : Int} {out : List Int} (hlo : out.length ≤ 1000) {t : Int} {list : List Int} (hll : list.length ≤ 1000) {x1 : List Int} : ∀ (m k : Nat) (b : Bool), k + m = list.length →
    Ex (fun n => laws_FnAbortSet_L2 h who out t list x1 n b (k : Int)) (· = (b || (list.drop k).any fun s => out.contains s))
  | 0, k, b, hk => by
    refine Ex.succ ?_
    simp only [laws_FnAbortSet_L2]
    refine Ex.no (decide_eq_false (by omega)) (Ex.ret ?_)
    rw [List.drop_of_length_le (by omega)]
    simp
  | m + 1, k, b, hk => by
    refine Ex.succ ?_
    simp only [laws_FnAbortSet_L2, Int.toNat_natCast]
    rw [w64_succ (by omega)]
    have e : list.drop k = list.getD k 0 :: list.drop (k + 1) := by
      rw [List.drop_eq_getElem_cons (by omega), getD_at (by omega)]
    rw [e, List.any_cons, ← Bool.or_assoc]
    refine Ex.yes (decide_eq_true (by omega)) (Ex.be (a := b || out.contains (list.getD k 0)) ?_ (abortSet_in hlo hll m (k + 1) _ (by omega)))
    refine Ex.ite (fun hb => Ex.ret (by rw [hb]; rfl)) (fun hb => Ex.guard (by omega) (Ex.be (isIn_ex (by omega) _) (Ex.ret (by rw [hb]; rfl))))

theorem law_FnAbortSet (x0 : List Int) (h0 : x0.length ≤ 9223372036854775807 ∧ ∀ x ∈ x0, RC.wf .u8 x) : ∃ n, laws_FnAbortSet n x0 = some true := by
  refine Ex.get ?_
  unfold laws_FnAbortSet
  refine Ex.code rfl (fun hl => ?_)
  refine Ex.bind (drawAbort_ex (u8_wf h0.2) hl) ?_
  rintro ⟨h, who⟩ hh
  simp only at hh ⊢
  have hlen := abR_len h who
  refine Ex.be (implAbort_ex (by omega) _) (Ex.be (specAbort_ex (by omega) _) (Ex.be (equalInts_ex (by omega)) ?_))
  by_cases hz : (abR h who).length = 0
  · exact Ex.yes (by simp [hz]) (Ex.be (specAbort_ex (by omega) _) (Ex.be (equalInts_ex (by omega)) (Ex.ret rfl)))
  · obtain ⟨hv, hw, he⟩ := abR_pos hz
    refine Ex.no (by simp [hz]) (Ex.be (a := .inr ()) ?_ ?_)
    · refine skip_loop 4 (f := laws_FnAbortSet_L1 h who (abR h who) x0) ?_ ?_
      · intro k hk r ih
        simp only [laws_FnAbortSet_L1]
        rw [w64_succ (by omega)]
        have hl2 := readsR_len h (k : Int)
        refine Ex.yes (decide_eq_true (by omega)) (Ex.be (implReads_ex (by omega) _) (Ex.be (abortSet_in (by omega) (by omega) _ 0 _ (Nat.zero_add _)) (Ex.be (isIn_ex (by omega) _) (Ex.no ?_ ih))))
        have e2 : readsR h (k : Int) = rfL h (k : Int) := if_pos hv
        rw [List.drop_zero, e2, he]
        have : (decide ((k : Int) = who) || (rfL h (k : Int)).any fun s => (abL h who).contains s) = (abL h who).contains (k : Int) := by
          rw [Bool.eq_iff_iff, Bool.or_eq_true, decide_eq_true_eq, List.any_eq_true, List.contains_iff_mem, mem_abL hw]
          constructor
          · rintro (rfl | ⟨s, h1, h2⟩)
            · exact .base
            · rw [List.contains_iff_mem, mem_abL hw] at h2
              exact .step h2 (by omega) (mem_rfL.1 h1).2
          · intro hr
            cases hr with
            | base => exact .inl rfl
            | @step w _ h1 h2 h3 =>
              right
              refine ⟨w, mem_rfL.2 ⟨?_, h3⟩, ?_⟩
              · have := h1.range hw
                omega
              · rw [List.contains_iff_mem, mem_abL hw]
                exact h1
        rw [this]
        simp
      · simp only [laws_FnAbortSet_L1]
        exact Ex.no (by decide) (Ex.ret rfl)
    · refine Ex.be (isIn_ex (by omega) _) (Ex.ret ?_)
      rw [List.contains_iff_mem, he, mem_abL hw]
      exact .base

theorem none_loop {h : List Acc} (hl : h.length ≤ 1000) (hv : validA h = true) {who : Int} {out : List Int} {x1 : List Int} : ∀ (m k : Nat) (b : Bool), k + m = 4 →
    Ex (fun n => laws_FnAbortSetNone_L1 h who out x1 n b (k : Int)) (fun r => r = true ↔ b = true ∨ ∃ j : Nat, k ≤ j ∧ j < 4 ∧ who ∈ rfL h (j : Int))
  | 0, k, b, hk => by
    refine Ex.succ ?_
    simp only [laws_FnAbortSetNone_L1]
    refine Ex.no (decide_eq_false (by omega)) (Ex.ret ⟨.inl, ?_⟩)
    rintro (h1 | ⟨j, h1, h2, _⟩)
    · exact h1
    · omega
  | m + 1, k, b, hk => by
    refine Ex.succ ?_
    simp only [laws_FnAbortSetNone_L1]
    rw [w64_succ (by omega)]
    have hl2 := readsR_len h (k : Int)
    have e2 : readsR h (k : Int) = rfL h (k : Int) := if_pos hv
    refine Ex.yes (decide_eq_true (by omega)) (Ex.bind (P := fun c => c = true ↔ b = true ∨ who ∈ rfL h (k : Int)) ?_ (fun c hc => ?_))
    · refine Ex.ite (fun hb => Ex.ret (by simp [hb])) (fun hb => Ex.be (implReads_ex (by omega) _) (Ex.be (isIn_ex (by omega) _) (Ex.ret ?_)))
      rw [e2, List.contains_iff_mem, hb]
      simp
    · refine Ex.mono (none_loop hl hv m (k + 1) c (by omega)) (fun r hr => ?_)
      rw [hr, hc]
      constructor
      · rintro ((h1 | h1) | ⟨j, h1, h2⟩)
        · exact .inl h1
        · exact .inr ⟨k, Nat.le_refl _, by omega, h1⟩
        · exact .inr ⟨j, by omega, h2⟩
      · rintro (h1 | ⟨j, h1, h2, h3⟩)
        · exact .inl (.inl h1)
        · rcases Nat.eq_or_lt_of_le h1 with rfl | h4
          · exact .inl (.inr h3)
          · exact .inr ⟨j, h4, h2, h3⟩

theorem law_FnAbortSetNone (x0 : List Int) (h0 : x0.length ≤ 9223372036854775807 ∧ ∀ x ∈ x0, RC.wf .u8 x) : ∃ n, laws_FnAbortSetNone n x0 = some true := by
  refine Ex.get ?_
  unfold laws_FnAbortSetNone
  refine Ex.code rfl (fun hl => ?_)
  refine Ex.bind (drawAbort_ex (u8_wf h0.2) hl) ?_
  rintro ⟨h, who⟩ hh
  simp only at hh ⊢
  have hlen := abR_len h who
  refine Ex.be (implAbort_ex (by omega) _) (Ex.be (specAbort_ex (by omega) _) (Ex.be (equalInts_ex (by omega)) ?_))
  by_cases hz : (abR h who).length = 0
  · exact Ex.yes (by simp [hz]) (Ex.be (specAbort_ex (by omega) _) (Ex.be (equalInts_ex (by omega)) (Ex.ret rfl)))
  · obtain ⟨hv, hw, he⟩ := abR_pos hz
    refine Ex.no (by simp [hz]) (Ex.bind (none_loop (by omega) hv 4 0 false rfl) (fun b hb => Ex.ret ?_))
    rw [he]
    have hnd : (abL h who).Nodup := by
      unfold abL
      exact List.Pairwise.filter _ (show List.Pairwise (· ≠ ·) ([0, 1, 2, 3] : List Int) by decide)
    have hwm : who ∈ abL h who := by rw [mem_abL hw]; exact .base
    have key : decide (((abL h who).length : Int) = 1) = !b := by
      rw [Bool.eq_iff_iff, decide_eq_true_eq, Bool.not_eq_true', Bool.eq_false_iff, ne_eq, hb]
      constructor
      · rintro h1 (h2 | ⟨j, _, h3, h4⟩)
        · cases h2
        · have hj : (j : Int) ∈ abL h who := by
            rw [mem_abL hw]
            exact .step .base (by omega) (mem_rfL.1 h4).2
          have hne : who ≠ (j : Int) := (rf_true.1 (mem_rfL.1 h4).2).2
          match hA : abL h who, h1 with
          | [a], _ =>
            rw [hA] at hj hwm
            simp at hj hwm
            omega
          | [], h1 => simp at h1
          | a :: b :: l, h1 => simp at h1; omega
      · intro h1
        have hall : ∀ t ∈ abL h who, t ∈ [who] := by
          intro t ht
          rw [mem_abL hw] at ht
          have : t = who := by
            induction ht with
            | base => rfl
            | @step w r h2 h3 h4 ih =>
              subst ih
              exfalso
              refine h1 (.inr ⟨r.toNat, Nat.zero_le _, by omega, ?_⟩)
              rw [show ((r.toNat : Nat) : Int) = r by omega]
              exact mem_rfL.2 ⟨by omega, h4⟩
          simp [this]
        have := nodup_len [who] _ hnd hall
        have := List.length_pos_of_mem hwm
        simp at *
        omega
    rw [key]
    simp

open Classical in
theorem law_FnMayCommitSet (x0 : List Int) (h0 : x0.length ≤ 9223372036854775807 ∧ ∀ x ∈ x0, RC.wf .u8 x) : ∃ n, laws_FnMayCommitSet n x0 = some true := by
  refine Ex.get ?_
  unfold laws_FnMayCommitSet
  refine Ex.code rfl (fun hl => ?_)
  refine Ex.bind (drawMay_ex (u8_wf h0.2) hl) ?_
  rintro ⟨h, done, who⟩ ⟨hh, hd⟩
  simp only at hh hd ⊢
  refine Ex.be (implMay_ex (by omega) _ (by omega)) (Ex.be (specMay_ex (by omega) _ (by omega)) ?_)
  refine Ex.be (a := !validA h) (Ex.no (by simp) (Ex.be (implValidA_ex (by omega)) (Ex.ret rfl))) ?_
  cases hv : validA h with
  | false => exact Ex.yes rfl (Ex.be (specMay_ex (by omega) _ (by omega)) (Ex.ret (by simp)))
  | true =>
    refine Ex.no rfl (Ex.be (skip_loop 4 (f := laws_FnMayCommitSet_L1 h who x0) (B := .inr ()) ?_ ?_) (Ex.ret rfl))
    · intro k hk r ih
      simp only [laws_FnMayCommitSet_L1]
      rw [w64_succ (by omega)]
      have hl1 := abR_len h (k : Int)
      have hl2 := readsR_len h who
      refine Ex.yes (decide_eq_true (by omega)) (Ex.be (a := false) ?_ (Ex.no rfl ih))
      refine Ex.ite (fun hb => ?_) (fun _ => Ex.ret rfl)
      refine Ex.be (implAbort_ex (by omega) _) (Ex.be (isIn_ex (by omega) _) (Ex.ite (fun hc => ?_) (fun _ => Ex.ret rfl)))
      refine Ex.be (implReads_ex (by omega) _) (Ex.be (isIn_ex (by omega) _) (Ex.ret ?_))
      rw [Bool.eq_false_iff]
      intro hr
      rw [Bool.not_eq_true', Bool.eq_false_iff, ne_eq, List.contains_iff_mem] at hc
      have e2 : readsR h who = rfL h who := if_pos hv
      rw [e2, List.contains_iff_mem] at hr
      refine hc ?_
      have e3 : abR h (k : Int) = abL h (k : Int) := if_pos ⟨hv, by omega, by omega⟩
      rw [e3, mem_abL ⟨by omega, by omega⟩]
      exact .step .base ⟨hd.2.1, hd.2.2⟩ (mem_rfL.1 hr).2
    · simp only [laws_FnMayCommitSet_L1]
      exact Ex.no (by decide) (Ex.ret rfl)

open Classical in
theorem law_FnExactAbortSet (xs : List Acc) (who : Int) (h0 : xs.length ≤ 9223372036854775807 ∧ ∀ x ∈ xs, RC.wf .acc x) (_ : -9223372036854775808 ≤ who ∧ who ≤ 9223372036854775807) : ∃ n, laws_FnExactAbortSet n xs who = some true := by
  refine Ex.get ?_
  unfold laws_FnExactAbortSet
  refine Ex.szA rfl h0.1 (fun hl => ?_)
  by_cases hs : xs.length < 1000000
  · exact exact_ints hl (by have := abR_len xs who; omega) (S := fun n x => spec_AbortSet n x who) (I := fun n x => impl_AbortSet n x who) (specAbort_ex hs who) (implAbort_ex hs who)
  · have hv : validA xs = false := by
      unfold validA
      rw [decide_eq_false (by omega)]; rfl
    refine exact_ints hl (R := []) (by simp) (S := fun n x => spec_AbortSet n x who) (I := fun n x => impl_AbortSet n x who) ?_ ?_
    · unfold spec_AbortSet
      exact Ex.be (specValidA_ex (by omega)) (Ex.yes (by rw [hv]; rfl) (Ex.ret rfl))
    · unfold impl_AbortSet
      exact Ex.be (implValidA_ex (by omega)) (Ex.yes (by rw [hv]; rfl) (Ex.ret rfl))
end Go.Proofs.Ytgihnmaaiibmeaa
