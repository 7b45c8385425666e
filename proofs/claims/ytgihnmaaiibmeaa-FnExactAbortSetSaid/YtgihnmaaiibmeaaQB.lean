/- Plain facts: the laws on reading from writers. Conditions: none. -/
import Derived.Test.YtgihnmaaiibmeaaQA
namespace Go.Proofs.Ytgihnmaaiibmeaa
open Go

theorem equalInts_ex {xs : List Int} (hl : xs.length < 1000000000) : Ex (fun n => laws_equalInts n xs xs) (· = true) := by
  unfold laws_equalInts
  refine Ex.no (by simp) (Ex.be (skip_loop xs.length (f := laws_equalInts_L1 xs xs) (B := .inr ()) ?_ ?_) (Ex.ret rfl))
  · intro k hk r ih
    simp only [laws_equalInts_L1, Int.toNat_natCast]
    rw [w64_succ (by omega)]
    exact Ex.yes (decide_eq_true (by omega)) (Ex.guard (by omega) (Ex.guard (by omega) (Ex.no (by simp) ih)))
  · simp only [laws_equalInts_L1]
    exact Ex.no (decide_eq_false (by omega)) (Ex.ret rfl)

theorem any_eq_contains (xs : List Int) (x : Int) : (xs.any fun y => decide (y = x)) = xs.contains x := by
  induction xs with
  | nil => rfl
  | cons a l ih =>
    rw [List.any_cons, List.contains_cons, ih]
    congr 1
    rw [Bool.eq_iff_iff, decide_eq_true_eq, beq_iff_eq]
    exact eq_comm

theorem isIn_ex {xs : List Int} (hl : xs.length < 1000000000) (x : Int) : Ex (fun n => laws_isIn n xs x) (· = xs.contains x) := by
  unfold laws_isIn
  refine Ex.be (any_loop xs 0 (fun y => decide (y = x)) (f := laws_isIn_L1 xs x) (A := .inl ()) (B := .inr ()) ?_ ?_ ?_) ?_
  · intro k hk hq
    simp only [laws_isIn_L1, Int.toNat_natCast]
    exact Ex.yes (decide_eq_true (by omega)) (Ex.guard (by omega) (Ex.yes hq (Ex.ret rfl)))
  · intro k hk hq r ih
    simp only [laws_isIn_L1, Int.toNat_natCast]
    rw [w64_succ (by omega)]
    exact Ex.yes (decide_eq_true (by omega)) (Ex.guard (by omega) (Ex.no hq ih))
  · simp only [laws_isIn_L1]
    exact Ex.no (decide_eq_false (by omega)) (Ex.ret rfl)
  · rw [any_eq_contains]
    cases xs.contains x <;> exact Ex.ret rfl

theorem readsR_len (h : List Acc) (who : Int) : (readsR h who).length ≤ 4 := by
  unfold readsR
  split
  · exact Nat.le_trans (List.length_filter_le _ _) (by simp)
  · simp

theorem anyAcc_loop {x1 : List Int} {k2 : Nat} (h : Rd x1 k2) : ∀ (m : Nat) (i : Int) (xs : List Acc), 0 ≤ i → i + 10 * m ≤ 800000000 → xs.length + m ≤ 1000 →
    Ex (fun n => spec_anyAccesses_L1 k2 x1 n i xs (m : Int)) (fun r => 0 ≤ r.1 ∧ r.1 ≤ i + 10 * m ∧ r.2.length ≤ xs.length + m)
  | 0, i, xs, h0, h1, h2 => by
    refine Ex.succ ?_
    simp only [spec_anyAccesses_L1]
    exact Ex.no (by decide) (Ex.ret ⟨h0, by simp, by simp⟩)
  | m + 1, i, xs, h0, h1, h2 => by
    refine Ex.succ ?_
    simp only [spec_anyAccesses_L1]
    have e1 : w64 (i + 1) = i + 1 := w64_id (by omega) (by omega)
    have e2 : w64 (i + 1 + 1) = i + 2 := by rw [w64_id (by omega) (by omega)]; omega
    have e3 : w64 (i + 2 + 1) = i + 3 := by rw [w64_id (by omega) (by omega)]; omega
    have e4 : w64 (((m + 1 : Nat) : Int) - 1) = (m : Int) := by rw [w64_id (by omega) (by omega)]; omega
    rw [e1, e2, e3, e4]
    refine Ex.yes (decide_eq_true (by omega)) ?_
    refine Ex.bind (pick_ex h h0 (by omega) (by omega) (by omega)) (fun a ha => ?_)
    refine Ex.bind (pick_ex h (by omega) (by omega) (by omega) (by omega)) (fun b hb => ?_)
    refine Ex.bind (pick_ex h (by omega) (by omega) (by omega) (by omega)) (fun c hc => ?_)
    refine Ex.guard (by simp; omega) ?_
    rw [view_all]
    refine Ex.mono (anyAcc_loop h m (i + 3) _ (by omega) (by omega) (by simp; omega)) ?_
    rintro r ⟨r1, r2, r3⟩
    refine ⟨r1, by omega, ?_⟩
    simp at r3
    omega

theorem anyAcc_ex {x1 : List Int} {k2 : Nat} (h : Rd x1 k2) {i : Int} (h0 : 0 ≤ i) (h1 : i ≤ 700000000) :
    Ex (fun n => spec_anyAccesses n x1 k2 i) (fun r => 0 ≤ r.1 ∧ r.1 ≤ i + 300 ∧ r.2.length ≤ 20) := by
  unfold spec_anyAccesses
  refine Ex.bind (one_ex h (by omega) (by omega) (by simp) (by simp)) ?_
  rintro ⟨c, m⟩ ⟨hc, hm⟩
  have hc : c = i + 1 := by simp at hc; omega
  subst hc
  have hm : 0 ≤ m ∧ m ≤ 20 := by
    simp only [List.mem_cons, List.not_mem_nil, or_false] at hm
    omega
  obtain ⟨m, rfl⟩ : ∃ k : Nat, m = k := ⟨m.toNat, by omega⟩
  refine Ex.bind (anyAcc_loop h m (i + 1) [] (by omega) (by omega) (by simp; omega)) ?_
  rintro ⟨j, xs⟩ ⟨j1, j2, j3⟩
  simp only [List.length_nil, Nat.zero_add] at j1 j2 j3 ⊢
  refine Ex.bind (P := fun r : Int × Bool => 0 ≤ r.1 ∧ r.1 ≤ i + 260 ∧ (r.2 = true → 0 < xs.length)) ?_ ?_
  · refine Ex.ite (fun hb => ?_) (fun hb => ?_)
    · have := of_decide_eq_true hb
      refine Ex.bind (pick_ex h (by omega) (by omega) (by omega) (by omega)) (fun q hq => ?_)
      refine Ex.ret ⟨?_, ?_, fun _ => by omega⟩ <;> simp only <;> rw [w64_id (by omega) (by omega)] <;> omega
    · exact Ex.ret ⟨by omega, by simp only; omega, by simp⟩
  · rintro ⟨j, b⟩ ⟨q1, q2, q3⟩
    simp only at q1 q2 q3 ⊢
    refine Ex.bind (P := fun r : Int × List Acc => 0 ≤ r.1 ∧ r.1 ≤ i + 300 ∧ r.2.length ≤ 20) ?_ ?_
    · refine Ex.ite (fun hb => ?_) (fun hb => ?_)
      · have := q3 hb
        refine Ex.bind (pick_ex h (by omega) (by omega) (by omega) (by omega)) (fun q hq => ?_)
        have e2 : w64 (j + 1) = j + 1 := w64_id (by omega) (by omega)
        rw [e2]
        refine Ex.bind (one_ex h (by omega) (by omega) (by simp) (by simp)) ?_
        rintro ⟨c1, d1⟩ ⟨hc1, _⟩
        have hc1 : c1 = j + 2 := by simp at hc1; omega
        subst hc1
        refine Ex.bind (one_ex h (by omega) (by omega) (by simp) (by simp)) ?_
        rintro ⟨c2, d2⟩ ⟨hc2, _⟩
        have hc2 : c2 = j + 3 := by simp at hc2; omega
        subst hc2
        exact Ex.guard (by omega) (Ex.ret ⟨by simp only; omega, by simp only; omega, by simpa using by omega⟩)
      · exact Ex.ret ⟨by omega, by simp only; omega, by simp only; omega⟩
    · rintro ⟨j, ys⟩ hj
      exact Ex.ret hj

theorem drawReads_ex {x1 : List Int} (h : ∀ b ∈ x1, 0 ≤ b ∧ b ≤ 255) (hl : x1.length ≤ 1048576) : Ex (fun n => spec_DrawReadsFrom n x1) (fun r => r.1.length ≤ 20) := by
  unfold spec_DrawReadsFrom
  refine Ex.bind (newReader_ex h (by omega)) (fun k hk => ?_)
  refine Ex.bind (anyAcc_ex hk (Int.le_refl 0) (by omega)) ?_
  rintro ⟨i, xs⟩ ⟨h1, h2, h3⟩
  simp only at h1 h2 h3 ⊢
  refine Ex.bind (pick_ex hk h1 (by omega) (by omega) (by omega)) (fun a ha => Ex.ret h3)

theorem mem_rfL {h : List Acc} {who t : Int} : t ∈ rfL h who ↔ (t = 0 ∨ t = 1 ∨ t = 2 ∨ t = 3) ∧ rf h who t = true := by
  unfold rfL
  rw [List.mem_filter]
  simp
theorem rf_true {h : List Acc} {who t : Int} : rf h who t = true ↔ (∃ i, i < h.length ∧ hit h who t i = true) ∧ t ≠ who := by
  unfold rf rfK
  rw [Bool.and_eq_true, List.any_eq_true]
  simp

/-- writes alone -/
def asW (x : Acc) : Acc := ⟨x.who, x.node, true⟩
theorem writes_loop {h : List Acc} (hl : h.length ≤ 1000) (who : Int) {x1 : List Int} : ∀ (m k : Nat), k + m = h.length →
    Ex (fun n => laws_FnReadsFromWrites_L1 h who x1 n ((h.take k).map asW) (k : Int)) (· = h.map asW)
  | 0, k, hk => by
    refine Ex.succ ?_
    simp only [laws_FnReadsFromWrites_L1]
    refine Ex.no (decide_eq_false (by omega)) (Ex.ret ?_)
    rw [List.take_of_length_le (by omega)]
  | m + 1, k, hk => by
    refine Ex.succ ?_
    simp only [laws_FnReadsFromWrites_L1, Int.toNat_natCast]
    refine Ex.yes (decide_eq_true (by omega)) (Ex.guard (by omega) (Ex.guard (by omega) (Ex.guard (by simp; omega) ?_)))
    rw [w64_succ (by omega), view_all]
    have e : (h.take k).map asW ++ [(⟨(h.getD k dacc).who, (h.getD k dacc).node, true⟩ : Acc)] = (h.take (k + 1)).map asW := by
      rw [take_snoc' dacc (by omega), List.map_append]; rfl
    rw [e]
    exact writes_loop hl who m (k + 1) (by omega)

theorem law_FnReadsFromWrites (x0 : List Int) (h0 : x0.length ≤ 9223372036854775807 ∧ ∀ x ∈ x0, RC.wf .u8 x) : ∃ n, laws_FnReadsFromWrites n x0 = some true := by
  refine Ex.get ?_
  unfold laws_FnReadsFromWrites
  refine Ex.code rfl (fun hl => ?_)
  refine Ex.bind (drawReads_ex (u8_wf h0.2) hl) ?_
  rintro ⟨h, who⟩ hh
  simp only at hh ⊢
  have hlen := readsR_len h who
  refine Ex.be (implReads_ex (by omega) _) (Ex.be (specReads_ex (by omega) _) (Ex.be (equalInts_ex (by omega)) ?_))
  refine Ex.be (a := !validA h) (Ex.no rfl (Ex.be (implValidA_ex (by omega)) (Ex.ret rfl))) ?_
  cases hv : validA h with
  | false => exact Ex.yes rfl (Ex.be (specReads_ex (by omega) _) (Ex.be (equalInts_ex (by omega)) (Ex.ret rfl)))
  | true =>
    refine Ex.no rfl (Ex.be (writes_loop (by omega) who h.length 0 (by omega)) ?_)
    refine Ex.be (implReads_ex (by simp; omega) _) (Ex.ret ?_)
    have : readsR (h.map asW) who = [] := by
      unfold readsR
      split
      · unfold rfL
        rw [List.filter_eq_nil_iff]
        intro t _ ht
        obtain ⟨⟨i, hi, hit'⟩, _⟩ := rf_true.1 ht
        unfold hit at hit'
        rw [getD_at hi, List.getElem_map] at hit'
        simp [asW] at hit'
      · rfl
    rw [this]; rfl

theorem readsFrom_law3 {h : List Acc} (hl : h.length ≤ 1000) {who : Int} {out : List Int} (hlo : out.length ≤ 1000) {i j : Nat} (hi : i < out.length) (hj : j < h.length) {x1 : List Int} : ∀ (m k : Nat) (b : Bool), k + m = h.length →
    Ex (fun n => laws_FnReadsFrom_L3 h who out (i : Int) (j : Int) x1 n b (k : Int)) (fun r => r = true ↔ b = true ∨ ∃ q, k ≤ q ∧ q < h.length ∧ (h.getD j dacc).who = out.getD i 0 ∧ (h.getD j dacc).write = true ∧ (h.getD q dacc).who = who ∧ (h.getD q dacc).write = false ∧ (h.getD j dacc).node = (h.getD q dacc).node)
  | 0, k, b, hk => by
    refine Ex.succ ?_
    simp only [laws_FnReadsFrom_L3]
    refine Ex.no (decide_eq_false (by omega)) (Ex.ret ⟨fun h => .inl h, ?_⟩)
    rintro (h | ⟨q, h1, h2, _⟩)
    · exact h
    · omega
  | m + 1, k, b, hk => by
    refine Ex.succ ?_
    simp only [laws_FnReadsFrom_L3, Int.toNat_natCast]
    rw [w64_succ (by omega)]
    refine Ex.yes (decide_eq_true (by omega)) ?_
    refine Ex.bind (P := fun c => c = true ↔ b = true ∨ ((h.getD j dacc).who = out.getD i 0 ∧ (h.getD j dacc).write = true ∧ (h.getD k dacc).who = who ∧ (h.getD k dacc).write = false ∧ (h.getD j dacc).node = (h.getD k dacc).node)) ?_ ?_
    · refine Ex.ite (fun hb => Ex.ret (by simp [hb])) (fun hb => ?_)
      refine Ex.guard (by omega) (Ex.guard (by omega) (Ex.ite (fun h1 => ?_) (fun h1 => Ex.ret ?_)))
      · refine Ex.guard (by omega) (Ex.ite (fun h2 => ?_) (fun h2 => Ex.ret ?_))
        · refine Ex.guard (by omega) (Ex.ite (fun h3 => ?_) (fun h3 => Ex.ret ?_))
          · refine Ex.guard (by omega) (Ex.ite (fun h4 => ?_) (fun h4 => Ex.ret ?_))
            · refine Ex.guard (by omega) (Ex.guard (by omega) (Ex.ret ?_))
              have h1 := of_decide_eq_true h1
              have h3 := of_decide_eq_true h3
              rw [Bool.not_eq_true'] at h4
              rw [decide_eq_true_eq, hb]
              simp only [Bool.false_eq_true, false_or]
              exact ⟨fun h => ⟨h1, h2, h3, h4, h⟩, fun h => h.2.2.2.2⟩
            · rw [Bool.not_eq_false'] at h4
              simp only [Bool.false_eq_true, hb, false_or, false_iff]
              rintro ⟨_, _, _, h5, _⟩
              rw [h4] at h5; cases h5
          · have h3 := of_decide_eq_false h3
            simp only [Bool.false_eq_true, hb, false_or, false_iff]
            rintro ⟨_, _, h5, _⟩
            exact h3 h5
        · simp only [Bool.false_eq_true, hb, false_or, false_iff]
          rintro ⟨_, h5, _⟩
          rw [h2] at h5; cases h5
      · have h1 := of_decide_eq_false h1
        simp only [Bool.false_eq_true, hb, false_or, false_iff]
        rintro ⟨h5, _⟩
        exact h1 h5
    · intro c hc
      refine Ex.mono (readsFrom_law3 hl hlo hi hj m (k + 1) c (by omega)) ?_
      intro r hr
      rw [hr, hc]
      constructor
      · rintro ((h1 | h1) | ⟨q, h1, h2⟩)
        · exact .inl h1
        · exact .inr ⟨k, Nat.le_refl _, by omega, h1⟩
        · exact .inr ⟨q, by omega, h2⟩
      · rintro (h1 | ⟨q, h1, h2, h3⟩)
        · exact .inl (.inl h1)
        · rcases Nat.eq_or_lt_of_le h1 with rfl | h4
          · exact .inl (.inr h3)
          · exact .inr ⟨q, h4, h2, h3⟩

theorem readsFrom_law2 {h : List Acc} (hl : h.length ≤ 1000) {who : Int} {out : List Int} (hlo : out.length ≤ 1000) {i : Nat} (hi : i < out.length) {x1 : List Int} : ∀ (m k : Nat) (b : Bool), k + m = h.length →
    Ex (fun n => laws_FnReadsFrom_L2 h who out (i : Int) x1 n b (k : Int)) (fun r => (b = true ∨ ∃ j, k ≤ j ∧ j < h.length ∧ ∃ q, j + 1 ≤ q ∧ q < h.length ∧ (h.getD j dacc).who = out.getD i 0 ∧ (h.getD j dacc).write = true ∧ (h.getD q dacc).who = who ∧ (h.getD q dacc).write = false ∧ (h.getD j dacc).node = (h.getD q dacc).node) → r = true)
  | 0, k, b, hk => by
    refine Ex.succ ?_
    simp only [laws_FnReadsFrom_L2]
    refine Ex.no (decide_eq_false (by omega)) (Ex.ret ?_)
    rintro (h | ⟨q, h1, h2, _⟩)
    · exact h
    · omega
  | m + 1, k, b, hk => by
    refine Ex.succ ?_
    simp only [laws_FnReadsFrom_L2]
    rw [w64_succ (by omega)]
    refine Ex.yes (decide_eq_true (by omega)) ?_
    refine Ex.bind (readsFrom_law3 hl hlo hi (by omega) m (k + 1) b (by omega)) (fun c hc => ?_)
    refine Ex.mono (readsFrom_law2 hl hlo hi m (k + 1) c (by omega)) ?_
    intro r hr
    rintro (h1 | ⟨j, h1, h2, q, h3⟩)
    · exact hr (.inl (hc.2 (.inl h1)))
    · rcases Nat.eq_or_lt_of_le h1 with rfl | h4
      · exact hr (.inl (hc.2 (.inr ⟨q, h3⟩)))
      · exact hr (.inr ⟨j, h4, h2, q, h3⟩)

theorem hit_source {h : List Acc} {who t : Int} {i : Nat} (hi : i < h.length) (ht : t ≠ -1) (hh : hit h who t i = true) : ∃ j, j < i ∧ (h.getD j dacc).who = t ∧ (h.getD j dacc).write = true ∧ (h.getD j dacc).node = (h.getD i dacc).node ∧ (h.getD i dacc).who = who ∧ (h.getD i dacc).write = false := by
  unfold hit at hh
  simp only [Bool.and_eq_true, decide_eq_true_eq, Bool.not_eq_true'] at hh
  obtain ⟨⟨h1, h2⟩, h3⟩ := hh
  unfold lastW at h3
  cases e : lwO (h.take i) (h.getD i dacc).node with
  | none => rw [e] at h3; exact absurd h3.symm ht
  | some x =>
    rw [e] at h3
    have hm := List.mem_of_getLast? e
    obtain ⟨hm, hw⟩ := List.mem_filter.1 hm
    obtain ⟨j, hj, rfl⟩ := List.mem_iff_getElem.1 hm
    have hj2 : j < i ∧ j < h.length := by rw [List.length_take] at hj; omega
    rw [List.getElem_take] at h3 hw
    unfold wr at hw
    simp only [Bool.and_eq_true, decide_eq_true_eq] at hw
    refine ⟨j, hj2.1, ?_, ?_, ?_, h1, h2⟩
    · rw [getD_at hj2.2]; exact h3
    · rw [getD_at hj2.2]; exact hw.1
    · rw [getD_at hj2.2]; exact hw.2

theorem law_FnReadsFrom (x0 : List Int) (h0 : x0.length ≤ 9223372036854775807 ∧ ∀ x ∈ x0, RC.wf .u8 x) : ∃ n, laws_FnReadsFrom n x0 = some true := by
  refine Ex.get ?_
  unfold laws_FnReadsFrom
  refine Ex.code rfl (fun hl => ?_)
  refine Ex.bind (drawReads_ex (u8_wf h0.2) hl) ?_
  rintro ⟨h, who⟩ hh
  simp only at hh ⊢
  have hlen := readsR_len h who
  refine Ex.be (implReads_ex (by omega) _) (Ex.be (specReads_ex (by omega) _) (Ex.be (equalInts_ex (by omega)) ?_))
  by_cases hz : (readsR h who).length = 0
  · exact Ex.yes (by simp [hz]) (Ex.be (specReads_ex (by omega) _) (Ex.be (equalInts_ex (by omega)) (Ex.ret rfl)))
  · have hv : validA h = true ∧ readsR h who = rfL h who := by
      unfold readsR at hz ⊢
      split at hz
      · rename_i hv; exact ⟨hv, if_pos hv⟩
      · exact absurd rfl hz
    refine Ex.no (by simp [hz]) (Ex.be (a := .inr ()) ?_ ?_)
    · refine skip_loop (readsR h who).length (f := laws_FnReadsFrom_L1 h who (readsR h who) x0) ?_ ?_
      · intro k hk r ih
        simp only [laws_FnReadsFrom_L1]
        rw [w64_succ (by omega)]
        refine Ex.yes (decide_eq_true (by omega)) ?_
        refine Ex.bind (readsFrom_law2 (by omega) (by omega) hk h.length 0 false (by omega)) (fun c hc => ?_)
        have : c = true := by
          have hm : (readsR h who).getD k 0 ∈ rfL h who := by
            rw [← hv.2]
            exact getD_mem hk
          obtain ⟨h1, h2⟩ := mem_rfL.1 hm
          obtain ⟨⟨i, hi, hit'⟩, _⟩ := rf_true.1 h2
          obtain ⟨j, hj, k1, k2, k3, k4, k5⟩ := hit_source hi (by omega) hit'
          exact hc (.inr ⟨j, Nat.zero_le _, by omega, i, by omega, hi, k1, k2, k4, k5, k3⟩)
        rw [this]
        exact Ex.no rfl ih
      · simp only [laws_FnReadsFrom_L1]
        exact Ex.no (decide_eq_false (by omega)) (Ex.ret rfl)
    · refine Ex.be (isIn_ex (by omega) _) (Ex.ret ?_)
      rw [Bool.not_eq_true']
      rw [Bool.eq_false_iff]
      intro hc
      rw [List.contains_iff_mem, hv.2] at hc
      exact (rf_true.1 (mem_rfL.1 hc).2).2 rfl

theorem validA_take {h : List Acc} (hv : validA h = true) (k : Nat) : validA (h.take k) = true := by
  obtain ⟨h1, h2⟩ := all_ok hv
  unfold validA
  rw [Bool.and_eq_true, decide_eq_true_eq, List.all_eq_true]
  exact ⟨by simp; omega, fun x hx => h2 x (List.mem_of_mem_take hx)⟩

theorem hit_take {h : List Acc} {who t : Int} {i k : Nat} (hi : i < k) (hk : k ≤ h.length) : hit (h.take k) who t i = hit h who t i := by
  unfold hit
  have e : (h.take k).getD i dacc = h.getD i dacc := by
    rw [getD_at (by simp; omega), getD_at (by omega), List.getElem_take]
  rw [e, List.take_take, Nat.min_eq_left (Nat.le_of_lt hi)]
theorem rf_take {h : List Acc} {who t : Int} {k : Nat} (hk : k ≤ h.length) : rf (h.take k) who t = rfK h who t k := by
  unfold rf rfK
  have e : (h.take k).length = k := by simp; omega
  rw [e]
  congr 1
  rw [Bool.eq_iff_iff, List.any_eq_true, List.any_eq_true]
  constructor
  · rintro ⟨i, hi, h1⟩
    exact ⟨i, hi, by rwa [hit_take (by simpa using hi) hk] at h1⟩
  · rintro ⟨i, hi, h1⟩
    exact ⟨i, hi, by rwa [hit_take (by simpa using hi) hk]⟩

theorem one_more (p : Int → Bool) (c : Bool) (w : Int) : (([0, 1, 2, 3] : List Int).filter fun t => p t || (c && decide (w = t))).length ≤ (([0, 1, 2, 3] : List Int).filter p).length + 1 := by
  by_cases h0 : w = 0
  · subst h0
    simp only [List.filter_cons, List.filter_nil]
    cases p 0 <;> cases p 1 <;> cases p 2 <;> cases p 3 <;> cases c <;> decide
  · by_cases h1 : w = 1
    · subst h1
      simp only [List.filter_cons, List.filter_nil]
      cases p 0 <;> cases p 1 <;> cases p 2 <;> cases p 3 <;> cases c <;> decide
    · by_cases h2 : w = 2
      · subst h2
        simp only [List.filter_cons, List.filter_nil]
        cases p 0 <;> cases p 1 <;> cases p 2 <;> cases p 3 <;> cases c <;> decide
      · by_cases h3 : w = 3
        · subst h3
          simp only [List.filter_cons, List.filter_nil]
          cases p 0 <;> cases p 1 <;> cases p 2 <;> cases p 3 <;> cases c <;> decide
        · have : (([0, 1, 2, 3] : List Int).filter fun t => p t || (c && decide (w = t))) = ([0, 1, 2, 3] : List Int).filter p := by
            refine List.filter_congr (fun t ht => ?_)
            have : decide (w = t) = false := by
              rw [decide_eq_false_iff_not]
              simp only [List.mem_cons, List.not_mem_nil, or_false] at ht
              omega
            rw [this, Bool.and_false, Bool.or_false]
          rw [this]
          omega

theorem rfL_take {h : List Acc} {who : Int} (hz : h.length ≠ 0) : (∀ t ∈ rfL (h.take (h.length - 1)) who, t ∈ rfL h who) ∧ (rfL h who).length ≤ (rfL (h.take (h.length - 1)) who).length + 1 := by
  have e : ∀ t, rf h who t = (rf (h.take (h.length - 1)) who t || (hit h who t (h.length - 1) && !decide (t = who))) := by
    intro t
    rw [rf_take (by omega), ← rfK_succ]
    unfold rf
    congr 1
    omega
  constructor
  · intro t ht
    obtain ⟨h1, h2⟩ := mem_rfL.1 ht
    exact mem_rfL.2 ⟨h1, by rw [e, h2]; rfl⟩
  · have e2 : rfL h who = ([0, 1, 2, 3] : List Int).filter fun t => rf (h.take (h.length - 1)) who t || (((decide ((h.getD (h.length - 1) dacc).who = who) && !(h.getD (h.length - 1) dacc).write) && !decide (lastW (h.take (h.length - 1)) (h.getD (h.length - 1) dacc).node = who)) && decide (lastW (h.take (h.length - 1)) (h.getD (h.length - 1) dacc).node = t)) := by
      unfold rfL
      refine List.filter_congr (fun t _ => ?_)
      rw [e]
      congr 1
      unfold hit
      by_cases hw : lastW (h.take (h.length - 1)) (h.getD (h.length - 1) dacc).node = t
      · rw [hw]; simp
      · rw [decide_eq_false hw]; simp
    rw [e2]
    exact one_more _ _ _

theorem subset_loop {α : Type} {out part : List Int} (hlo : out.length ≤ 1000) {f : Nat → Int → Option (Unit ⊕ α)} {B : Unit ⊕ α} (hs : ∀ t ∈ part, t ∈ out)
    (h1 : ∀ k : Nat, k < part.length → ∀ r, Ex (fun n => bindO (laws_isIn n out (part.getD k 0)) fun b => iteO (!b) (some (.inl ())) (f n ((k + 1 : Nat) : Int))) (· = r) → Ex (fun n => f (n + 1) (k : Int)) (· = r))
    (h2 : Ex (fun n => f (n + 1) (part.length : Int)) (· = B)) : Ex (fun n => f n 0) (· = B) := by
  refine skip_loop part.length ?_ h2
  intro k hk r ih
  refine h1 k hk r (Ex.be (isIn_ex (by omega) _) ?_)
  have : out.contains (part.getD k 0) = true := by
    rw [List.contains_iff_mem]
    exact hs _ (getD_mem hk)
  rw [this]
  exact Ex.no rfl ih

theorem law_FnReadsFromShort (x0 : List Int) (h0 : x0.length ≤ 9223372036854775807 ∧ ∀ x ∈ x0, RC.wf .u8 x) : ∃ n, laws_FnReadsFromShort n x0 = some true := by
  refine Ex.get ?_
  unfold laws_FnReadsFromShort
  refine Ex.code rfl (fun hl => ?_)
  refine Ex.bind (drawReads_ex (u8_wf h0.2) hl) ?_
  rintro ⟨h, who⟩ hh
  simp only at hh ⊢
  have hlen := readsR_len h who
  refine Ex.be (implReads_ex (by omega) _) (Ex.be (specReads_ex (by omega) _) (Ex.be (equalInts_ex (by omega)) ?_))
  cases hv : validA h with
  | false => exact Ex.be (a := true) (Ex.no rfl (Ex.be (implValidA_ex (by omega)) (Ex.yes (by rw [hv]; rfl) (Ex.ret rfl)))) (Ex.yes rfl (Ex.be (specReads_ex (by omega) _) (Ex.be (equalInts_ex (by omega)) (Ex.ret rfl))))
  | true =>
    by_cases hz : h.length = 0
    · exact Ex.be (a := true) (Ex.no rfl (Ex.be (implValidA_ex (by omega)) (Ex.no (by rw [hv]; rfl) (Ex.ret (by simp [hz]))))) (Ex.yes rfl (Ex.be (specReads_ex (by omega) _) (Ex.be (equalInts_ex (by omega)) (Ex.ret rfl))))
    · refine Ex.be (a := false) (Ex.no rfl (Ex.be (implValidA_ex (by omega)) (Ex.no (by rw [hv]; rfl) (Ex.ret (by simp [hz]))))) (Ex.no rfl ?_)
      have e : w64 ((h.length : Int) - 1) = ((h.length - 1 : Nat) : Int) := by rw [w64_id (by omega) (by omega)]; omega
      rw [e]
      simp only [Int.toNat_natCast, List.drop_zero]
      have hlen2 := readsR_len (h.take (h.length - 1)) who
      refine Ex.guard (by omega) (Ex.be (implReads_ex (by simp; omega) _) ?_)
      have h1 : readsR h who = rfL h who := if_pos hv
      have h2 : readsR (h.take (h.length - 1)) who = rfL (h.take (h.length - 1)) who := if_pos (validA_take hv _)
      obtain ⟨h3, h4⟩ := rfL_take (who := who) hz
      rw [h1] at hlen ⊢
      rw [h2] at hlen2 ⊢
      refine Ex.be (subset_loop (f := laws_FnReadsFromShort_L1 _ _ x0) (B := .inr ()) (by omega) h3 ?_ ?_) ?_
      · intro k hk r ih
        simp only [laws_FnReadsFromShort_L1, Int.toNat_natCast]
        rw [w64_succ (by omega)]
        exact Ex.yes (decide_eq_true (by omega)) (Ex.guard (by omega) ih)
      · simp only [laws_FnReadsFromShort_L1]
        exact Ex.no (decide_eq_false (by omega)) (Ex.ret rfl)
      · refine Ex.ret ?_
        rw [w64_succ (by omega)]
        exact decide_eq_true (by omega)
end Go.Proofs.Ytgihnmaaiibmeaa
