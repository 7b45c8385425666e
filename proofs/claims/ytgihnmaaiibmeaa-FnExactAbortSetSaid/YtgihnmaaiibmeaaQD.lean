/- Plain facts: who is undone with whom. Conditions: none. -/
import Derived.Test.YtgihnmaaiibmeaaQC
namespace Go.Proofs.Ytgihnmaaiibmeaa
open Go
set_option linter.unusedVariables false

/-- who is undone: a transaction, and all that read from one that is -/
inductive Rch (h : List Acc) (who : Int) : Int → Prop
  | base : Rch h who who
  | step {w r : Int} : Rch h who w → (0 ≤ r ∧ r ≤ 3) → rf h r w = true → Rch h who r

theorem Rch.range {h : List Acc} {who t : Int} (hw : 0 ≤ who ∧ who ≤ 3) (hr : Rch h who t) : 0 ≤ t ∧ t ≤ 3 := by
  cases hr with
  | base => exact hw
  | step _ h2 _ => exact h2

open Classical in
noncomputable def abL (h : List Acc) (who : Int) : List Int := ([0, 1, 2, 3] : List Int).filter fun t => decide (Rch h who t)
open Classical in
noncomputable def abR (h : List Acc) (who : Int) : List Int := if validA h = true ∧ 0 ≤ who ∧ who ≤ 3 then abL h who else []

open Classical in
theorem mem_abL {h : List Acc} {who t : Int} (hw : 0 ≤ who ∧ who ≤ 3) : t ∈ abL h who ↔ Rch h who t := by
  unfold abL
  rw [List.mem_filter, decide_eq_true_eq]
  constructor
  · exact fun h => h.2
  · intro hr
    have := hr.range hw
    refine ⟨?_, hr⟩
    simp only [List.mem_cons, List.not_mem_nil, or_false]
    omega

theorem abR_len (h : List Acc) (who : Int) : (abR h who).length ≤ 4 := by
  unfold abR
  split
  · exact Nat.le_trans (List.length_filter_le _ _) (by simp)
  · simp

/-- the rows of the program's table -/
def rowsOf (h : List Acc) : List Bool := (List.range 16).map fun i => rf h ((i / 4 : Nat) : Int) ((i % 4 : Nat) : Int)
theorem rows_getD (h : List Acc) {r w : Nat} (hr : r < 4) (hw : w < 4) : (rowsOf h).getD (r * 4 + w) false = rf h (r : Int) (w : Int) := by
  unfold rowsOf
  rw [List.getD_eq_getElem?_getD, List.getElem?_map, List.getElem?_range (by omega)]
  simp only [Option.map_some, Option.getD_some]
  congr 2
  · omega
  · omega

theorem splice_at {α : Type} (l m : List α) (o : Nat) (h : o + m.length ≤ l.length) (i : Nat) : (splice l o m)[i]? = if i < o then l[i]? else if i < o + m.length then m[i - o]? else l[i]? := by
  unfold splice
  by_cases h1 : i < o
  · rw [if_pos h1, List.append_assoc, List.getElem?_append_left (by rw [List.length_take]; omega), List.getElem?_take, if_pos h1]
  · rw [if_neg h1]
    by_cases h2 : i < o + m.length
    · rw [if_pos h2, List.getElem?_append_left (by rw [List.length_append, List.length_take]; omega), List.getElem?_append_right (by rw [List.length_take]; omega), List.length_take, Nat.min_eq_left (by omega)]
    · rw [if_neg h2, List.getElem?_append_right (by rw [List.length_append, List.length_take]; omega), List.length_append, List.length_take, Nat.min_eq_left (by omega), List.getElem?_drop]
      congr 1
      omega

theorem table_loop {h : List Acc} (hl : h.length ≤ 1000) (hv : ∀ x ∈ h, AccOk x = true) (who : Int) : Ex (fun n => impl_AbortSet_L1 h who n ([false, false, false, false, false, false, false, false, false, false, false, false, false, false, false, false] : List Bool) 0) (· = rowsOf h) := by
  have loop := loop4 (σ := List Bool) (inv := fun k s => s.length = 16 ∧ ∀ i, i < 4 * k → s[i]? = (rowsOf h)[i]?) (f := fun n s k => impl_AbortSet_L1 h who n s k) (fin := fun s => s) (s0 := [false, false, false, false, false, false, false, false, false, false, false, false, false, false, false, false]) ⟨rfl, fun i h => by omega⟩ ?_ ?_
  · refine Ex.mono loop ?_
    rintro r ⟨s, rfl, h1, h2⟩
    have hlen : (rowsOf h).length = 16 := by simp [rowsOf]
    apply List.ext_getElem?
    intro i
    rcases Nat.lt_or_ge i 16 with hi | hi
    · exact h2 i (by omega)
    · rw [List.getElem?_eq_none (by omega), List.getElem?_eq_none (by omega)]
  · intro k s hk hs Q hQ
    simp only [impl_AbortSet_L1, Int.toNat_natCast]
    rw [w64_succ (by omega)]
    refine Ex.yes (decide_eq_true (by omega)) (Ex.be (implSources_ex hl hv _) ?_)
    have hle : k * 4 + 4 ≤ s.length := by rw [hs.1]; omega
    refine Ex.guard ⟨by omega, by omega, by omega⟩ (Ex.guard ⟨rfl, by simpa using hle⟩ (hQ _ ⟨?_, fun i hi => ?_⟩))
    · unfold splice
      simp
      omega
    · rw [splice_at _ _ _ (by simpa using hle)]
      by_cases h1 : i < k * 4
      · rw [if_pos h1]; exact hs.2 i (by omega)
      · rw [if_neg h1, if_pos (by simp; omega)]
        obtain ⟨j, rfl⟩ : ∃ j, i = k * 4 + j := ⟨i - k * 4, by omega⟩
        have hj : j < 4 := by omega
        have e := rows_getD h hk hj
        have e2 : (rowsOf h)[k * 4 + j]? = some (rf h (k : Int) (j : Int)) := by
          rw [← e, List.getD_eq_getElem?_getD, List.getElem?_eq_getElem (by simp [rowsOf]; omega)]; rfl
        rw [e2, show k * 4 + j - k * 4 = j by omega]
        have : j = 0 ∨ j = 1 ∨ j = 2 ∨ j = 3 := by omega
        rcases this with rfl | rfl | rfl | rfl <;> rfl
  · intro s hs
    simp only [impl_AbortSet_L1]
    exact Ex.no (by decide) (Ex.ret rfl)

/-- one step of the program's search -/
def mark1 (h : List Acc) (r w : Nat) (s : List Bool) : List Bool := if s.getD w false = true ∧ rf h (r : Int) (w : Int) = true then s.set r true else s
def markRow (h : List Acc) (r : Nat) : Nat → List Bool → List Bool
  | 0, s => s
  | m + 1, s => markRow h r m (mark1 h r (3 - m) s)
def markAll (h : List Acc) : Nat → List Bool → List Bool
  | 0, s => s
  | m + 1, s => markAll h m (markRow h (3 - m) 4 s)
def markTimes (h : List Acc) : Nat → List Bool → List Bool
  | 0, s => s
  | m + 1, s => markTimes h m (markAll h 4 s)

theorem mark1_len (h : List Acc) (r w : Nat) (s : List Bool) : (mark1 h r w s).length = s.length := by
  unfold mark1; split <;> simp
theorem markRow_len (h : List Acc) (r : Nat) : ∀ m s, (markRow h r m s).length = s.length
  | 0, s => rfl
  | m + 1, s => by rw [markRow, markRow_len h r m, mark1_len]
theorem markAll_len (h : List Acc) : ∀ m s, (markAll h m s).length = s.length
  | 0, s => rfl
  | m + 1, s => by rw [markAll, markAll_len h m, markRow_len]
theorem markTimes_len (h : List Acc) : ∀ m s, (markTimes h m s).length = s.length
  | 0, s => rfl
  | m + 1, s => by rw [markTimes, markTimes_len h m, markAll_len]

theorem row_loop {h : List Acc} {r : Nat} (hr : r < 4) {i : Int} : ∀ (m : Nat) (s : List Bool), m ≤ 4 → s.length = 4 →
    Ex (fun n => impl_AbortSet_L4 (r : Int) i h (rowsOf h) n s ((4 - m : Nat) : Int)) (· = markRow h r m s)
  | 0, s, hm, hs => by
    refine Ex.succ ?_
    simp only [impl_AbortSet_L4]
    exact Ex.no (by decide) (Ex.ret rfl)
  | m + 1, s, hm, hs => by
    refine Ex.succ ?_
    have hlen : (rowsOf h).length = 16 := by simp [rowsOf]
    have e : 4 - (m + 1) = 3 - m := by omega
    rw [e]
    simp only [impl_AbortSet_L4, Int.toNat_natCast, Nat.mul_one, addN_eq]
    rw [w64_succ (by omega), rows_getD h hr (show 3 - m < 4 by omega)]
    have e2 : 3 - m + 1 = 4 - m := by omega
    rw [e2]
    refine Ex.yes (decide_eq_true (by omega)) (Ex.guard (by omega) ?_)
    refine Ex.be (a := s.getD (3 - m) false && rf h (r : Int) ((3 - m : Nat) : Int)) ?_ ?_
    · refine Ex.ite (fun hb => ?_) (fun hb => Ex.ret (by rw [hb]; rfl))
      exact Ex.guard (by omega) (Ex.guard (by omega) (Ex.ret (by rw [hb]; rfl)))
    · refine Ex.be (a := mark1 h r (3 - m) s) ?_ ?_
      · unfold mark1
        refine Ex.ite (fun hb => ?_) (fun hb => ?_)
        · rw [Bool.and_eq_true] at hb
          exact Ex.guard (by omega) (Ex.ret (by rw [if_pos hb]))
        · refine Ex.ret ?_
          rw [if_neg]
          rw [← Bool.and_eq_true, hb]
          simp
      · exact row_loop hr m _ (by omega) (by rw [mark1_len]; exact hs)

theorem all_loop {h : List Acc} {i : Int} : ∀ (m : Nat) (s : List Bool), m ≤ 4 → s.length = 4 →
    Ex (fun n => impl_AbortSet_L3 i h (rowsOf h) n s ((4 - m : Nat) : Int)) (· = markAll h m s)
  | 0, s, hm, hs => by
    refine Ex.succ ?_
    simp only [impl_AbortSet_L3]
    exact Ex.no (by decide) (Ex.ret rfl)
  | m + 1, s, hm, hs => by
    refine Ex.succ ?_
    have e : 4 - (m + 1) = 3 - m := by omega
    rw [e]
    simp only [impl_AbortSet_L3]
    rw [w64_succ (by omega)]
    have e2 : 3 - m + 1 = 4 - m := by omega
    rw [e2]
    refine Ex.yes (decide_eq_true (by omega)) (Ex.be (row_loop (r := 3 - m) (by omega) 4 s (Nat.le_refl _) hs) ?_)
    exact all_loop m _ (by omega) (by rw [markRow_len]; exact hs)

theorem times_loop {h : List Acc} : ∀ (m : Nat) (s : List Bool), m ≤ 4 → s.length = 4 →
    Ex (fun n => impl_AbortSet_L2 h (rowsOf h) n s ((4 - m : Nat) : Int)) (· = markTimes h m s)
  | 0, s, hm, hs => by
    refine Ex.succ ?_
    simp only [impl_AbortSet_L2]
    exact Ex.no (by decide) (Ex.ret rfl)
  | m + 1, s, hm, hs => by
    refine Ex.succ ?_
    have e : 4 - (m + 1) = 3 - m := by omega
    rw [e]
    simp only [impl_AbortSet_L2]
    rw [w64_succ (by omega)]
    have e2 : 3 - m + 1 = 4 - m := by omega
    rw [e2]
    refine Ex.yes (decide_eq_true (by omega)) (Ex.be (all_loop 4 s (Nat.le_refl _) hs) ?_)
    exact times_loop m _ (by omega) (by rw [markAll_len]; exact hs)

/-- what is marked -/
def In (s : List Bool) (t : Nat) : Prop := s.getD t false = true
theorem In.lt {s : List Bool} {t : Nat} (h : In s t) : t < s.length := by
  rcases Nat.lt_or_ge t s.length with h1 | h1
  · exact h1
  · unfold In at h
    rw [List.getD_eq_getElem?_getD, List.getElem?_eq_none h1] at h
    cases h
theorem In_set {s : List Bool} {r t : Nat} : In (s.set r true) t ↔ (r = t ∧ r < s.length) ∨ In s t := by
  unfold In
  rw [List.getD_eq_getElem?_getD, List.getElem?_set, List.getD_eq_getElem?_getD]
  by_cases e : r = t
  · subst e
    by_cases h : r < s.length <;> simp [h]
  · simp [e]

def Sound (h : List Acc) (who : Int) (s : List Bool) : Prop := ∀ t, In s t → Rch h who (t : Int)
theorem mark1_sound {h : List Acc} {who : Int} {r w : Nat} {s : List Bool} (hr : r < 4) (hs : Sound h who s) : Sound h who (mark1 h r w s) := by
  unfold mark1
  split
  · rename_i hc
    intro t ht
    rcases In_set.1 ht with ⟨rfl, _⟩ | ht
    · exact .step (hs w hc.1) (by omega) hc.2
    · exact hs t ht
  · exact hs
theorem markRow_sound {h : List Acc} {who : Int} {r : Nat} (hr : r < 4) : ∀ m s, Sound h who s → Sound h who (markRow h r m s)
  | 0, s, hs => hs
  | m + 1, s, hs => markRow_sound hr m _ (mark1_sound hr hs)
theorem markAll_sound {h : List Acc} {who : Int} : ∀ m s, m ≤ 4 → Sound h who s → Sound h who (markAll h m s)
  | 0, s, _, hs => hs
  | m + 1, s, hm, hs => markAll_sound m _ (by omega) (markRow_sound (by omega) 4 _ hs)
theorem markTimes_sound {h : List Acc} {who : Int} : ∀ m s, Sound h who s → Sound h who (markTimes h m s)
  | 0, s, hs => hs
  | m + 1, s, hs => markTimes_sound m _ (markAll_sound 4 s (Nat.le_refl _) hs)

theorem mark1_sub {h : List Acc} {r w t : Nat} {s : List Bool} (hs : In s t) : In (mark1 h r w s) t := by
  unfold mark1
  split
  · exact In_set.2 (.inr hs)
  · exact hs
theorem markRow_sub {h : List Acc} {r t : Nat} : ∀ m s, In s t → In (markRow h r m s) t
  | 0, s, hs => hs
  | m + 1, s, hs => markRow_sub m _ (mark1_sub hs)
theorem markAll_sub {h : List Acc} {t : Nat} : ∀ m s, In s t → In (markAll h m s) t
  | 0, s, hs => hs
  | m + 1, s, hs => markAll_sub m _ (markRow_sub 4 _ hs)
theorem markTimes_sub {h : List Acc} {t : Nat} : ∀ m s, In s t → In (markTimes h m s) t
  | 0, s, hs => hs
  | m + 1, s, hs => markTimes_sub m _ (markAll_sub 4 _ hs)

theorem markRow_new {h : List Acc} {r w : Nat} (hr : r < 4) : ∀ m s, s.length = 4 → m ≤ 4 → w < 4 → 4 - m ≤ w → In s w → rf h (r : Int) (w : Int) = true → In (markRow h r m s) r
  | 0, s, _, _, h1, h2, _, _ => by omega
  | m + 1, s, hs, hm, h1, h2, h3, h4 => by
    rw [markRow]
    by_cases e : w = 3 - m
    · refine markRow_sub m _ ?_
      unfold mark1
      rw [← e, if_pos ⟨h3, h4⟩]
      exact In_set.2 (.inl ⟨rfl, by omega⟩)
    · exact markRow_new hr m _ (by rw [mark1_len]; exact hs) (by omega) h1 (by omega) (mark1_sub h3) h4
theorem markAll_new {h : List Acc} {r w : Nat} (hr : r < 4) (hw : w < 4) : ∀ m s, s.length = 4 → m ≤ 4 → 4 - m ≤ r → In s w → rf h (r : Int) (w : Int) = true → In (markAll h m s) r
  | 0, s, _, _, h2, _, _ => by omega
  | m + 1, s, hs, hm, h2, h3, h4 => by
    rw [markAll]
    by_cases e : r = 3 - m
    · refine markAll_sub m _ ?_
      rw [← e]
      exact markRow_new hr 4 s hs (Nat.le_refl _) hw (Nat.zero_le _) h3 h4
    · exact markAll_new hr hw m _ (by rw [markRow_len]; exact hs) (by omega) (by omega) (markRow_sub 4 _ h3) h4

/-- how many are marked -/
def cnt (s : List Bool) : Nat := s.countP id
theorem cnt_le {s : List Bool} (h : s.length = 4) : cnt s ≤ 4 := by
  unfold cnt
  rw [← h]; exact List.countP_le_length
def Closed (h : List Acc) (s : List Bool) : Prop := ∀ r w : Nat, r < 4 → In s w → rf h (r : Int) (w : Int) = true → In s r

theorem four_bits {s : List Bool} (h : s.length = 4) : ∃ a b c d, s = [a, b, c, d] := by
  match s, h with
  | [a, b, c, d], _ => exact ⟨a, b, c, d, rfl⟩
theorem grow {s s' : List Bool} (h : s.length = 4) (h' : s'.length = 4) (hs : ∀ t, In s t → In s' t) : s' = s ∨ cnt s < cnt s' := by
  obtain ⟨a, b, c, d, rfl⟩ := four_bits h
  obtain ⟨a', b', c', d', rfl⟩ := four_bits h'
  have h0 := hs 0
  have h1 := hs 1
  have h2 := hs 2
  have h3 := hs 3
  simp only [In, List.getD_cons_zero, List.getD_cons_succ] at h0 h1 h2 h3
  revert h0 h1 h2 h3
  cases a <;> cases b <;> cases c <;> cases d <;> cases a' <;> cases b' <;> cases c' <;> cases d' <;> simp [cnt]

theorem markAll_closed {h : List Acc} {s : List Bool} (hs : s.length = 4) (e : markAll h 4 s = s) : Closed h s := by
  intro r w hr hw hrf
  have := markAll_new hr (by rw [← hs]; exact hw.lt) 4 s hs (Nat.le_refl _) (Nat.zero_le _) hw hrf
  rwa [e] at this
theorem times_fix {h : List Acc} {s : List Bool} (e : markAll h 4 s = s) : ∀ m, markTimes h m s = s
  | 0 => rfl
  | m + 1 => by rw [markTimes, e, times_fix e m]
theorem times_closed {h : List Acc} : ∀ (m : Nat) (s : List Bool), s.length = 4 → 4 < cnt s + m → Closed h (markTimes h m s)
  | 0, s, hs, hm => by have := cnt_le hs; omega
  | m + 1, s, hs, hm => by
    rcases grow hs (by rw [markAll_len]; exact hs) (fun t ht => markAll_sub (h := h) 4 s ht) with e | e
    · rw [times_fix e]
      exact markAll_closed hs e
    · rw [markTimes]
      exact times_closed m _ (by rw [markAll_len]; exact hs) (by omega)

theorem start_in {w : Nat} (hw : w < 4) : In ([false, false, false, false].set w true) w ∧ ∀ t, In ([false, false, false, false].set w true) t → t = w := by
  refine ⟨In_set.2 (.inl ⟨rfl, hw⟩), fun t ht => ?_⟩
  rcases In_set.1 ht with ⟨e, _⟩ | ht
  · exact e.symm
  · unfold In at ht
    have : t = 0 ∨ t = 1 ∨ t = 2 ∨ t = 3 ∨ 4 ≤ t := by omega
    rcases this with rfl | rfl | rfl | rfl | h4
    · cases ht
    · cases ht
    · cases ht
    · cases ht
    · rw [List.getD_eq_getElem?_getD, List.getElem?_eq_none (by simpa using h4)] at ht
      cases ht

theorem times_reach {h : List Acc} {w : Nat} (hw : w < 4) (t : Nat) : In (markTimes h 4 ([false, false, false, false].set w true)) t ↔ Rch h (w : Int) (t : Int) := by
  have hl : ([false, false, false, false].set w true).length = 4 := by simp
  obtain ⟨s1, s2⟩ := start_in hw
  constructor
  · exact markTimes_sound 4 _ (fun t ht => by rw [s2 t ht]; exact .base) t
  · intro hr
    have hc : Closed h (markTimes h 4 ([false, false, false, false].set w true)) := by
      refine times_closed 4 _ hl ?_
      have : w = 0 ∨ w = 1 ∨ w = 2 ∨ w = 3 := by omega
      rcases this with rfl | rfl | rfl | rfl <;> decide
    have key : ∀ {x : Int}, Rch h (w : Int) x → ∀ t : Nat, x = t → In (markTimes h 4 ([false, false, false, false].set w true)) t := by
      intro x hx
      induction hx with
      | base => intro t ht; obtain rfl : w = t := by omega
                exact markTimes_sub 4 _ s1
      | @step v r h1 h2 h3 ih =>
        intro t ht
        subst ht
        have hv := h1.range (by omega)
        obtain ⟨v', rfl⟩ : ∃ v' : Nat, v = v' := ⟨v.toNat, by omega⟩
        exact hc t v' (by omega) (ih v' rfl) h3
    exact key hr t rfl

open Classical in
theorem implAbort_ex {h : List Acc} (hl : h.length < 1000000) (who : Int) : Ex (fun n => impl_AbortSet n h who) (· = abR h who) := by
  unfold impl_AbortSet abR
  refine Ex.be (implValidA_ex (by omega)) ?_
  by_cases hc : validA h = true ∧ 0 ≤ who ∧ who ≤ 3
  · rw [if_pos hc]
    obtain ⟨hv, hw1, hw2⟩ := hc
    obtain ⟨w, rfl⟩ : ∃ w : Nat, who = w := ⟨who.toNat, by omega⟩
    have hw : w < 4 := by omega
    obtain ⟨g1, g2⟩ := all_ok hv
    refine Ex.no (by rw [hv]; unfold impl_within; rw [decide_eq_true hw1, decide_eq_true hw2]; rfl) ?_
    refine Ex.be (table_loop (by omega) g2 _) ?_
    simp only [Int.toNat_natCast, Nat.mul_one]
    refine Ex.guard ⟨hw1, by omega, by simpa using hw⟩ (Ex.be (times_loop 4 _ (Nat.le_refl _) (by simp)) ?_)
    have hlen : (markTimes h 4 ([false, false, false, false].set w true)).length = 4 := by rw [markTimes_len]; simp
    have hreach := times_reach (h := h) hw
    generalize markTimes h 4 ([false, false, false, false].set w true) = s at hlen hreach
    obtain ⟨a, b, c, d, rfl⟩ := four_bits hlen
    refine Ex.guard (by simp) (Ex.be (marked_ex a b c d) (Ex.ret ?_))
    unfold abL
    refine List.filter_congr (fun t ht => ?_)
    simp only [List.mem_cons, List.not_mem_nil, or_false] at ht
    obtain ⟨t, rfl⟩ : ∃ k : Nat, t = k := ⟨t.toNat, by omega⟩
    rw [Int.toNat_natCast, Bool.eq_iff_iff, decide_eq_true_eq]
    exact hreach t
  · rw [if_neg hc]
    refine Ex.yes ?_ (Ex.ret rfl)
    rw [Bool.or_eq_true]
    by_cases hv : validA h = true
    · right
      unfold impl_within
      rw [Bool.not_eq_true', Bool.and_eq_false_iff, decide_eq_false_iff_not, decide_eq_false_iff_not]
      by_cases h1 : 0 ≤ who
      · exact .inr (fun h2 => hc ⟨hv, h1, h2⟩)
      · exact .inl h1
    · left
      simp [hv]
end Go.Proofs.Ytgihnmaaiibmeaa
