/- Plain facts: edits as the specification makes them. Conditions: none. -/
import Derived.Test.YthlfcfcfipahiaaVP3a
namespace Go.Proofs.Ythlfcfcfipahiaa
open Go
set_option linter.unusedVariables false

theorem above_loop {t : List Nod} (h : VT t) (k : Nat) : ∀ j, j < t.length → Ex (fun n => spec_above_L1 t (k : Int) n (j : Int)) (fun r => decide (r = (k : Int)) = decide (k ∈ ix t j)) := by
  intro j
  induction j using Nat.strongRecOn with
  | ind j ih =>
    intro hj
    refine Ex.succ ?_
    simp only [spec_above_L1, Int.toNat_natCast]
    rcases Nat.lt_or_ge k j with hkj | hkj
    · have p := h.par j (by omega) hj
      have e : (t.getD j dnod).parent = (((pa t j).toNat : Nat) : Int) := by rw [Int.toNat_of_nonneg p.1]; rfl
      refine Ex.yes (decide_eq_true (by omega)) (Ex.guard (by omega) ?_)
      rw [e]
      refine Ex.mono (ih _ p.2 (by omega)) (fun r hr => ?_)
      rw [hr, ix_pos h (by omega) hj, Bool.eq_iff_iff, decide_eq_true_eq, decide_eq_true_eq, List.mem_append, List.mem_singleton]
      constructor
      · exact .inl
      · rintro (h1 | h1)
        · exact h1
        · omega
    · refine Ex.no (decide_eq_false (by omega)) (Ex.ret ?_)
      rw [Bool.eq_iff_iff, decide_eq_true_eq, decide_eq_true_eq]
      constructor
      · intro e
        have : j = k := by omega
        rw [this]; exact ix_self t k
      · intro e
        have := ix_le t j k e; omega
theorem specAbove_ex {t : List Nod} (h : VT t) (k : Nat) {j : Nat} (hj : j < t.length) : Ex (fun n => spec_above n t (k : Int) (j : Int)) (· = !kept t k j) := by
  unfold spec_above
  refine Ex.bind (above_loop h k j hj) (fun r hr => Ex.ret ?_)
  rw [hr, kept, Bool.not_not]

theorem specWithout_ex {t : List Nod} (h : VT t) {k : Nat} (hk0 : 0 < k) : Ex (fun n => spec_without n t (k : Int)) (· = dropT t k) := by
  have hhi := h.hi
  unfold spec_without
  refine Ex.guard ⟨rfl, by omega, by omega⟩ (Ex.be (a := dropT t k) ?_ (Ex.ret rfl))
  rw [Int.toNat_natCast]
  refine up t.length (fun i (s : List Nod × List Int) => s.1 = ((List.range i).filter (kept t k)).map (moved t k) ∧ s.2.length = t.length ∧ ∀ j, j < i → kept t k j = true → s.2.getD j 0 = (cnt t k j : Int)) (f := fun n s i => spec_without_L1 t k n s.1 s.2 i) ?_ ?_ 0 ([], _) (Nat.zero_le _) ⟨rfl, by simp, fun j hj => by omega⟩
  · rintro i ⟨o, p⟩ hi ⟨h1, h2, h3⟩ next
    simp only at h1 h2 h3
    subst h1
    have hc := cnt_le t k i
    have hl := pre_len t k i
    simp only [spec_without_L1, Int.toNat_natCast]
    refine Ex.yes (decide_eq_true (by omega)) ?_
    rw [w64_succ (by omega)]
    have er : (List.range (i + 1)).filter (kept t k) = (List.range i).filter (kept t k) ++ (if kept t k i = true then [i] else []) := by
      rw [List.range_succ, List.filter_append, List.filter_cons]; rfl
    cases hki : kept t k i with
    | false =>
      refine Ex.be (a := (((List.range i).filter (kept t k)).map (moved t k), p)) (Ex.be (specAbove_ex h k hi) (Ex.yes (by rw [hki]; rfl) (Ex.ret rfl))) ?_
      refine next (_, p) ⟨?_, h2, fun j hj hkj => ?_⟩
      · rw [er, hki]; simp
      · rcases Nat.eq_or_lt_of_le (Nat.le_of_lt_succ hj) with rfl | h6
        · rw [hki] at hkj; cases hkj
        · exact h3 j h6 hkj
    | true =>
      refine Ex.be (a := (((List.range i).filter (kept t k)).map (moved t k) ++ [moved t k i], p.set i (cnt t k i : Int))) (Ex.be (specAbove_ex h k hi) (Ex.no (by rw [hki]; rfl) (Ex.guard (by omega) (Ex.be (a := (moved t k i).parent) ?_ (Ex.guard (by omega) (Ex.guard ⟨trivial, trivial, by rw [hl]; simp; omega⟩ (Ex.ret ?_))))))) ?_
      · refine Ex.ite (fun hb => ?_) (fun hb => ?_)
        · have h0 : 0 < i := by have := of_decide_eq_true hb; omega
          have q := h.par i h0 hi
          have q2 : 0 ≤ (t.getD i dnod).parent ∧ (t.getD i dnod).parent < (p.length : Int) := by
            have := q.1; have := q.2; simp only [pa] at *; omega
          refine Ex.guard q2 (Ex.ret ?_)
          rw [moved, if_pos h0]
          exact h3 _ q.2 (kept_up h h0 hi hki)
        · have h0 : ¬ 0 < i := by have := of_decide_eq_false hb; omega
          refine Ex.ret ?_
          rw [moved, if_neg h0]; rfl
      · simp only [hl]; rfl
      · refine next (_, _) ⟨?_, by simpa using h2, fun j hj hkj => ?_⟩
        · rw [er, hki, if_pos rfl, List.map_append]; rfl
        · simp only
          rw [getD_set' (by omega)]
          split
          · rename_i e; rw [e]
          · exact h3 j (by omega) hkj
  · rintro ⟨o, p⟩ ⟨h1, _, _⟩
    simp only at h1
    subst h1
    simp only [spec_without_L1]
    exact Ex.no (decide_eq_false (by omega)) (Ex.ret rfl)

theorem specDrop_ex {t : List Nod} (h : VT t) (s : Str) : Ex (fun n => spec_DropNode n t (res t s)) (· = pairO (dropP t s)) := by
  have hhi := h.hi
  unfold spec_DropNode
  refine Ex.be (specTree_ex h.nl h.le) ?_
  rw [validT_iff.2 h, Bool.not_true, Bool.false_or, w64_id (by omega) (by omega)]
  rw [dropP, res]
  cases e : resO t s with
  | none =>
    exact Ex.yes (by simp [spec_inRange, oi]) (Ex.ret rfl)
  | some k =>
    have hk := ((resO_iff h).1 e).1
    simp only [oi]
    by_cases h0 : 0 < k
    · rw [if_pos h0]
      refine Ex.no ?_ (Ex.be (specWithout_ex h h0) (Ex.ret rfl))
      rw [Bool.not_eq_false']
      simp only [spec_inRange, Bool.and_eq_true, decide_eq_true_eq]; omega
    · rw [if_neg h0]
      refine Ex.yes ?_ (Ex.ret rfl)
      rw [Bool.not_eq_true']
      simp only [spec_inRange, Bool.and_eq_false_iff, decide_eq_false_iff_not]; omega
theorem specSet_ex {t : List Nod} (h : VT t) {k : Nat} (hk : k < t.length) (v : Int) : Ex (fun n => spec_SetValue n t (k : Int) v) (· = pairO (if rv v = true then some (setT t k v) else none)) := by
  have hhi := h.hi
  unfold spec_SetValue
  refine Ex.be (specTree_ex h.nl h.le) ?_
  rw [validT_iff.2 h, Bool.not_true, Bool.false_or, w64_id (by omega) (by omega)]
  have e1 : spec_inRange (k : Int) 0 ((t.length : Int) - 1) = true := by
    simp only [spec_inRange, Bool.and_eq_true, decide_eq_true_eq]; omega
  rw [e1, Bool.not_true, Bool.false_or, show spec_inRange v (-1000) 1000 = rv v from rfl]
  refine Ex.ite (fun hb => Ex.ret ?_) (fun hb => ?_)
  · rw [if_neg (by rw [notT hb]; simp)]; rfl
  · rw [if_pos (notF hb)]
    simp only [view_all, List.nil_append, Int.toNat_natCast]
    exact Ex.guard ⟨trivial, trivial, by simp; omega⟩ (Ex.guard (by omega) (Ex.ret rfl))

/-- the loop that looks for the last slash -/
theorem specCut_some {a b : Str} (hb : (47 : UInt8) ∉ b) (hl : (a ++ 47 :: b).length ≤ 1000000000000) : Ex (fun n => spec_cut n (a ++ 47 :: b)) (· = (if a = [] then [47] else a, b)) := by
  have hlen : (a ++ 47 :: b).length = a.length + 1 + b.length := by simp; omega
  have hat : ∀ j, j < b.length → (a ++ 47 :: b).getD (a.length + 1 + j) 0 ≠ 47 := by
    intro j hj e
    rw [show a.length + 1 + j = a.length + (1 + j) by omega, getD_app, show 1 + j = j + 1 by omega, List.getD_cons_succ] at e
    exact hb (e ▸ getD_mem hj)
  have h0 : (a ++ 47 :: b).getD a.length 0 = 47 := by
    have := getD_app (a := a) (b := 47 :: b) (d := (0 : UInt8)) 0
    rw [Nat.add_zero] at this; rw [this]; rfl
  have key : ∀ m, m ≤ b.length → Ex (fun n => spec_cut_L1 (a ++ 47 :: b) n ((a.length + m : Nat) : Int)) (· = if a = [] then .inr () else .inl (a, b)) := by
    intro m
    induction m with
    | zero =>
      intro _
      rw [Nat.add_zero]
      refine Ex.succ ?_
      simp only [spec_cut_L1, Int.toNat_natCast]
      cases ha : a with
      | nil => exact Ex.no (by simp) (Ex.ret rfl)
      | cons x y =>
        rw [← ha]
        have hpos : 0 < a.length := by rw [ha]; simp
        rw [w64_succ (by omega), if_neg (by rw [ha]; simp)]
        refine Ex.yes (decide_eq_true (by omega)) (Ex.guard (by omega) (Ex.yes (decide_eq_true (by rw [h0]; rfl)) (Ex.guard (by omega) (Ex.guard (by omega) (Ex.ret ?_)))))
        rw [Int.toNat_natCast]
        congr 2
        · simp
        · have e : a ++ 47 :: b = (a ++ [47]) ++ b := by simp
          rw [e]; exact List.drop_left' (by simp)
    | succ m ih =>
      intro hm
      refine Ex.succ ?_
      simp only [spec_cut_L1, Int.toNat_natCast]
      have h1 := hat m (by omega)
      rw [show a.length + 1 + m = a.length + (m + 1) by omega] at h1
      refine Ex.yes (decide_eq_true (by omega)) (Ex.guard (by omega) (Ex.no (decide_eq_false (fun e => h1 ?_)) ?_))
      · apply UInt8.toNat_inj.1
        rw [show (47 : UInt8).toNat = 47 from rfl]
        omega
      · have e : w64 (((a.length + (m + 1) : Nat) : Int) - 1) = ((a.length + m : Nat) : Int) := by rw [w64_id (by omega) (by omega)]; omega
        rw [e]
        exact ih (by omega)
  unfold spec_cut
  have e : w64 (((a ++ 47 :: b).length : Int) - 1) = ((a.length + b.length : Nat) : Int) := by rw [w64_id (by omega) (by omega)]; omega
  rw [e]
  refine Ex.be (key b.length (Nat.le_refl _)) ?_
  cases ha : a with
  | nil =>
    rw [if_pos rfl, if_pos rfl]
    exact Ex.no (by simp; omega) (Ex.guard (by simp; omega) (Ex.ret rfl))
  | cons x y => rw [if_neg (by simp), if_neg (by simp)]; exact Ex.ret rfl
theorem specCut_none {s : Str} (h : (47 : UInt8) ∉ s) (hl : s.length ≤ 1000000000000) : Ex (fun n => spec_cut n s) (fun r => r.1.length ≤ 1000000000000 ∧ r.2.length ≤ 1000000000000) := by
  have key : ∀ m : Nat, m < s.length → Ex (fun n => spec_cut_L1 s n (m : Int)) (· = .inr ()) := by
    intro m
    induction m with
    | zero => intro _; refine Ex.succ ?_; simp only [spec_cut_L1]; exact Ex.no (by decide) (Ex.ret rfl)
    | succ m ih =>
      intro hm
      refine Ex.succ ?_
      simp only [spec_cut_L1, Int.toNat_natCast]
      have h1 : s.getD (m + 1) 0 ≠ 47 := fun e => h (e ▸ getD_mem hm)
      refine Ex.yes (decide_eq_true (by omega)) (Ex.guard (by omega) (Ex.no (decide_eq_false (fun e => h1 ?_)) ?_))
      · apply UInt8.toNat_inj.1
        rw [show (47 : UInt8).toNat = 47 from rfl]
        omega
      · have e : w64 (((m + 1 : Nat) : Int) - 1) = (m : Int) := by rw [w64_id (by omega) (by omega)]; omega
        rw [e]
        exact ih (by omega)
  unfold spec_cut
  cases s with
  | nil =>
    refine Ex.be (a := .inr ()) ?_ ?_
    · refine Ex.succ ?_
      simp only [spec_cut_L1]
      exact Ex.no (by decide) (Ex.ret rfl)
    · refine Ex.yes rfl (Ex.ret ⟨?_, ?_⟩)
      · simp
      · simp
  | cons x y =>
    simp only [List.length_cons] at hl
    have e : w64 (((x :: y : Str).length : Int) - 1) = ((y.length : Nat) : Int) := by rw [w64_id (by simp <;> omega) (by simp; omega)]; simp
    rw [e]
    exact Ex.be (key y.length (by simp)) (Ex.no (by simp; omega) (Ex.guard (by simp; omega) (Ex.ret ⟨by simp, by simp; omega⟩)))

theorem specApply_ex {t : List Nod} (h : VT t) {e : Edt} (hp : e.path.length ≤ 1000000000000) : Ex (fun n => spec_apply n t e) (· = pairO (app1 t e)) := by
  have hhi := h.hi
  unfold spec_apply
  refine Ex.be (specRes_ex h e.path) ?_
  rw [app1]
  by_cases hk1 : e.kind = 1
  · rw [if_pos hk1]
    by_cases hv : e.value = 0
    · rw [if_pos hv]
      exact Ex.yes (by rw [decide_eq_true hk1, decide_eq_true hv]; rfl) (Ex.be (specDrop_ex h e.path) (Ex.ret rfl))
    · rw [if_neg hv]
      refine Ex.no (by rw [decide_eq_false hv]; simp) (Ex.yes (by rw [decide_eq_false (by omega)]; rfl) (Ex.ret rfl))
  · rw [if_neg hk1]
    refine Ex.no (by rw [decide_eq_false hk1]; rfl) ?_
    by_cases hk0 : e.kind = 0
    · rw [if_pos hk0]
      refine Ex.no (by rw [decide_eq_true hk0]; rfl) ?_
      cases hr : resO t e.path with
      | some k =>
        have hk := ((resO_iff h).1 hr).1
        rw [res, hr]
        simp only [oi]
        exact Ex.yes (decide_eq_true (by omega)) (Ex.be (specSet_ex h hk e.value) (Ex.ret rfl))
      | none =>
        rw [res, hr]
        simp only [oi]
        refine Ex.no (by decide) ?_
        have fin : ∀ (s : Str) (x : Nod), x.name.length ≤ 1000000000000 → Ex (fun n => bindO (spec_AddNode n t x.parent x.name x.value) fun (x85, i86, b87) => bindO (iteO (!b87) (some true) (bindO (spec_resolve n x85 s) fun i96 => some (decide (i96 < 0)))) fun b93 => iteO b93 (some (([] : List Nod), false)) (some (x85, true))) (· = pairO (if validT (t ++ [x]) = true ∧ 0 ≤ res (t ++ [x]) s then some (t ++ [x]) else none)) := by
          intro s x hx
          refine Ex.be (specAdd_ex h.nl (by omega) _ hx _) ?_
          rw [show (⟨x.parent, x.name, x.value⟩ : Nod) = x from rfl, addT_fits h]
          by_cases hv : validT (t ++ [x]) = true
          · rw [if_pos hv]
            refine Ex.be (a := decide (res (t ++ [x]) s < 0)) (Ex.no rfl (Ex.be (specRes_ex (validT_iff.1 hv) s) (Ex.ret rfl))) ?_
            refine Ex.ite (fun hb => Ex.ret ?_) (fun hb => Ex.ret ?_)
            · rw [if_neg (fun h => by have := of_decide_eq_true hb; omega)]; rfl
            · rw [if_pos ⟨hv, by have := of_decide_eq_false hb; omega⟩]; rfl
          · rw [if_neg hv, if_neg (fun h => hv h.1)]
            exact Ex.be (a := true) (Ex.yes rfl (Ex.ret rfl)) (Ex.yes rfl (Ex.ret rfl))
        rcases last_at 47 e.path with h1 | ⟨a, b, h1, h2⟩
        · have e1 : addP t e.path e.value = none := by rw [addP, pth_nohead h1]
          rw [e1]
          refine Ex.bind (specCut_none h1 hp) ?_
          rintro ⟨p, q⟩ ⟨hp1, hq1⟩
          simp only at hp1 hq1
          refine Ex.be (specRes_ex h p) ?_
          refine Ex.mono (fin e.path ⟨res t p, q, e.value⟩ hq1) (fun r hr => ?_)
          rw [hr, if_neg]
          rintro ⟨h3, h4⟩
          rw [res_nohead (validT_iff.1 h3) h1] at h4; omega
        · rw [h1] at hp hr ⊢
          refine Ex.be (specCut_some h2 hp) ?_
          simp only
          refine Ex.be (specRes_ex h _) ?_
          have e3 : res t (if a = [] then [47] else a) = if a = [] then 0 else res t a := by
            split
            · rw [res_desc h, if_pos rfl, if_pos rfl]
            · rfl
          rw [e3, addP_up h h2 hr]
          refine Ex.mono (fin (a ++ 47 :: b) ⟨if a = [] then 0 else res t a, b, e.value⟩ (by simp at hp; simp; omega)) (fun r hr => hr)
    · rw [if_neg hk0]
      exact Ex.yes (by rw [decide_eq_false hk0]; rfl) (Ex.ret rfl)

theorem specApplyAll_ex {t : List Nod} (hn : NL t) (hl : t.length ≤ 400000000) {l : List Edt} (hp : ∀ e ∈ l, e.path.length ≤ 1000000000000) : Ex (fun n => spec_ApplyEdits n t l) (· = applyR t l) := by
  unfold spec_ApplyEdits
  refine Ex.be (specTree_ex hn hl) ?_
  rw [applyR]
  cases hv : validT t with
  | false => exact Ex.yes rfl (Ex.ret rfl)
  | true =>
    have h := validT_iff.1 hv
    by_cases h24 : l.length ≤ 24
    · rw [decide_eq_true h24]
      refine Ex.no (by rw [decide_eq_false (by omega)]; rfl) ?_
      rw [if_pos (show (true && true) = true from rfl)]
      have loop : ∀ (L : List Edt) (k : Nat) (u : List Nod), VT u → l.drop k = L → k ≤ l.length → Ex (fun n => spec_ApplyEdits_L1 l t n u (k : Int)) (· = match appAll u L with
          | some w => .inr w
          | none => .inl ()) := by
        intro L
        induction L with
        | nil =>
          intro k u hu h1 h2
          have h3 := List.drop_eq_nil_iff.1 h1
          refine Ex.succ ?_
          simp only [spec_ApplyEdits_L1]
          exact Ex.no (decide_eq_false (by omega)) (Ex.ret rfl)
        | cons e L ih =>
          intro k u hu h1 h2
          have hk : k < l.length := by
            rcases Nat.lt_or_ge k l.length with h3 | h3
            · exact h3
            · rw [List.drop_eq_nil_of_le h3] at h1; cases h1
          rw [drop_at dedt hk, List.cons.injEq] at h1
          refine Ex.succ ?_
          simp only [spec_ApplyEdits_L1, Int.toNat_natCast, h1.1]
          refine Ex.yes (decide_eq_true (by omega)) (Ex.guard (by omega) (Ex.be (specApply_ex hu (hp e (by rw [← h1.1]; exact getD_mem hk))) ?_))
          rw [appAll]
          cases ha : app1 u e with
          | none => exact Ex.yes rfl (Ex.ret rfl)
          | some w =>
            refine Ex.no rfl ?_
            rw [w64_succ (by omega)]
            exact ih (k + 1) w (app1_VT hu ha) h1.2 (by omega)
      cases l with
      | nil =>
        refine Ex.be (a := .inr (.inr ())) (Ex.no (by simp) (Ex.ret rfl)) ?_
        simp only [view_all, List.nil_append]
        exact Ex.guard ⟨trivial, trivial, by have := h.hi; simp; omega⟩ (Ex.ret rfl)
      | cons e L =>
        rw [appAll]
        refine Ex.be (a := match app1 t e with
          | none => .inl ()
          | some u => match appAll u L with
            | none => .inl ()
            | some w => .inr (.inl w)) ?_ ?_
        · have e0 : (e :: L).getD 0 dedt = e := rfl
          simp only [e0]
          refine Ex.yes (by simp) (Ex.guard (by simp) (Ex.be (specApply_ex h (hp e (by simp))) ?_))
          cases ha : app1 t e with
          | none => exact Ex.yes rfl (Ex.ret rfl)
          | some u =>
            refine Ex.no rfl ?_
            have e1 : w64 (0 + 1) = ((1 : Nat) : Int) := by decide
            rw [e1]
            refine Ex.be (loop L 1 u (app1_VT h ha) rfl (by simp)) ?_
            cases hb : appAll u L with
            | none => exact Ex.ret (by simp only [hb])
            | some w => exact Ex.ret (by simp only [hb])
        · cases ha : app1 t e with
          | none => exact Ex.ret rfl
          | some u =>
            cases hb : appAll u L with
            | none => simp only [hb]; exact Ex.ret rfl
            | some w =>
              have hw := (appAll_VT (app1_VT h ha) hb).hi
              simp only [hb, view_all, List.nil_append]
              exact Ex.guard ⟨trivial, trivial, by simp; omega⟩ (Ex.ret rfl)
    · rw [decide_eq_false h24]
      exact Ex.yes (by rw [decide_eq_true (by omega)]; rfl) (Ex.ret rfl)
end Go.Proofs.Ythlfcfcfipahiaa
