/- Plain facts: edits as the program makes them. Conditions: none. -/
import Derived.Test.YthlfcfcfipahiaaVP3a
namespace Go.Proofs.Ythlfcfcfipahiaa
open Go
set_option linter.unusedVariables false

theorem reaches_loop {t : List Nod} (h : VT t) (k : Nat) : ∀ j, j < t.length → Ex (fun n => impl_reaches_L1 t (k : Int) n (j : Int)) (fun r => decide (r = (k : Int)) = decide (k ∈ ix t j)) := by
  intro j
  induction j using Nat.strongRecOn with
  | ind j ih =>
    intro hj
    refine Ex.succ ?_
    simp only [impl_reaches_L1, Int.toNat_natCast]
    rcases Nat.lt_or_ge k j with hkj | hkj
    · have p := h.par j (by omega) hj
      have e : (t.getD j dnod).parent = (((pa t j).toNat : Nat) : Int) := by rw [Int.toNat_of_nonneg p.1]; rfl
      refine Ex.yes (decide_eq_true (by omega)) (Ex.guard (by omega) ?_)
      rw [e]
      refine Ex.mono (ih _ p.2 (by omega)) (fun r hr => ?_)
      rw [hr, ix_pos h (by omega) hj, Bool.eq_iff_iff, decide_eq_true_eq, decide_eq_true_eq, List.mem_append, List.mem_singleton]
      constructor
      · exact .inl
      · rintro (h1 | h1)
        · exact h1
        · omega
    · refine Ex.no (decide_eq_false (by omega)) (Ex.ret ?_)
      rw [Bool.eq_iff_iff, decide_eq_true_eq, decide_eq_true_eq]
      constructor
      · intro e
        have : j = k := by omega
        rw [this]; exact ix_self t k
      · intro e
        have := ix_le t j k e; omega
theorem implReaches_ex {t : List Nod} (h : VT t) (k : Nat) {j : Nat} (hj : j < t.length) : Ex (fun n => impl_reaches n t (k : Int) (j : Int)) (· = !kept t k j) := by
  unfold impl_reaches
  refine Ex.bind (reaches_loop h k j hj) (fun r hr => Ex.ret ?_)
  rw [hr, kept, Bool.not_not]

theorem implDropLoop_ex {t : List Nod} (h : VT t) {k : Nat} (hk0 : 0 < k) : Ex (fun n => impl_DropNode_L1 t (k : Int) n (List.replicate t.length (0 : Int)) [] 0) (· = dropT t k) := by
  have hhi := h.hi
  refine up t.length (fun i (s : List Int × List Nod) => s.2 = ((List.range i).filter (kept t k)).map (moved t k) ∧ s.1.length = t.length ∧ ∀ j, j < i → kept t k j = true → s.1.getD j 0 = (cnt t k j : Int)) (f := fun n s i => impl_DropNode_L1 t k n s.1 s.2 i) ?_ ?_ 0 (_, []) (Nat.zero_le _) ⟨rfl, by simp, fun j hj => by omega⟩
  · rintro i ⟨p, o⟩ hi ⟨h1, h2, h3⟩ next
    simp only at h1 h2 h3
    subst h1
    have hc := cnt_le t k i
    have hl := pre_len t k i
    simp only [impl_DropNode_L1, Int.toNat_natCast]
    refine Ex.yes (decide_eq_true (by omega)) ?_
    rw [w64_succ (by omega)]
    have er : (List.range (i + 1)).filter (kept t k) = (List.range i).filter (kept t k) ++ (if kept t k i = true then [i] else []) := by
      rw [List.range_succ, List.filter_append, List.filter_cons]; rfl
    cases hki : kept t k i with
    | false =>
      refine Ex.be (a := (p, ((List.range i).filter (kept t k)).map (moved t k))) (Ex.guard (by omega) (Ex.be (implReaches_ex h k hi) (Ex.yes (by rw [hki]; rfl) (Ex.ret rfl)))) ?_
      refine next (p, _) ⟨?_, h2, fun j hj hkj => ?_⟩
      · rw [er, hki]; simp
      · rcases Nat.eq_or_lt_of_le (Nat.le_of_lt_succ hj) with rfl | h6
        · rw [hki] at hkj; cases hkj
        · exact h3 j h6 hkj
    | true =>
      refine Ex.be (a := (p.set i (cnt t k i : Int), ((List.range i).filter (kept t k)).map (moved t k) ++ [moved t k i])) (Ex.guard (by omega) (Ex.be (implReaches_ex h k hi) (Ex.no (by rw [hki]; rfl) (Ex.guard (by omega) (Ex.be (a := (moved t k i).parent) ?_ (Ex.guard ⟨trivial, trivial, by rw [hl]; simp; omega⟩ (Ex.ret ?_))))))) ?_
      · refine Ex.ite (fun hb => ?_) (fun hb => ?_)
        · have h0 : 0 < i := by have := of_decide_eq_true hb; omega
          have q := h.par i h0 hi
          have q2 : 0 ≤ (t.getD i dnod).parent ∧ (t.getD i dnod).parent < ((p.set i ((((List.range i).filter (kept t k)).map (moved t k)).length : Int)).length : Int) := by
            rw [List.length_set]
            have := q.1; have := q.2; simp only [pa] at *; omega
          refine Ex.guard q2 (Ex.ret ?_)
          rw [moved, if_pos h0, getD_set' (by omega), if_neg (by have := q.2; simp only [pa] at this; omega)]
          exact h3 _ q.2 (kept_up h h0 hi hki)
        · have h0 : ¬ 0 < i := by have := of_decide_eq_false hb; omega
          refine Ex.ret ?_
          rw [moved, if_neg h0]; rfl
      · simp only [hl]; rfl
      · refine next (_, _) ⟨?_, by simpa using h2, fun j hj hkj => ?_⟩
        · rw [er, hki, if_pos rfl, List.map_append]; rfl
        · simp only
          rw [getD_set' (by omega)]
          split
          · rename_i e; rw [e]
          · exact h3 j (by omega) hkj
  · rintro ⟨o, p⟩ ⟨h1, _, _⟩
    simp only at h1
    subst h1
    simp only [impl_DropNode_L1]
    exact Ex.no (decide_eq_false (by omega)) (Ex.ret rfl)
theorem implDrop_ex {t : List Nod} (h : VT t) (s : Str) : Ex (fun n => impl_DropNode n t (res t s)) (· = pairO (dropP t s)) := by
  have hhi := h.hi
  unfold impl_DropNode
  refine Ex.be (implNode_ex (by omega) _) ?_
  rw [validT_iff.2 h, Bool.and_true, dropP, res]
  cases e : resO t s with
  | none => exact Ex.yes (by simp [oi]) (Ex.ret rfl)
  | some k =>
    have hk := ((resO_iff h).1 e).1
    have ho : oi (some k) = (k : Int) := rfl
    rw [decide_eq_true (p := 0 ≤ oi (some k) ∧ _) (by omega)]
    show Ex _ (· = pairO (if 0 < k then some (dropT t k) else none))
    by_cases h0 : 0 < k
    · rw [if_pos h0]
      refine Ex.no (by rw [decide_eq_false (by omega)]; rfl) (Ex.guard ⟨rfl, by omega, by omega⟩ ?_)
      rw [Int.toNat_natCast]
      exact Ex.be (implDropLoop_ex h h0) (Ex.ret rfl)
    · rw [if_neg h0]
      exact Ex.yes (by rw [decide_eq_true (by omega)]; rfl) (Ex.ret rfl)
theorem clone_nod {t : List Nod} (h : t.length ≤ 1000000000000) : slices_Clone_Node t = some t := by
  unfold slices_Clone_Node
  rw [guardO_pos (by omega)]
theorem implSet_ex {t : List Nod} (h : VT t) {k : Nat} (hk : k < t.length) (v : Int) : Ex (fun n => impl_SetValue n t (k : Int) v) (· = pairO (if rv v = true then some (setT t k v) else none)) := by
  have hhi := h.hi
  unfold impl_SetValue
  refine Ex.be (implNode_ex (by omega) _) ?_
  rw [validT_iff.2 h, decide_eq_true (by omega), show impl_within v (-1000) 1000 = rv v from rfl]
  refine Ex.ite (fun hb => Ex.ret ?_) (fun hb => ?_)
  · rw [if_neg (by rw [show rv v = false from notT hb]; simp)]; rfl
  · rw [if_pos (show rv v = true from notF hb)]
    exact Ex.bc (clone_nod (by omega)) (Ex.guard (by omega) (Ex.ret rfl))
theorem implAdd_ex {t : List Nod} (h : VT t) (x : Nod) : Ex (fun n => impl_AddNode n t x.parent x.name x.value) (· = addT t x) := by
  have hhi := h.hi
  unfold impl_AddNode
  refine Ex.be (implTree_ex t) ?_
  rw [validT_iff.2 h, addT_fits h]
  refine Ex.no rfl (Ex.bc (clone_nod (by omega)) (Ex.guard ⟨rfl, rfl, by simp; omega⟩ ?_))
  rw [show (([(⟨x.parent, x.name, x.value⟩ : Nod)].drop 0).take [(⟨x.parent, x.name, x.value⟩ : Nod)].length) = [x] from rfl]
  refine Ex.be (implTree_ex _) (Ex.ite (fun hb => Ex.ret ?_) (fun hb => Ex.ret ?_))
  · rw [if_neg (by rw [notT hb]; simp)]
  · rw [if_pos (notF hb)]

theorem lastIdx_some {a b : Str} (hb : (47 : UInt8) ∉ b) (hl : (a ++ 47 :: b).length ≤ 1000000000000) : Ex (fun n => strings_LastIndexByte n (a ++ 47 :: b) 47) (· = (a.length : Int)) := by
  have hlen : (a ++ 47 :: b).length = a.length + 1 + b.length := by simp; omega
  have hat : ∀ j, j < b.length → (a ++ 47 :: b).getD (a.length + 1 + j) 0 ≠ 47 := by
    intro j hj e
    rw [show a.length + 1 + j = a.length + (1 + j) by omega, getD_app, show 1 + j = j + 1 by omega, List.getD_cons_succ] at e
    exact hb (e ▸ getD_mem hj)
  have h0 : (a ++ 47 :: b).getD a.length 0 = 47 := by
    have := getD_app (a := a) (b := 47 :: b) (d := (0 : UInt8)) 0
    rw [Nat.add_zero] at this; rw [this]; rfl
  have key : ∀ m, m ≤ b.length → Ex (fun n => bytealg_LastIndexByteString_L1 (a ++ 47 :: b) 47 n ((a.length + m : Nat) : Int)) (· = .inl (a.length : Int)) := by
    intro m
    induction m with
    | zero =>
      intro _
      rw [Nat.add_zero]
      refine Ex.succ ?_
      simp only [bytealg_LastIndexByteString_L1, Int.toNat_natCast]
      exact Ex.yes (decide_eq_true (by omega)) (Ex.guard (by omega) (Ex.yes (decide_eq_true (by rw [h0]; rfl)) (Ex.ret rfl)))
    | succ m ih =>
      intro hm
      refine Ex.succ ?_
      simp only [bytealg_LastIndexByteString_L1, Int.toNat_natCast]
      have h1 := hat m (by omega)
      rw [show a.length + 1 + m = a.length + (m + 1) by omega] at h1
      refine Ex.yes (decide_eq_true (by omega)) (Ex.guard (by omega) (Ex.no (decide_eq_false (fun e => h1 ?_)) ?_))
      · apply UInt8.toNat_inj.1
        rw [show (47 : UInt8).toNat = 47 from rfl]
        omega
      · have e : w64 (((a.length + (m + 1) : Nat) : Int) - 1) = ((a.length + m : Nat) : Int) := by rw [w64_id (by omega) (by omega)]; omega
        rw [e]
        exact ih (by omega)
  unfold strings_LastIndexByte bytealg_LastIndexByteString
  have e : w64 (((a ++ 47 :: b).length : Int) - 1) = ((a.length + b.length : Nat) : Int) := by rw [w64_id (by omega) (by omega)]; omega
  rw [e]
  exact Ex.be (Ex.be (key b.length (Nat.le_refl _)) (Ex.ret rfl)) (Ex.ret rfl)
theorem lastIdx_none {s : Str} (h : (47 : UInt8) ∉ s) (hl : s.length ≤ 1000000000000) : Ex (fun n => strings_LastIndexByte n s 47) (· = -1) := by
  have key : ∀ m : Nat, m ≤ s.length → Ex (fun n => bytealg_LastIndexByteString_L1 s 47 n ((m : Int) - 1)) (· = .inr ()) := by
    intro m
    induction m with
    | zero => intro _; refine Ex.succ ?_; simp only [bytealg_LastIndexByteString_L1]; exact Ex.no (by decide) (Ex.ret rfl)
    | succ m ih =>
      intro hm
      rw [show ((m + 1 : Nat) : Int) - 1 = (m : Int) by omega]
      refine Ex.succ ?_
      simp only [bytealg_LastIndexByteString_L1, Int.toNat_natCast]
      have h1 : s.getD m 0 ≠ 47 := fun e => h (e ▸ getD_mem hm)
      refine Ex.yes (decide_eq_true (by omega)) (Ex.guard (by omega) (Ex.no (decide_eq_false (fun e => h1 ?_)) ?_))
      · apply UInt8.toNat_inj.1
        rw [show (47 : UInt8).toNat = 47 from rfl]
        omega
      · rw [w64_id (by omega) (by omega)]
        exact ih (by omega)
  unfold strings_LastIndexByte bytealg_LastIndexByteString
  rw [w64_id (by omega) (by omega)]
  exact Ex.be (Ex.be (key s.length (Nat.le_refl _)) (Ex.ret rfl)) (Ex.ret rfl)

/-- the further node has the path -/
theorem last_path {t : List Nod} {x : Nod} (h : VT t) (h' : VT (t ++ [x])) {s : Str} (hn : resO t s = none) : 0 ≤ res (t ++ [x]) s ↔ pathT (t ++ [x]) (t.length : Int) = s := by
  have f := (fits_iff h).1 h'
  rw [pathT_of h' (by simp)]
  rw [res]
  cases e : resO (t ++ [x]) s with
  | none =>
    simp only [oi]
    constructor
    · intro h1; omega
    · intro e2; exact absurd e2 ((resO_none h').1 e t.length (by simp))
  | some k =>
    obtain ⟨k1, k2⟩ := (resO_iff h').1 e
    have hk : k = t.length := by
      rcases Nat.lt_or_ge k t.length with h3 | h3
      · rw [app_np h3] at k2
        rw [(resO_iff h).2 ⟨h3, k2⟩] at hn; cases hn
      · simp at k1; omega
    subst hk
    simp only [oi]
    exact ⟨fun _ => k2, fun _ => by omega⟩

theorem implAddPath_ex {t : List Nod} (h : VT t) {s : Str} (hs : s.length ≤ 1000000000000) (hn : resO t s = none) (v : Int) : Ex (fun n => impl_addPath n t s v) (· = pairO (addP t s v)) := by
  have hhi := h.hi
  unfold impl_addPath
  have fin : ∀ (x : Nod), Ex (fun n => bindO (impl_AddNode n t x.parent x.name x.value) fun (x31, i32, b33) => bindO (iteO (!b33) (some true) (bindO (impl_PathText n x31 i32) fun s41 => some (!decide (s41 = s)))) fun b38 => iteO b38 (some (([] : List Nod), false)) (some (x31, true))) (· = pairO (if validT (t ++ [x]) = true ∧ 0 ≤ res (t ++ [x]) s then some (t ++ [x]) else none)) := by
    intro x
    refine Ex.be (implAdd_ex h x) ?_
    rw [addT_fits h]
    by_cases hv : validT (t ++ [x]) = true
    · rw [if_pos hv]
      have h' := validT_iff.1 hv
      refine Ex.be (a := !decide (pathT (t ++ [x]) (t.length : Int) = s)) (Ex.no rfl (Ex.be (implPathText_ex (by have := h'.hi; omega) _) (Ex.ret rfl))) ?_
      refine Ex.ite (fun hb => Ex.ret ?_) (fun hb => Ex.ret ?_)
      · rw [if_neg (fun h2 => by have := (last_path h h' hn).1 h2.2; rw [decide_eq_true this] at hb; cases hb)]; rfl
      · rw [if_pos ⟨hv, (last_path h h' hn).2 (by simpa using hb)⟩]; rfl
    · rw [if_neg hv, if_neg (fun h => hv h.1)]
      exact Ex.be (a := true) (Ex.yes rfl (Ex.ret rfl)) (Ex.yes rfl (Ex.ret rfl))
  rcases last_at 47 s with h1 | ⟨a, b, rfl, h2⟩
  · have e1 : addP t s v = none := by rw [addP, pth_nohead h1]
    rw [e1]
    have hu : Ex (fun n => impl_upperNode n t s) (· = -1) := by
      unfold impl_upperNode
      exact Ex.be (lastIdx_none h1 hs) (Ex.yes (by decide) (Ex.ret rfl))
    refine Ex.be hu (Ex.be (lastIdx_none h1 hs) ?_)
    have e2 : w64 (-1 + 1) = 0 := by decide
    rw [e2]
    refine Ex.guard (by omega) ?_
    refine Ex.mono (fin ⟨-1, s.drop (0 : Int).toNat, v⟩) (fun r hr => ?_)
    rw [hr, if_neg]
    rintro ⟨h3, _⟩
    have := ((fits_iff h).1 (validT_iff.1 h3)).p0
    simp at this
  · have hu : Ex (fun n => impl_upperNode n t (a ++ 47 :: b)) (· = if a = [] then 0 else res t a) := by
      unfold impl_upperNode
      refine Ex.be (lastIdx_some h2 hs) (Ex.no (decide_eq_false (by omega)) ?_)
      by_cases ha : a = []
      · rw [if_pos ha]; exact Ex.yes (by rw [ha]; rfl) (Ex.ret rfl)
      · rw [if_neg ha]
        have : 0 < a.length := List.length_pos_iff.2 ha
        simp only [List.length_append, List.length_cons] at hs
        refine Ex.no (decide_eq_false (by omega)) (Ex.guard (by simp; omega) ?_)
        rw [Int.toNat_natCast, List.take_left' rfl]
        have e := implRes_ex (t := t) (s := a) (by omega)
        rw [if_pos (validT_iff.2 h)] at e
        exact Ex.be e (Ex.ret rfl)
    refine Ex.be hu (Ex.be (lastIdx_some h2 hs) ?_)
    have hlen : (a ++ 47 :: b).length = a.length + 1 + b.length := by simp; omega
    rw [w64_succ (by omega)]
    refine Ex.guard (by omega) ?_
    have ed : (a ++ 47 :: b).drop ((a.length + 1 : Nat) : Int).toNat = b := by
      rw [Int.toNat_natCast]
      have e : a ++ 47 :: b = (a ++ [47]) ++ b := by simp
      rw [e]; exact List.drop_left' (by simp)
    rw [ed, addP_up h h2 hn]
    exact fin ⟨if a = [] then 0 else res t a, b, v⟩

theorem implApply_ex {t : List Nod} (h : VT t) {e : Edt} (hp : e.path.length ≤ 1000000000000) : Ex (fun n => impl_applyEdit n t e) (· = pairO (app1 t e)) := by
  have hhi := h.hi
  unfold impl_applyEdit
  have er := implRes_ex (t := t) (s := e.path) hp
  rw [if_pos (validT_iff.2 h)] at er
  refine Ex.be er ?_
  rw [app1]
  by_cases hk1 : e.kind = 1
  · rw [if_pos hk1]
    refine Ex.yes (decide_eq_true hk1) ?_
    by_cases hv : e.value = 0
    · rw [if_pos hv]
      exact Ex.no (by rw [decide_eq_true hv]; rfl) (Ex.be (implDrop_ex h e.path) (Ex.ret rfl))
    · rw [if_neg hv]
      exact Ex.yes (by rw [decide_eq_false hv]; rfl) (Ex.ret rfl)
  · rw [if_neg hk1]
    refine Ex.no (decide_eq_false hk1) ?_
    by_cases hk0 : e.kind = 0
    · rw [if_pos hk0]
      refine Ex.yes (decide_eq_true hk0) ?_
      cases hr : resO t e.path with
      | some k =>
        have hk := ((resO_iff h).1 hr).1
        rw [res, hr]
        simp only [oi]
        exact Ex.yes (decide_eq_true (by omega)) (Ex.be (implSet_ex h hk e.value) (Ex.ret rfl))
      | none =>
        rw [res, hr]
        simp only [oi]
        exact Ex.no (by decide) (Ex.be (implAddPath_ex h hp hr e.value) (Ex.ret rfl))
    · rw [if_neg hk0]
      exact Ex.no (decide_eq_false hk0) (Ex.ret rfl)

theorem implApplyAll_ex {t : List Nod} {l : List Edt} (hp : ∀ e ∈ l, e.path.length ≤ 1000000000000) : Ex (fun n => impl_ApplyEdits n t l) (· = applyR t l) := by
  unfold impl_ApplyEdits
  refine Ex.be (implTree_ex t) ?_
  rw [applyR]
  cases hv : validT t with
  | false => exact Ex.yes rfl (Ex.ret rfl)
  | true =>
    have h := validT_iff.1 hv
    have hhi := h.hi
    by_cases h24 : l.length ≤ 24
    · rw [decide_eq_true h24]
      refine Ex.no (by rw [decide_eq_false (by omega)]; rfl) ?_
      rw [if_pos (show (true && true) = true from rfl)]
      have loop : ∀ (L : List Edt) (k : Nat) (u : List Nod), VT u → l.drop k = L → k ≤ l.length → Ex (fun n => impl_ApplyEdits_L1 l t n u (k : Int)) (· = match appAll u L with
          | some w => .inr w
          | none => .inl ()) := by
        intro L
        induction L with
        | nil =>
          intro k u hu h1 h2
          have h3 := List.drop_eq_nil_iff.1 h1
          refine Ex.succ ?_
          simp only [impl_ApplyEdits_L1]
          exact Ex.no (decide_eq_false (by omega)) (Ex.ret rfl)
        | cons e L ih =>
          intro k u hu h1 h2
          have hk : k < l.length := by
            rcases Nat.lt_or_ge k l.length with h3 | h3
            · exact h3
            · rw [List.drop_eq_nil_of_le h3] at h1; cases h1
          rw [drop_at dedt hk, List.cons.injEq] at h1
          refine Ex.succ ?_
          simp only [impl_ApplyEdits_L1, Int.toNat_natCast, h1.1]
          refine Ex.yes (decide_eq_true (by omega)) (Ex.guard (by omega) (Ex.be (implApply_ex hu (hp e (by rw [← h1.1]; exact getD_mem hk))) ?_))
          rw [appAll]
          cases ha : app1 u e with
          | none => exact Ex.yes rfl (Ex.ret rfl)
          | some w =>
            refine Ex.no rfl ?_
            rw [w64_succ (by omega)]
            exact ih (k + 1) w (app1_VT hu ha) h1.2 (by omega)
      refine Ex.bc (clone_nod (by omega)) (Ex.be (loop l 0 t h rfl (Nat.zero_le _)) ?_)
      cases ha : appAll t l with
      | none => exact Ex.ret rfl
      | some u => exact Ex.ret rfl
    · rw [decide_eq_false h24]
      exact Ex.yes (by rw [decide_eq_true (by omega)]; rfl) (Ex.ret rfl)
end Go.Proofs.Ythlfcfcfipahiaa
