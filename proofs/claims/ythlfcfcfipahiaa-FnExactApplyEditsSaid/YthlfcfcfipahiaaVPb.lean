/- Plain facts: the node with a path, as the program and the specification find it. Conditions: none. -/
import Derived.Test.YthlfcfcfipahiaaVPa
namespace Go.Proofs.Ythlfcfcfipahiaa
open Go
set_option linter.unusedVariables false

theorem specRes_ex {t : List Nod} (h : VT t) (s : Str) : Ex (fun n => spec_resolve n t s) (· = res t s) := by
  have hhi := h.hi
  unfold spec_resolve
  refine Ex.bind (P := fun v => (match v with | .inl i => i | .inr _ => -1) = res t s) ?_ ?_
  · rw [← res_first h s]
    refine upU t.length (fun k => firstAt (fun i => decide (ptx (np t i) = s)) ((List.range t.length).drop k) k = firstAt (fun i => decide (ptx (np t i) = s)) (List.range t.length) 0) ?_ ?_ 0 (Nat.zero_le _) (by simp)
    · intro k hk hi next
      simp only [spec_resolve_L1]
      rw [drop_at 0 (by simpa using hk), firstAt] at hi
      have e : (List.range t.length).getD k 0 = k := by rw [List.getD_eq_getElem?_getD, List.getElem?_range hk]; rfl
      rw [e] at hi
      refine Ex.yes (decide_eq_true (by omega)) (Ex.be (specPathText_ex h hk) (Ex.ite (fun hb => Ex.ret ?_) (fun hb => ?_)))
      · rw [if_pos hb] at hi; exact hi
      · rw [if_neg (by rw [hb]; simp)] at hi
        rw [w64_succ (by omega)]
        exact next hi
    · intro hi
      simp only [spec_resolve_L1]
      refine Ex.no (decide_eq_false (by omega)) (Ex.ret ?_)
      rw [List.drop_eq_nil_of_le (by simp), firstAt] at hi; exact hi
  · intro v hv
    rcases v with i | u
    · exact Ex.ret hv
    · exact Ex.ret hv

theorem idx_none {c : UInt8} : ∀ {s : Str}, c ∉ s → Lib.indexByte s c = -1
  | [], _ => rfl
  | x :: s, h => by
    simp only [List.mem_cons, not_or] at h
    rw [Lib.indexByte, if_neg (by simp; exact Ne.symm h.1), idx_none h.2, if_pos (by decide)]
theorem idx_at {c : UInt8} {b : Str} : ∀ {a : Str}, c ∉ a → Lib.indexByte (a ++ c :: b) c = a.length
  | [], _ => by rw [List.nil_append, Lib.indexByte, if_pos (by simp)]; rfl
  | x :: a, h => by
    simp only [List.mem_cons, not_or] at h
    rw [List.cons_append, Lib.indexByte, if_neg (by simp; exact Ne.symm h.1), idx_at h.2, if_neg (by simp <;> omega)]; simp

theorem index1 (s : Str) (c : UInt8) : stringslite_Index s [c] = some (Lib.indexByte s c) := by
  unfold stringslite_Index
  have e0 : decide ((([c] : Str).length : Int) = 0) = false := by simp
  have e1 : decide ((([c] : Str).length : Int) = 1) = true := by simp
  rw [e0, e1, Bool.false_or]
  by_cases h : ([c] : Str) = s
  · subst h
    rw [decide_eq_true rfl]
    show some (0 : Int) = some (Lib.indexByte [c] c)
    rw [Lib.indexByte, if_pos (by simp)]
  · rw [decide_eq_false h]
    simp only [iteO_false, iteO_true]
    rw [guardO_pos (by simp)]
    show some (stringslite_IndexByte s ((([c] : Str).getD (0 : Int).toNat 0).toNat : Int)) = _
    have : (([c] : Str).getD (0 : Int).toNat 0) = c := rfl
    rw [this, stringslite_IndexByte, Int.toNat_natCast, UInt8.ofNat_toNat]
theorem cut_none {c : UInt8} {s : Str} (h : c ∉ s) : strings_Cut s [c] = some (s, [], false) := by
  unfold strings_Cut stringslite_Cut
  rw [index1, idx_none h]; rfl
theorem cut_some {c : UInt8} {a b : Str} (h : c ∉ a) (hl : (a ++ c :: b).length ≤ 1000000000000) : strings_Cut (a ++ c :: b) [c] = some (a, b, true) := by
  unfold strings_Cut stringslite_Cut
  simp only [List.length_append, List.length_cons] at hl
  rw [index1, idx_at h]
  simp only [bindO_some]
  rw [decide_eq_true (by omega)]
  simp only [iteO_true]
  have e : w64 ((a.length : Int) + (([c] : Str).length : Int)) = ((a.length + 1 : Nat) : Int) := by
    rw [w64_id (by simp; omega) (by simp; omega)]; simp
  rw [e, guardO_pos (by simp; omega), guardO_pos (by simp; omega), Int.toNat_natCast, Int.toNat_natCast]
  show some _ = some _
  congr 2
  · simp
  · congr 1
    have : a ++ c :: b = (a ++ [c]) ++ b := by simp
    rw [this]
    exact List.drop_left' (by simp)

theorem implRes_ex {t : List Nod} {s : Str} (hs : s.length ≤ 1000000000000) : Ex (fun n => impl_ResolvePath n t s) (· = if validT t = true then res t s else -1) := by
  unfold impl_ResolvePath
  refine Ex.be (implTree_ex t) ?_
  cases hv : validT t with
  | false => exact Ex.yes rfl (Ex.ret rfl)
  | true =>
    have h := validT_iff.1 hv
    have hhi := h.hi
    rw [if_pos rfl]
    refine Ex.no rfl ?_
    have hc : strings_CutPrefix s [47] = some (match s with | [] => (s, false) | c :: r => if c = 47 then (r, true) else (s, false)) := by
      unfold strings_CutPrefix stringslite_CutPrefix stringslite_HasPrefix
      cases s with
      | nil => rfl
      | cons c r =>
        have e : decide ((([47] : Str).length : Int) ≤ (((c :: r : Str).length : Nat) : Int)) = true := decide_eq_true (by simp; omega)
        rw [e]
        simp only [iteO_true]
        rw [guardO_pos (by simp; omega)]
        by_cases hc : c = 47
        · subst hc
          have e9 : (1 : Int) ≤ (r.length : Int) + 1 := by omega
          simp [iteO_false, bindO, guardO, e9]
        · rw [if_neg hc]
          have : decide (((c :: r).take ((([47] : Str).length : Int).toNat)) = [47]) = false := decide_eq_false (by simp; exact hc)
          rw [this]; rfl
    rw [hc]
    cases s with
    | nil => exact Ex.bc rfl (Ex.yes rfl (Ex.ret res_nil.symm))
    | cons c r =>
      rw [res_desc h]
      by_cases hc : c = 47
      · rw [if_pos hc]
        simp only [hc, if_true]
        refine Ex.bc rfl (Ex.no rfl ?_)
        by_cases hr : r = []
        · rw [if_pos hr]; exact Ex.yes (decide_eq_true hr) (Ex.ret rfl)
        · rw [if_neg hr]
          refine Ex.no (decide_eq_false hr) ?_
          have key : ∀ (m : Nat) (r : Str) (a : Int), r.length ≤ m → m ≤ 1000000000000 → Ex (fun n => impl_ResolvePath_L1 t n r a true) (fun v => (match v with | .inl _ => -1 | .inr i => i) = desc t a (spl 47 r)) := by
            intro m
            induction m with
            | zero =>
              intro r a h1 h2
              have : r = [] := List.eq_nil_of_length_eq_zero (by omega)
              subst this
              refine Ex.succ ?_
              simp only [impl_ResolvePath_L1]
              refine Ex.yes rfl (Ex.bc (cut_none (by simp)) (Ex.be (implKid_ex (by omega) a []) ?_))
              rw [spl, desc]
              refine Ex.ite (fun hb => Ex.ret ?_) (fun hb => ?_)
              · rw [if_pos (of_decide_eq_true hb)]
              · rw [if_neg (of_decide_eq_false hb)]
                refine Ex.succ ?_
                simp only [impl_ResolvePath_L1]
                exact Ex.no rfl (Ex.ret rfl)
            | succ m ih =>
              intro r a h1 h2
              refine Ex.succ ?_
              simp only [impl_ResolvePath_L1]
              refine Ex.yes rfl ?_
              rcases cut_at 47 r with h3 | ⟨x, y, rfl, h3⟩
              · refine Ex.bc (cut_none h3) (Ex.be (implKid_ex (by omega) a r) ?_)
                rw [spl_none h3, desc]
                refine Ex.ite (fun hb => Ex.ret ?_) (fun hb => ?_)
                · rw [if_pos (of_decide_eq_true hb)]
                · rw [if_neg (of_decide_eq_false hb)]
                  refine Ex.succ ?_
                  simp only [impl_ResolvePath_L1]
                  exact Ex.no rfl (Ex.ret rfl)
              · refine Ex.bc (cut_some h3 (by omega)) (Ex.be (implKid_ex (by omega) a x) ?_)
                rw [spl_at h3, desc]
                refine Ex.ite (fun hb => Ex.ret ?_) (fun hb => ?_)
                · rw [if_pos (of_decide_eq_true hb)]
                · rw [if_neg (of_decide_eq_false hb)]
                  simp only [List.length_append, List.length_cons] at h1
                  exact ih y _ (by omega) (by omega)
          refine Ex.bind (key r.length r 0 (Nat.le_refl _) (by simp at hs; omega)) ?_
          intro v hv
          rcases v with u | i
          · exact Ex.ret hv
          · exact Ex.ret hv
      · rw [if_neg hc]
        simp only [if_neg hc]
        exact Ex.bc rfl (Ex.yes rfl (Ex.ret rfl))
end Go.Proofs.Ythlfcfcfipahiaa
