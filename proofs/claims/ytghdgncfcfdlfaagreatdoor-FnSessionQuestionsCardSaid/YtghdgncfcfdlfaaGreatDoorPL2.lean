/- Plain facts for the law FnSessionQuestions. Conditions: none. -/
import Derived.Test.YtghdgncfcfdlfaaGreatDoorPL1
namespace Go.Proofs.YtghdgncfcfdlfaaGreatDoor
section
open Go
set_option linter.unusedVariables false
theorem spl_one {s a : Str} (h : spl 32 s = [a]) : s = a := by
 rcases cut_at 32 s with h1 | ⟨x, y, rfl, h1⟩
 ·rw [spl_none h1] at h
  exact (List.cons.inj h).1
 ·rw [spl_at h1] at h
  exact absurd (List.cons.inj h).2 (spl_ne 32 y)
theorem isC_one {w : List Str} {c : Str} (h : isC w c 1 = true) : w = [c] := by
 have hl := isC_len h
 simp only [isC, Bool.and_eq_true, decide_eq_true_eq] at h
 match w, hl, h with
 | [a], _, h => simp at h; rw [h]
theorem specLine_ex {t : List Nod} (h : VT t) {l : List Lck} (hv : validB l = true) {s : Str} (hs : s.length ≤ 100000000) :
  Ex (fun n => spec_desk_line n t t.length l l.length s) (· = out5 (stepM t l s)) := by
 have hsl := spl_lens 32 s
 have hne := spl_ne 32 s
 have h48 := (validB_iff.1 hv).1
 unfold spec_desk_line stepM
 refine Ex.be (specSplit_ex (by omega) 32 rfl) ?_
 have htree : ∀ c : Str, spl 32 c = [c] → (isC (spl 32 s) c 1 = true ↔ s = c) := by
  intro c hc
  constructor
  ·intro e
   exact spl_one (isC_one e)
  ·rintro rfl
   rw [hc]; simp [isC]
 have ht1 := htree [116, 114, 101, 101] (by decide)
 have ht2 := htree [108, 111, 99, 107, 115] (by decide)
 generalize spl 32 s = w at *
 have hpos : 0 < w.length := List.length_pos_iff.2 hne
 have g : ∀ k, (w.getD k []).length ≤ 1000000000 := word_le (fun p hp => by have := hsl.2 p hp; omega)
 refine Ex.guard (by omega) (Ex.ite (fun h4 => ?_) (fun h4 => ?_))
 ·rw [isC_eq w _ 4 (i := 4) rfl] at h4
  have := isC_len h4
  rw [show stepW t l w = ((setM t l (w.getD 1 []) (w.getD 2 []) (w.getD 3 [])).1, l, (setM t l (w.getD 1 []) (w.getD 2 []) (w.getD 3 [])).2) by
   rw [stepW, isC_ne h4 (by decide), if_neg (by simp), isC_ne h4 (by decide), if_neg (by simp), isC_ne h4 (by decide), if_neg (by simp), if_pos h4]]
  exact Ex.guard (by omega) (Ex.guard (by omega) (Ex.guard (by omega) (Ex.be (specSetS_ex h hv (g 2)) (Ex.ret rfl))))
 rw [isC_eq w _ 4 (i := 4) rfl] at h4
 refine Ex.guard (by omega) (Ex.ite (fun h3 => ?_) (fun h3 => ?_))
 ·rw [isC_eq w _ 3 (i := 3) rfl] at h3
  have := isC_len h3
  rw [show stepW t l w = (t, l, getM t l (w.getD 1 []) (w.getD 2 [])) by rw [stepW, isC_ne h3 (by decide), if_neg (by simp), isC_ne h3 (by decide), if_neg (by simp), if_pos h3]]
  exact Ex.guard (by omega) (Ex.guard (by omega) (Ex.be (specGet_ex h hv _ _) (Ex.ret rfl)))
 rw [isC_eq w _ 3 (i := 3) rfl] at h3
 refine Ex.guard (by omega) (Ex.ite (fun h1 => ?_) (fun h1 => ?_))
 ·rw [isC_eq w _ 3 (i := 3) rfl] at h1
  have := isC_len h1
  rw [show stepW t l w = (t, lockM t l (w.getD 1 []) (w.getD 2 []) 3) by rw [stepW, if_pos h1]]
  exact Ex.guard (by omega) (Ex.guard (by omega) (Ex.be (specLock_ex h hv _ _ (.inl rfl)) (Ex.ret rfl)))
 rw [isC_eq w _ 3 (i := 3) rfl] at h1
 refine Ex.guard (by omega) (Ex.ite (fun h2 => ?_) (fun h2 => ?_))
 ·rw [isC_eq w _ 3 (i := 3) rfl] at h2
  have := isC_len h2
  rw [show stepW t l w = (t, lockM t l (w.getD 1 []) (w.getD 2 []) 5) by rw [stepW, h1, if_neg (by simp), if_pos h2]]
  exact Ex.guard (by omega) (Ex.guard (by omega) (Ex.be (specLock_ex h hv _ _ (.inr rfl)) (Ex.ret rfl)))
 rw [isC_eq w _ 3 (i := 3) rfl] at h2
 refine Ex.guard (by omega) (Ex.ite (fun h5 => ?_) (fun h5 => ?_))
 ·rw [isC_eq w _ 2 (i := 2) rfl] at h5
  have := isC_len h5
  rw [show stepW t l w = (t, freeM l (w.getD 1 [])) by rw [stepW, h1, if_neg (by simp), h2, if_neg (by simp), h3, if_neg (by simp), h4, if_neg (by simp), if_pos h5]]
  exact Ex.guard (by omega) (Ex.be (specFreeS_ex hv _) (Ex.ret rfl))
 rw [isC_eq w _ 2 (i := 2) rfl] at h5
 refine Ex.ite (fun h6 => ?_) (fun h6 => ?_)
 ·rw [show stepW t l w = (t, l, fmtR t) by rw [stepW, h1, if_neg (by simp), h2, if_neg (by simp), h3, if_neg (by simp), h4, if_neg (by simp), h5, if_neg (by simp), if_pos (ht1.2 (of_decide_eq_true h6))], view_all]
  exact Ex.be (specFmt_ex h) (Ex.ret (by rw [fmtR, if_pos (validT_iff.2 h)]; rfl))
 refine Ex.ite (fun h7 => ?_) (fun h7 => ?_)
 ·rw [show stepW t l w = (t, l, fmtLR l) by rw [stepW, h1, if_neg (by simp), h2, if_neg (by simp), h3, if_neg (by simp), h4, if_neg (by simp), h5, if_neg (by simp), if_neg (fun e => of_decide_eq_false h6 (ht1.1 e)), if_pos (ht2.2 (of_decide_eq_true h7))], view_all]
  exact Ex.be (specLocks_ex (by omega)) (Ex.ret rfl)
 refine Ex.ret ?_
 rw [stepW, h1, if_neg (by simp), h2, if_neg (by simp), h3, if_neg (by simp), h4, if_neg (by simp), h5, if_neg (by simp), if_neg (fun e => of_decide_eq_false h6 (ht1.1 e)), if_neg (fun e => of_decide_eq_false h7 (ht2.1 e))]
 rfl
/-- what a line leaves -/
def OKs (r : List Nod × List Lck × Str) : Prop := VT r.1 ∧ validB r.2.1 = true ∧ r.2.2.length ≤ 1000
theorem fmtR_len' (t : List Nod) : (fmtR t).length ≤ 400 := by
 unfold fmtR
 split
 ·rename_i hv
  have h := validT_iff.1 hv
  have := sep_len h (Nat.le_refl _)
  have := h.hi
  rw [fmtT]; omega
 ·simp
theorem fmtLR_len (l : List Lck) : (fmtLR l).length ≤ 1000 := by
 unfold fmtLR
 split
 ·rename_i hv
  obtain ⟨h1, h2⟩ := validB_iff.1 hv
  have := sepL_len h2 (Nat.le_refl _)
  rw [fmtL]; omega
 ·simp
theorem stepM_ok {t : List Nod} (h : VT t) {l : List Lck} (hv : validB l = true) (s : Str) : OKs (stepM t l s) := by
 unfold stepM
 generalize spl 32 s = w
 have hlock : ∀ a p m, OKs (t, lockM t l a p m) := by
  intro a p m
  refine ⟨h, ?_, ?_⟩
  ·simp only [lockM]
   split
   ·split
    ·rename_i e; exact takeA_valid hv e
    ·exact hv
   ·exact hv
  ·simp only [lockM]
   split
   ·split
    ·simp [okS]
    ·simp [noS]
   ·simp [noS]
 unfold stepW
 split
 ·exact hlock _ _ _
 split
 ·exact hlock _ _ _
 split
 ·refine ⟨h, hv, ?_⟩
  simp only [getM]
  split
  ·split
   ·rename_i k _ e _
    have := h.val k (resO_lt h e)
    have := itoa_len this.1 this.2
    omega
   ·simp [noS]
  ·simp [noS]
 split
 ·simp only [setM]
  split
  ·split
   ·rename_i hc
    exact ⟨(applyR_VT hc.2.2.2.2).1, hv, by simp [okS]⟩
   ·exact ⟨h, hv, by simp [noS]⟩
  ·exact ⟨h, hv, by simp [noS]⟩
 split
 ·refine ⟨h, ?_, ?_⟩
  ·simp only [freeM]
   split
   ·exact free_valid hv _
   ·exact hv
  ·simp only [freeM]
   split
   ·simp [okS]
   ·simp [noS]
 split
 ·exact ⟨h, hv, by have := fmtR_len' t; simp only; omega⟩
 split
 ·exact ⟨h, hv, fmtLR_len l⟩
 ·exact ⟨h, hv, by simp⟩
theorem specRun_loop {x1 : List Str} (hx : ∀ p ∈ x1, p.length ≤ 100000000) : ∀ (m k : Nat) (t : List Nod) (l : List Lck) (s : Str), VT t → validB l = true → k + m = min 20 x1.length → s.length ≤ 2000 * k →
  Ex (fun n => spec_RunSession_L1 x1 n t.length l.length t l s (k : Int)) (· = s ++ runM t l ((x1.take 20).drop k))
 | 0, k, t, l, s, h, hv, hk, hs => by
  refine Ex.succ ?_
  simp only [spec_RunSession_L1]
  rw [List.drop_of_length_le (by simp; omega)]
  refine Ex.no ?_ (Ex.ret (by simp [runM]))
  by_cases h1 : k < x1.length
  ·rw [decide_eq_false (p := (k : Int) < 20) (by omega), Bool.and_false]
  ·rw [decide_eq_false (p := (k : Int) < ((x1.length : Nat) : Int)) (by omega), Bool.false_and]
 | m + 1, k, t, l, s, h, hv, hk, hs => by
  have hkl : k < x1.length := by omega
  have h20 : k < 20 := by omega
  refine Ex.succ ?_
  simp only [spec_RunSession_L1, Int.toNat_natCast]
  have hd : (x1.take 20).drop k = x1.getD k [] :: (x1.take 20).drop (k + 1) := by
   rw [drop_at [] (by simp; omega), List.getD_eq_getElem?_getD, List.getElem?_take, if_pos h20, ← List.getD_eq_getElem?_getD]
  have hl := hx _ (getD_mem (d := []) hkl)
  rw [hd, runM]
  have hok := stepM_ok h hv (x1.getD k [])
  refine Ex.yes (by rw [decide_eq_true (by omega), decide_eq_true (by omega)]; rfl) (Ex.guard (by omega) (Ex.be (specLine_ex h hv hl) ?_))
  obtain ⟨o1, o2, o3⟩ := hok
  generalize stepM t l (x1.getD k []) = r at o1 o2 o3
  obtain ⟨t', l', out⟩ := r
  simp only [out5] at o1 o2 o3 ⊢
  refine Ex.guard (by omega) (Ex.guard (by simp; omega) ?_)
  rw [w64_succ (by omega)]
  refine Ex.mono (specRun_loop hx m (k + 1) t' l' _ o1 o2 (by omega) (by simp; omega)) (fun r hr => ?_)
  rw [hr]; simp
theorem root_VT : VT [⟨-1, [], 0⟩] := by
 apply validT_iff.1
 decide +kernel
theorem specRun_ex {x1 : List Str} (hx : ∀ p ∈ x1, p.length ≤ 100000000) : Ex (fun n => spec_RunSession n x1) (· = sesM x1) := by
 unfold spec_RunSession
 refine Ex.bind (specRun_loop hx (min 20 x1.length) 0 [⟨-1, [], 0⟩] [] [] root_VT rfl (by omega) (by simp)) (fun r hr => Ex.ret ?_)
 rw [hr]; rfl
theorem implRun_loop {x1 : List Str} (hx : ∀ p ∈ x1, p.length ≤ 100000000) : ∀ (m k : Nat) (t : List Nod) (l : List Lck) (s : Str), VT t → validB l = true → k + m = min 20 x1.length → s.length ≤ 2000 * k →
  Ex (fun n => impl_RunSession_L1 x1 n t.length l.length t l (ib s) (k : Int)) (· = ib (s ++ runM t l ((x1.take 20).drop k))) := by
 have em : (if 20 < ((x1.length : Nat) : Int) then (20 : Int) else ((x1.length : Nat) : Int)) = ((min 20 x1.length : Nat) : Int) := by split <;> omega
 intro m
 induction m with
 | zero =>
  intro k t l s h hv hk hs
  refine Ex.succ ?_
  simp only [impl_RunSession_L1, em, Int.toNat_natCast]
  rw [List.drop_of_length_le (by simp; omega)]
  exact Ex.no (decide_eq_false (by omega)) (Ex.ret (by simp [runM]))
 | succ m ih =>
  intro k t l s h hv hk hs
  have hkl : k < x1.length := by omega
  have h20 : k < 20 := by omega
  refine Ex.succ ?_
  simp only [impl_RunSession_L1, em, Int.toNat_natCast]
  have hd : (x1.take 20).drop k = x1.getD k [] :: (x1.take 20).drop (k + 1) := by
   rw [drop_at [] (by simp; omega), List.getD_eq_getElem?_getD, List.getElem?_take, if_pos h20, ← List.getD_eq_getElem?_getD]
  have hl := hx _ (getD_mem (d := []) hkl)
  have hsl := spl_lens 32 (x1.getD k [])
  rw [hd, runM]
  have hok := stepM_ok h hv (x1.getD k [])
  refine Ex.yes (decide_eq_true (by omega)) (Ex.guard (by omega) (Ex.bc (split_ex (by omega)) (Ex.be (implExec_ex h hv (spl_ne 32 _) (fun p hp => by have := hsl.2 p hp; omega)) ?_)))
  rw [show stepW t l (spl 32 (x1.getD k [])) = stepM t l (x1.getD k []) from rfl]
  obtain ⟨o1, o2, o3⟩ := hok
  generalize stepM t l (x1.getD k []) = r at o1 o2 o3
  obtain ⟨t', l', out⟩ := r
  simp only [out5] at o1 o2 o3 ⊢
  refine Ex.bc (wStr (by omega)) (Ex.bc (wByte (by simp; omega) 10 rfl) ?_)
  rw [w64_succ (by omega)]
  refine Ex.mono (ih (k + 1) t' l' _ o1 o2 (by omega) (by simp; omega)) (fun r hr => ?_)
  rw [hr]; simp
theorem implRun_ex {x1 : List Str} (hx : ∀ p ∈ x1, p.length ≤ 100000000) : Ex (fun n => impl_RunSession n x1) (· = sesM x1) := by
 have em : (if 20 < ((x1.length : Nat) : Int) then (20 : Int) else ((x1.length : Nat) : Int)) = ((min 20 x1.length : Nat) : Int) := by split <;> omega
 unfold impl_RunSession
 simp only [em, Int.toNat_natCast]
 refine Ex.guard (by omega) (Ex.be (a := ib (sesM x1)) ?_ (Ex.bc (bStr _) (Ex.ret rfl)))
 refine Ex.ite (fun hb => ?_) (fun hb => Ex.ret ?_)
 ·have hb := of_decide_eq_true hb
  have hkl : 0 < x1.length := by omega
  have hd : x1.take 20 = x1.getD 0 [] :: (x1.take 20).drop 1 := by
   have := drop_at (xs := x1.take 20) (k := 0) ([] : Str) (by simp; omega)
   rw [List.drop_zero] at this
   have e : (x1.take 20).getD 0 [] = x1.getD 0 [] := by rw [List.getD_eq_getElem?_getD, List.getElem?_take, if_pos (by omega), ← List.getD_eq_getElem?_getD]
   rw [e] at this
   exact this
  have hl := hx _ (getD_mem (d := []) hkl)
  have hsl := spl_lens 32 (x1.getD 0 [])
  have hok := stepM_ok root_VT (l := []) rfl (x1.getD 0 [])
  have hes : sesM x1 = (stepM [⟨-1, [], 0⟩] [] (x1.getD 0 [])).2.2 ++ 10 :: runM (stepM [⟨-1, [], 0⟩] [] (x1.getD 0 [])).1 (stepM [⟨-1, [], 0⟩] [] (x1.getD 0 [])).2.1 ((x1.take 20).drop 1) := by
   rw [sesM, hd, runM]; rfl
  refine Ex.guard (by omega) (Ex.bc (split_ex (by omega)) (Ex.be (implExec_ex root_VT (l := []) rfl (spl_ne 32 _) (fun p hp => by have := hsl.2 p hp; omega)) ?_))
  rw [show stepW [⟨-1, [], 0⟩] [] (spl 32 (x1.getD 0 [])) = stepM [⟨-1, [], 0⟩] [] (x1.getD 0 []) from rfl, hes]
  obtain ⟨o1, o2, o3⟩ := hok
  generalize stepM [⟨-1, [], 0⟩] [] (x1.getD 0 []) = r at o1 o2 o3
  obtain ⟨t', l', out⟩ := r
  simp only [out5] at o1 o2 o3 ⊢
  refine Ex.bc (wStr (s := []) (by simp; omega)) (Ex.bc (wByte (by simp; omega) 10 rfl) ?_)
  rw [show w64 (0 + 1) = ((1 : Nat) : Int) from by decide]
  refine Ex.bind (implRun_loop hx (min 20 x1.length - 1) 1 t' l' _ o1 o2 (by omega) (by simp; omega)) (fun r hr => Ex.ret ?_)
  rw [hr]; simp
 ·have hb := of_decide_eq_false hb
  have : x1 = [] := List.eq_nil_of_length_eq_zero (by omega)
  subst this; rfl
end
section
open Go
set_option linter.unusedVariables false
theorem mutate_ex {x1 : List Int} {k2 : Nat} (h : Rd x1 k2) {i : Int} (h0 : 0 ≤ i) (h1 : i ≤ 900000000) {s : Str} (hs : s.length ≤ 100000) :
  Ex (fun _ => spec_mutate x1 k2 i s) (fun r => i ≤ r.1 ∧ r.1 ≤ i + 3 ∧ r.2.length ≤ s.length + 2) := by
 unfold spec_mutate
 rw [w64_id (n := ((s.length : Nat) : Int) + 1) (by omega) (by omega), w64_id (n := i + 1) (by omega) (by omega), w64_id (n := i + 1 + 1) (by omega) (by omega)]
 refine Ex.bind (pick_ex h h0 (by omega) (by omega) (by omega)) (fun a ha => ?_)
 refine Ex.bind (pick_ex h (by omega) (by omega) (by omega) (by omega)) (fun b hb => ?_)
 rw [w64_id (n := a + 1) (by omega) (by omega)]
 refine Ex.bind (P := fun v => match v with | .inl r => i ≤ r.1 ∧ r.1 ≤ i + 3 ∧ r.2.length ≤ s.length + 2 | .inr _ => True) ?_ ?_
 ·refine Ex.ite (fun _ => ?_) (fun _ => ?_)
  ·refine Ex.ite (fun hlt => ?_) (fun _ => Ex.ret trivial)
   have hlt := of_decide_eq_true hlt
   refine Ex.guard (by omega) (Ex.bind (of_ex h (by omega) (by omega) (by simp) (by simp)) ?_)
   rintro ⟨j, c⟩ ⟨e1, e2⟩
   simp only at e1 e2 ⊢
   have hc : c.length = 1 := by
    simp only [List.mem_cons, List.not_mem_nil, or_false] at e2
    rcases e2 with rfl | rfl | rfl | rfl | rfl | rfl | rfl | rfl <;> rfl
   refine Ex.guard (by simp; omega) (Ex.guard (by omega) (Ex.guard (by simp; omega) (Ex.ret ⟨by omega, by omega, ?_⟩)))
   simp only [List.length_append, List.length_take, List.length_drop]
   omega
  ·refine Ex.ite (fun _ => Ex.guard (by omega) (Ex.ret ⟨by omega, by omega, by simp; omega⟩)) (fun _ => ?_)
   refine Ex.ite (fun _ => ?_) (fun _ => Ex.ret trivial)
   refine Ex.bind (of_ex h (by omega) (by omega) (by simp) (by simp)) ?_
   rintro ⟨j, c⟩ ⟨e1, e2⟩
   simp only at e1 e2 ⊢
   have hc : c.length ≤ 2 := by
    simp only [List.mem_cons, List.not_mem_nil, or_false] at e2
    rcases e2 with rfl | rfl | rfl | rfl | rfl | rfl <;> simp
   exact Ex.guard (by omega) (Ex.ret ⟨by omega, by omega, by simp; omega⟩)
 ·rintro (⟨j, c⟩ | u) hr
  ·exact Ex.ret hr
  ·exact Ex.ret ⟨by omega, by omega, by simp⟩
end
section
open Go
set_option linter.unusedVariables false
def smallL (x : List Str) : Prop := ∀ p ∈ x, p.length ≤ 100
theorem small_add {x : List Str} (h : smallL x) {p : Str} (hp : p.length ≤ 100) : smallL (x ++ [p]) := fun q hq => by
 rcases List.mem_append.1 hq with h1 | h1
 ·exact h q h1
 ·rw [List.mem_singleton.1 h1]; exact hp
theorem drawSes_loop {x1 : List Int} {k2 : Nat} (h : Rd x1 k2) : ∀ (m : Nat) (i : Int) (x : List Str), 0 ≤ i → i + 10 * m ≤ 800000000 → smallL x → x.length + 2 * m ≤ 1000 →
  Ex (fun n => spec_DrawRunSession_L1 x1 k2 n i x (m : Int)) (fun r => i ≤ r.1 ∧ r.1 ≤ i + 10 * m ∧ smallL r.2 ∧ r.2.length ≤ x.length + 2 * m)
 | 0, i, x, h0, h1, hx, hl => by
  refine Ex.succ ?_
  simp only [spec_DrawRunSession_L1]
  exact Ex.no rfl (Ex.ret ⟨Int.le_refl _, by omega, hx, by simp⟩)
 | m + 1, i, x, h0, h1, hx, hl => by
  refine Ex.succ ?_
  simp only [spec_DrawRunSession_L1]
  rw [w64_id (n := i + 1) (by omega) (by omega)]
  refine Ex.yes (decide_eq_true (by omega)) (Ex.bind (pick_ex h h0 (by omega) (by omega) (by omega)) (fun a ha => ?_))
  refine Ex.be (decimal_ex (by omega) (by omega)) ?_
  have hA := itoa_len (n := a) (by omega) (by omega)
  generalize Lib.itoa a = sa at hA
  refine Ex.bind (of_ex h (by omega) (by omega) (by simp) (by simp)) ?_
  rintro ⟨j, sp⟩ ⟨hj, hsp⟩
  simp only at hj hsp ⊢
  have hP : sp.length ≤ 4 := by
   simp only [List.mem_cons, List.not_mem_nil, or_false] at hsp
   rcases hsp with rfl | rfl | rfl | rfl <;> simp
  refine Ex.bind (pick_ex h (by omega) (by omega) (by omega) (by omega)) (fun c hc => ?_)
  rw [w64_id (n := j + 1) (by omega) (by omega)]
  have vt : ∀ {q : Str}, (([q] : List Str).drop 0).take ([q] : List Str).length = [q] := fun {q} => rfl
  refine Ex.bind (P := fun r => i ≤ r.1 ∧ r.1 ≤ i + 10 ∧ smallL r.2 ∧ r.2.length ≤ x.length + 2) ?_ ?_
  ·refine Ex.ite (fun _ => ?_) (fun _ => ?_)
   ·refine Ex.guard (by simp; omega) (Ex.guard (by simp; omega) (Ex.guard (by simp; omega) (Ex.guard (by simp; omega) (Ex.ret ⟨by simp only; omega, by simp only; omega, ?_, by simp⟩))))
    rw [vt]; exact small_add hx (by simp; omega)
   refine Ex.bind (P := fun r => i ≤ r.1 ∧ r.1 ≤ i + 10 ∧ smallL r.2 ∧ r.2.length ≤ x.length + 2) ?_ (fun r hr => Ex.ret hr)
   refine Ex.ite (fun _ => ?_) (fun _ => ?_)
   ·refine Ex.guard (by simp; omega) (Ex.guard (by simp; omega) (Ex.guard (by simp; omega) (Ex.guard (by simp; omega) (Ex.bind (someValue_ex h (by omega) (by omega)) ?_))))
    rintro ⟨j2, v⟩ ⟨hj2, hv⟩
    simp only at hj2 hv ⊢
    refine Ex.be (decimal_ex (by omega) (by omega)) ?_
    have hV := itoa_len (n := v) (by omega) (by omega)
    generalize Lib.itoa v = sv at hV
    refine Ex.guard (by simp; omega) (Ex.guard (by simp; omega) (Ex.ret ⟨by simp only; omega, by simp only; omega, ?_, by simp⟩))
    rw [vt]; exact small_add hx (by simp; omega)
   refine Ex.bind (P := fun r => i ≤ r.1 ∧ r.1 ≤ i + 10 ∧ smallL r.2 ∧ r.2.length ≤ x.length + 2) ?_ (fun r hr => Ex.ret hr)
   refine Ex.ite (fun _ => ?_) (fun _ => ?_)
   ·refine Ex.bind (of_ex h (by omega) (by omega) (by simp) (by simp)) ?_
    rintro ⟨j2, q⟩ ⟨hj2, hq⟩
    simp only at hj2 hq ⊢
    have hQ : q.length ≤ 5 := by
     simp only [List.mem_cons, List.not_mem_nil, or_false] at hq
     rcases hq with rfl | rfl <;> simp
    refine Ex.guard (by omega) (Ex.guard (by simp; omega) (Ex.guard (by simp; omega) (Ex.guard (by simp; omega) (Ex.ret ⟨by simp only; omega, by simp only; omega, ?_, by simp⟩))))
    rw [vt]; exact small_add hx (by simp; omega)
   refine Ex.bind (P := fun r => i ≤ r.1 ∧ r.1 ≤ i + 10 ∧ smallL r.2 ∧ r.2.length ≤ x.length + 2) ?_ (fun r hr => Ex.ret hr)
   refine Ex.ite (fun _ => ?_) (fun _ => ?_)
   ·refine Ex.guard (by simp; omega) (Ex.bind (of_ex h (by omega) (by omega) (by simp) (by simp)) ?_)
    rintro ⟨j2, q⟩ ⟨hj2, hq⟩
    simp only at hj2 hq ⊢
    have hQ : q.length ≤ 20 := by
     simp only [List.mem_cons, List.not_mem_nil, or_false] at hq
     rcases hq with rfl | rfl | rfl | rfl | rfl | rfl | rfl | rfl <;> simp <;> omega
    refine Ex.guard (by simp; omega) (Ex.ret ⟨by simp only; omega, by simp only; omega, ?_, by simp⟩)
    rw [vt]; exact small_add hx (by omega)
   ·refine Ex.guard (by simp; omega) (Ex.guard (by simp; omega) (Ex.guard (by simp; omega) (Ex.ret ⟨by simp only; omega, by simp only; omega, ?_, by simp⟩)))
    simp only
    intro q hq
    rcases List.mem_append.1 hq with h3 | h3
    ·exact hx q h3
    ·simp only [List.drop_zero, List.length_cons, List.length_nil, List.take_succ_cons, List.take_zero, List.mem_cons, List.not_mem_nil, or_false] at h3
     rcases h3 with rfl | rfl
     ·simp
     ·simp; omega
  ·rintro ⟨j2, x2⟩ ⟨h2, h3, h4, h5⟩
   simp only at h2 h3 h4 h5 ⊢
   have e : w64 (((m + 1 : Nat) : Int) - 1) = (m : Int) := by rw [w64_id (by omega) (by omega)]; omega
   rw [e]
   refine Ex.mono (drawSes_loop h m j2 x2 (by omega) (by omega) h4 (by omega)) ?_
   rintro r ⟨r1, r2, r3, r4⟩
   exact ⟨by omega, by omega, r3, by omega⟩
theorem drawSes_ex {x0 : List Int} (hl : x0.length ≤ 1048576) (h0 : ∀ x ∈ x0, RC.wf .u8 x) : Ex (fun n => spec_DrawRunSession n x0) (fun x => x.length ≤ 100 ∧ ∀ p ∈ x, p.length ≤ 1000) := by
 unfold spec_DrawRunSession
 refine Ex.bind (newReader_ex (u8_wf h0) (by omega)) (fun k hk => ?_)
 refine Ex.bind (one_ex hk (Int.le_refl 0) (by omega) (by simp) (by simp)) ?_
 rintro ⟨j, c⟩ ⟨hj, hc⟩
 simp only at hj hc ⊢
 obtain ⟨m, rfl, hm⟩ : ∃ m : Nat, c = (m : Int) ∧ m ≤ 16 := by
  simp only [List.mem_cons, List.not_mem_nil, or_false] at hc
  exact ⟨c.toNat, by omega, by omega⟩
 refine Ex.bind (drawSes_loop hk m j [] (by omega) (by omega) (fun p hp => by cases hp) (by simp; omega)) ?_
 rintro ⟨i, x⟩ ⟨h1, h2, h3, h4⟩
 simp only [List.length_nil] at h1 h2 h3 h4 ⊢
 rw [w64_id (n := i + 1) (by omega) (by omega)]
 refine Ex.bind (P := fun r => i ≤ r.1 ∧ r.1 ≤ i + 1 ∧ (r.2 = true → 0 < x.length)) ?_ ?_
 ·refine Ex.ite (fun hb => ?_) (fun _ => Ex.ret ⟨Int.le_refl _, by omega, fun h => by cases h⟩)
  have hb := of_decide_eq_true hb
  exact Ex.bind (pick_ex hk (by omega) (by omega) (by omega) (by omega)) (fun a ha => Ex.ret ⟨by simp only; omega, by simp only; omega, fun _ => by omega⟩)
 ·rintro ⟨j2, b⟩ ⟨h5, h6, h7⟩
  simp only at h5 h6 h7 ⊢
  rw [w64_id (n := j2 + 1) (by omega) (by omega)]
  refine Ex.bind (P := fun x : List Str => x.length ≤ 100 ∧ ∀ p ∈ x, p.length ≤ 1000) (Ex.ite (fun hb => ?_) (fun _ => Ex.ret ⟨by omega, fun p hp => by have := h3 p hp; omega⟩)) (fun r hr => Ex.ret hr)
  have hpos := h7 hb
  refine Ex.bind (pick_ex hk (by omega) (by omega) (by omega) (by omega)) (fun a ha => ?_)
  obtain ⟨q, rfl⟩ : ∃ q : Nat, a = (q : Int) := ⟨a.toNat, by omega⟩
  have hq : q < x.length := by omega
  rw [Int.toNat_natCast]
  have hlen := h3 _ (getD_mem (d := []) hq)
  refine Ex.guard (by omega) (Ex.bind (mutate_ex hk (by omega) (by omega) (by omega)) ?_)
  rintro ⟨j3, y⟩ ⟨_, _, hy⟩
  simp only at hy ⊢
  refine Ex.guard (by omega) (Ex.ret ⟨by simp; omega, fun p hp => ?_⟩)
  rcases List.mem_or_eq_of_mem_set hp with h8 | rfl
  ·have := h3 p h8; omega
  ·omega

/-! runs put together -/
def endM : List Nod → List Lck → List Str → List Nod × List Lck
 | t, l, [] => (t, l)
 | t, l, s :: r => endM (stepM t l s).1 (stepM t l s).2.1 r
theorem run_app : ∀ (x y : List Str) (t : List Nod) (l : List Lck), runM t l (x ++ y) = runM t l x ++ runM (endM t l x).1 (endM t l x).2 y
 | [], y, t, l => rfl
 | s :: x, y, t, l => by
  rw [List.cons_append, runM, run_app x y, runM, endM]; simp
theorem end_ok : ∀ (x : List Str) (t : List Nod) (l : List Lck), VT t → validB l = true → VT (endM t l x).1 ∧ validB (endM t l x).2 = true
 | [], t, l, h, hv => ⟨h, hv⟩
 | s :: x, t, l, h, hv => by
  have := stepM_ok h hv s
  exact end_ok x _ _ this.1 this.2.1
theorem ses_app {x y : List Str} (h : x.length + y.length ≤ 20) : sesM (x ++ y) = sesM x ++ runM (endM [⟨-1, [], 0⟩] [] x).1 (endM [⟨-1, [], 0⟩] [] x).2 y := by
 rw [sesM, sesM, List.take_of_length_le (by simp; omega), List.take_of_length_le (by omega), run_app]
theorem run_len : ∀ (x : List Str) (t : List Nod) (l : List Lck), VT t → validB l = true → (runM t l x).length ≤ 1001 * x.length
 | [], t, l, h, hv => by simp [runM]
 | s :: x, t, l, h, hv => by
  have ho := stepM_ok h hv s
  have := run_len x _ _ ho.1 ho.2.1
  have := ho.2.2
  rw [runM]; simp; omega
theorem ses_len (x : List Str) : (sesM x).length ≤ 100000 := by
 have := run_len (x.take 20) _ [] root_VT rfl
 rw [sesM]
 have h2 : (x.take 20).length ≤ 20 := by simp; omega
 omega
end
section
open Go
set_option linter.unusedVariables false
theorem step_tree (t : List Nod) (l : List Lck) : stepM t l [116, 114, 101, 101] = (t, l, fmtR t) := rfl
theorem step_locks (t : List Nod) (l : List Lck) : stepM t l [108, 111, 99, 107, 115] = (t, l, fmtLR l) := rfl
theorem step_get (t : List Nod) (l : List Lck) (c : UInt8) (p : Str) (hw : spl 32 ([103, 101, 116, 32, c, 32] ++ p) = [[103, 101, 116], [c], p]) : stepM t l ([103, 101, 116, 32, c, 32] ++ p) = (t, l, getM t l [c] p) := by
 rw [stepM, hw]; rfl
theorem law_FnSessionQuestions (x0 : List Int) (h0 : x0.length ≤ 9223372036854775807 ∧ ∀ x ∈ x0, RC.wf .u8 x) : ∃ n, laws_FnSessionQuestions n x0 = some true := by
 refine Ex.get ?_
 unfold laws_FnSessionQuestions
 refine Ex.code rfl (fun hl => ?_)
 refine Ex.bind (drawSes_ex hl h0.2) ?_
 rintro x ⟨hxl, hxs⟩
 have hx : ∀ p ∈ x, p.length ≤ 100000000 := fun p hp => by have := hxs p hp; omega
 have hsl := ses_len x
 have sp : ∀ {g : Nat → Str → Option Bool} {Q : Bool → Prop}, Ex (fun n => g n (sesM x)) Q → Ex (fun n => bindO (spec_RunSession n x) (g n)) Q := fun k => Ex.be (specRun_ex hx) k
 refine Ex.be (implRun_ex hx) (sp ?_)
 refine Ex.ite (fun _ => sp (Ex.ret (by simp))) (fun hb => ?_)
 have h16 : x.length ≤ 16 := by
  have : w64 (((x.length : Nat) : Int) + 4) = (x.length : Int) + 4 := w64_id (by omega) (by omega)
  rw [this] at hb
  simp at hb
  omega
 have e1 : (([] : List Str) ++ (x.drop 0).take x.length) = x := by simp
 have hA : ∀ y : List Str, smallL y → Ex (fun n => impl_RunSession n (x ++ y)) (· = sesM (x ++ y)) := fun y hy => implRun_ex (fun p hp => by
  rcases List.mem_append.1 hp with h | h
  ·exact hx p h
  ·have := hy p h; omega)
 obtain ⟨hvt, hvl⟩ := end_ok x _ [] root_VT rfl
 have s1 := ses_app (x := x) (y := [[116, 114, 101, 101]]) (by simp; omega)
 have s2 := ses_app (x := x) (y := [[108, 111, 99, 107, 115], [103, 101, 116, 32, 48, 32, 47], [103, 101, 116, 32, 50, 32, 47, 97], [116, 114, 101, 101]]) (by simp; omega)
 generalize (endM [⟨-1, [], 0⟩] [] x).1 = t at *
 generalize (endM [⟨-1, [], 0⟩] [] x).2 = l at *
 have r1 : runM t l [[116, 114, 101, 101]] = fmtR t ++ [10] := by rw [runM, step_tree]; rfl
 have g1 : stepM t l [103, 101, 116, 32, 48, 32, 47] = (t, l, getM t l [48] [47]) := step_get t l 48 [47] (by decide)
 have g2 : stepM t l [103, 101, 116, 32, 50, 32, 47, 97] = (t, l, getM t l [50] [47, 97]) := step_get t l 50 [47, 97] (by decide)
 obtain ⟨z, r2⟩ : ∃ z : Str, runM t l [[108, 111, 99, 107, 115], [103, 101, 116, 32, 48, 32, 47], [103, 101, 116, 32, 50, 32, 47, 97], [116, 114, 101, 101]] = (10 :: z) ++ (fmtR t ++ [10]) ∨ runM t l [[108, 111, 99, 107, 115], [103, 101, 116, 32, 48, 32, 47], [103, 101, 116, 32, 50, 32, 47, 97], [116, 114, 101, 101]] = z ++ [10] ++ (fmtR t ++ [10]) := by
  refine ⟨fmtLR l ++ 10 :: (getM t l [48] [47] ++ 10 :: getM t l [50] [47, 97]), .inr ?_⟩
  rw [runM, step_locks, runM]
  simp only
  rw [g1, runM]
  simp only
  rw [g2, runM]
  simp only
  rw [step_tree]
  simp [runM]
 have l1 := ses_len (x ++ [[116, 114, 101, 101]])
 have l2 := ses_len (x ++ [[108, 111, 99, 107, 115], [103, 101, 116, 32, 48, 32, 47], [103, 101, 116, 32, 50, 32, 47, 97], [116, 114, 101, 101]])
 obtain ⟨q, hq, r2⟩ : ∃ q : Str, 0 < q.length ∧ runM t l [[108, 111, 99, 107, 115], [103, 101, 116, 32, 48, 32, 47], [103, 101, 116, 32, 50, 32, 47, 97], [116, 114, 101, 101]] = q ++ (fmtR t ++ [10]) := by
  rcases r2 with r2 | r2
  ·exact ⟨_, by simp, r2⟩
  ·exact ⟨_, by simp, r2⟩
 rw [r1] at s1
 rw [r2] at s2
 generalize fmtR t ++ [10] = w at s1 s2
 simp only [e1]
 refine Ex.guard (by simp; omega) (Ex.guard (by simp; omega) ?_)
 refine Ex.be (hA [[116, 114, 101, 101]] (by intro p hp; rw [List.mem_singleton.1 hp]; simp)) (Ex.guard (by simp; omega) (Ex.guard (by simp; omega) (Ex.be (hA [[108, 111, 99, 107, 115], [103, 101, 116, 32, 48, 32, 47], [103, 101, 116, 32, 50, 32, 47, 97], [116, 114, 101, 101]] (by
  intro p hp
  simp only [List.mem_cons, List.not_mem_nil, or_false] at hp
  rcases hp with rfl | rfl | rfl | rfl <;> simp)) ?_)))
 rw [s1] at l1 ⊢
 rw [s2] at l2 ⊢
 generalize sesM x = o at *
 have d1 : (o ++ w).drop ((o.length : Int)).toNat = w := by rw [Int.toNat_natCast]; exact List.drop_left' rfl
 have d2 : (o ++ (q ++ w)).drop ((o.length : Int)).toNat = q ++ w := by rw [Int.toNat_natCast]; exact List.drop_left' rfl
 simp only [List.length_append] at l1 l2
 have q1 : (o ++ w).length = o.length + w.length := List.length_append
 have q2 : (o ++ (q ++ w)).length = o.length + (q.length + w.length) := by rw [List.length_append, List.length_append]
 refine Ex.no (by rw [decide_eq_false (by omega), decide_eq_false (by omega)]; rfl) (Ex.guard (by omega) (Ex.guard (by omega) ?_))
 rw [d1, d2]
 have q3 : (q ++ w).length = q.length + w.length := List.length_append
 have ew : w64 ((((q ++ w).length : Nat) : Int) - ((w.length : Nat) : Int)) = ((q.length : Nat) : Int) := by rw [w64_id (by omega) (by omega)]; omega
 rw [ew]
 refine Ex.be (a := true) (Ex.yes (decide_eq_true (by omega)) (Ex.guard (by omega) (Ex.ret ?_))) (Ex.ret rfl)
 rw [Int.toNat_natCast, List.drop_left' rfl, decide_eq_true rfl]
end
end Go.Proofs.YtghdgncfcfdlfaaGreatDoor
