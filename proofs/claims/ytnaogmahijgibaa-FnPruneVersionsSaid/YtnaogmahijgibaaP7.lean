/- Plain facts: the laws on further versions. Conditions: none. -/
import Derived.Test.YtnaogmahijgibaaP6
namespace Go.Proofs.Ytnaogmahijgibaa
open Go

theorem implAdd_ex {xs : List Ver} (hl : xs.length < 1000000000) (x : Ver) : Ex (fun n => impl_AddVersion n xs x) (· = addR xs x) := by
  unfold impl_AddVersion addR
  refine Ex.be (implValid_ex (by omega)) ?_
  have hx : (⟨x.node, x.value, x.tm⟩ : Ver) = x := rfl
  simp only [hx, view_all]
  cases hv : validI xs with
  | false => exact Ex.yes rfl (Ex.ret (by simp))
  | true =>
    refine Ex.no rfl ?_
    refine Ex.bc (a := xs) (by unfold slices_Clone_Version; exact guardO_pos (by omega)) ?_
    refine Ex.guard (by simp; omega) (Ex.be (implValid_ex (by simp; omega)) ?_)
    cases hw : validI (xs ++ [x]) with
    | false => exact Ex.yes rfl (Ex.ret (by simp))
    | true => exact Ex.no rfl (Ex.ret (by simp))

theorem equalVer_ex {xs : List Ver} (hl : xs.length < 1000000000) : Ex (fun n => laws_equalVersions n xs xs) (· = true) := by
  have loop : ∀ (m k : Nat), k + m = xs.length → Ex (fun n => laws_equalVersions_L1 xs xs n (k : Int)) (· = .inr ()) := by
    intro m
    induction m with
    | zero =>
      intro k hk
      refine Ex.succ ?_
      simp only [laws_equalVersions_L1]
      exact Ex.no (decide_eq_false (by omega)) (Ex.ret rfl)
    | succ m ih =>
      intro k hk
      refine Ex.succ ?_
      simp only [laws_equalVersions_L1, Int.toNat_natCast]
      refine Ex.yes (decide_eq_true (by omega)) (Ex.guard (by omega) (Ex.guard (by omega) (Ex.no (by simp) ?_)))
      rw [w64_succ (by omega)]
      exact ih (k + 1) (by omega)
  unfold laws_equalVersions
  exact Ex.no (by simp) (Ex.be (loop xs.length 0 (by omega)) (Ex.ret rfl))

theorem drawAdd_ex {x1 : List Int} (h : ∀ b ∈ x1, 0 ≤ b ∧ b ≤ 255) (hl : x1.length ≤ 1048576) : Ex (fun n => spec_DrawAddVersion n x1) (fun r => r.1.length ≤ 20) := by
  unfold spec_DrawAddVersion
  refine Ex.bind (newReader_ex h (by omega)) (fun k hk => ?_)
  refine Ex.bind (someVersions_ex hk (Int.le_refl 0) (by omega)) ?_
  rintro ⟨i, xs⟩ ⟨h1, h2, h3⟩
  simp only at h1 h2 h3 ⊢
  refine Ex.bind (pick_ex hk h1 (by omega) (by omega) (by omega)) (fun a ha => ?_)
  rw [w64_id (n := i + 1) (by omega) (by omega)]
  refine Ex.bind (someValue_ex hk (by omega) (by omega)) ?_
  rintro ⟨c, d⟩ ⟨hc, hd⟩
  have hc : c = i + 4 := by simp at hc; omega
  subst hc
  refine Ex.bind (one_ex hk (by omega) (by omega) (by simp) (by simp)) ?_
  rintro ⟨e, f⟩ ⟨he, hf⟩
  have he : e = i + 5 := by simp at he; omega
  subst he
  refine Ex.bind (P := fun r : Int × Bool => 0 ≤ r.1 ∧ r.1 ≤ 1000 ∧ (r.2 = true → 0 < xs.length)) ?_ ?_
  · refine Ex.ite (fun hb => ?_) (fun hb => ?_)
    · have := of_decide_eq_true hb
      refine Ex.bind (pick_ex hk (by omega) (by omega) (by omega) (by omega)) (fun q hq => ?_)
      refine Ex.ret ⟨?_, ?_, fun _ => by omega⟩ <;> simp only <;> rw [w64_id (by omega) (by omega)] <;> omega
    · exact Ex.ret ⟨by simp only; omega, by simp only; omega, by simp⟩
  · rintro ⟨j, b⟩ ⟨q1, q2, q3⟩
    simp only at q1 q2 q3 ⊢
    refine Ex.bind (P := fun _ : Int => True) ?_ (fun _ _ => Ex.ret h3)
    refine Ex.ite (fun hb => ?_) (fun hb => Ex.ret trivial)
    have := q3 hb
    have e : w64 ((xs.length : Int) - 1) = ((xs.length - 1 : Nat) : Int) := by rw [w64_id (by omega) (by omega)]; omega
    rw [e]
    exact Ex.guard (by omega) (Ex.bind (pick_ex hk (by omega) (by omega) (by omega) (by omega)) (fun q hq => Ex.ret trivial))

theorem not_valid_last {v : List Ver} {x : Ver} (hz : v.length ≠ 0) (h : ¬ VerLt (v.getD (v.length - 1) dver) x) : validI (v ++ [x]) = false := by
  rw [Bool.eq_false_iff]
  intro hv
  have := (validI_iff.1 hv).lt
  rw [List.pairwise_append] at this
  exact h (this.2.2 _ (getD_mem (by omega)) x (by simp))

theorem law_FnAddVersionOld (x0 : List Int) (h0 : x0.length ≤ 9223372036854775807 ∧ ∀ x ∈ x0, RC.wf .u8 x) : ∃ n, laws_FnAddVersionOld n x0 = some true := by
  refine Ex.get ?_
  unfold laws_FnAddVersionOld
  refine Ex.code rfl (fun hl => ?_)
  refine Ex.bind (drawAdd_ex (u8_wf h0.2) hl) ?_
  rintro ⟨v, a, b, c⟩ hv
  simp only at hv ⊢
  refine Ex.be (implAdd_ex (by omega) _) (Ex.be (specAdd_ex (by omega) _) ?_)
  have hlen := addR_len v (⟨a, b, c⟩ : Ver)
  generalize addR v (⟨a, b, c⟩ : Ver) = A at hlen ⊢
  obtain ⟨out, ok⟩ := A
  simp only at hlen ⊢
  refine Ex.be (equalVer_ex (by omega)) ?_
  by_cases hz : v.length = 0
  · refine Ex.be (a := true) (Ex.no rfl (Ex.no (by simp) (Ex.yes (by simp [hz]) (Ex.ret rfl)))) (Ex.yes rfl (Ex.be (equalVer_ex (by omega)) (Ex.ret (by simp))))
  · refine Ex.be (a := !validI v) (Ex.no rfl (Ex.no (by simp) (Ex.no (decide_eq_false (by omega)) (Ex.be (implValid_ex (by omega)) (Ex.ret rfl))))) ?_
    cases hval : validI v with
    | false => exact Ex.yes rfl (Ex.be (equalVer_ex (by omega)) (Ex.ret (by simp)))
    | true =>
      have e : w64 ((v.length : Int) - 1) = ((v.length - 1 : Nat) : Int) := by rw [w64_id (by omega) (by omega)]; omega
      rw [e]
      simp only [Int.toNat_natCast]
      have hok := ((validI_iff.1 hval).ok _ (getD_mem (d := dver) (show v.length - 1 < v.length by omega))).2.2
      refine Ex.no rfl (Ex.guard (by omega) (Ex.be (implAdd_ex (by omega) _) ?_))
      have h1 : validI (v ++ [(⟨a, b, w64 ((v.getD (v.length - 1) dver).tm - 1)⟩ : Ver)]) = false := by
        refine not_valid_last hz (fun h => ?_)
        have := h.1
        rw [w64_id (by omega) (by omega)] at this
        simp only at this
        omega
      have h2 : validI (v ++ [v.getD (v.length - 1) dver]) = false := not_valid_last hz (fun h => h.2 rfl rfl)
      simp only [addR, h1]
      refine Ex.guard (by omega) (Ex.be (implAdd_ex (by omega) _) (Ex.ret ?_))
      simp only [addR, h2]
      simp

theorem add_loop {v out : List Ver} {x : Ver} (hl : v.length ≤ 1000) (hlo : out.length ≤ 2000) (hr : ∀ node, rdR v node (x.tm - 1) = rdR out node (x.tm - 1)) (ht : 0 ≤ x.tm ∧ x.tm ≤ 100) {i : Int} {b : Bool} {x1 : List Int} : ∀ (m k : Nat), k + m = 12 →
    Ex (fun n => laws_FnAddVersion_L1 v out i b x1 x.node x.value x.tm n (k : Int)) (· = .inr ())
  | 0, k, hk => by
    refine Ex.succ ?_
    simp only [laws_FnAddVersion_L1]
    exact Ex.no (decide_eq_false (by omega)) (Ex.ret rfl)
  | m + 1, k, hk => by
    refine Ex.succ ?_
    simp only [laws_FnAddVersion_L1]
    refine Ex.yes (decide_eq_true (by omega)) ?_
    rw [w64_id (n := x.tm - 1) (by omega) (by omega), w64_succ (by omega)]
    refine Ex.be (implRead_ex (by omega) _ _) (Ex.be (implRead_ex (by omega) _ _) ?_)
    rw [hr]
    exact Ex.no (by simp) (add_loop hl hlo hr ht m (k + 1) (by omega))

theorem addR_true {v : List Ver} {x : Ver} (h : (addR v x).2 = true) : validI v = true ∧ validI (v ++ [x]) = true ∧ addR v x = (v ++ [x], true) := by
  unfold addR at h ⊢
  split at h
  · rename_i hc; exact ⟨hc.1, hc.2, if_pos hc⟩
  · cases h

theorem law_FnAddVersion (x0 : List Int) (h0 : x0.length ≤ 9223372036854775807 ∧ ∀ x ∈ x0, RC.wf .u8 x) : ∃ n, laws_FnAddVersion n x0 = some true := by
  refine Ex.get ?_
  unfold laws_FnAddVersion
  refine Ex.code rfl (fun hl => ?_)
  refine Ex.bind (drawAdd_ex (u8_wf h0.2) hl) ?_
  rintro ⟨v, a, b, c⟩ hv
  simp only at hv ⊢
  refine Ex.be (implAdd_ex (by omega) _) (Ex.be (specAdd_ex (by omega) _) ?_)
  have hlen := addR_len v (⟨a, b, c⟩ : Ver)
  cases hA : addR v (⟨a, b, c⟩ : Ver) with
  | mk out ok =>
    rw [hA] at hlen
    simp only at hlen ⊢
    refine Ex.be (equalVer_ex (by omega)) ?_
    cases ok with
    | false => exact Ex.yes (by simp) (Ex.be (equalVer_ex (by omega)) (Ex.ret (by simp)))
    | true =>
      obtain ⟨h1, h2, h3⟩ := addR_true (v := v) (x := ⟨a, b, c⟩) (by rw [hA])
      rw [hA] at h3
      cases h3
      refine Ex.no rfl (Ex.be (implRead_ex (by omega) _ _) ?_)
      have hV := validI_iff.1 h2
      have hx := hV.ok (⟨a, b, c⟩ : Ver) (by simp)
      have hself := rd_self hV (k := v.length) (by simp)
      have hlast : (v ++ [(⟨a, b, c⟩ : Ver)]).getD v.length dver = ⟨a, b, c⟩ := by simp
      rw [hlast] at hself
      have hr : ∀ node, rdR v node (c - 1) = rdR (v ++ [(⟨a, b, c⟩ : Ver)]) node (c - 1) := by
        intro node
        have : rd (v ++ [(⟨a, b, c⟩ : Ver)]) node (c - 1) = rd v node (c - 1) := by
          unfold rd
          rw [List.filter_append, List.filter_cons, List.filter_nil]
          have : vis node (c - 1) (⟨a, b, c⟩ : Ver) = false := by
            unfold vis
            simp only [Bool.and_eq_false_iff, decide_eq_false_iff_not]
            right; omega
          rw [this]; simp
        simp only [rdR, h1, h2, this]
      simp only [rdR, h2, if_true, hself]
      refine Ex.be (add_loop (x := ⟨a, b, c⟩) (by omega) (by omega) hr hx.2.2 12 0 rfl) ?_
      have e : w64 ((v.length : Int) + 1) = ((v.length + 1 : Nat) : Int) := w64_succ (by omega)
      rw [e]
      refine Ex.be (a := true) (Ex.yes rfl (Ex.yes (by simp) (Ex.yes (by simp) (Ex.be (implValid_ex (by omega)) (Ex.ret h2))))) (Ex.ret rfl)

/-- the mark on an element -/
def mk3 (k : Int) (j : Nat) : Ver := ⟨k + 3 * j, k + 3 * j + 1, k + 3 * j + 2⟩
def Marked (xs : List Ver) (k : Int) : Prop := ∀ j, j < xs.length → xs.getD j dver = mk3 k j

theorem getD_lset {α : Type} {xs : List α} {i : Nat} {x d : α} (h : i < xs.length) (j : Nat) : (xs.set i x).getD j d = if i = j then x else xs.getD j d := by
  rw [List.getD_eq_getElem?_getD, List.getElem?_set, List.getD_eq_getElem?_getD]
  by_cases e : i = j
  · subst e; simp [h]
  · simp [e]

theorem mark_loop {len : Nat} {k : Int} (hk : 0 ≤ k) (hk2 : k ≤ 1000000) (hl : len ≤ 10000000) : ∀ (m i : Nat) (ys : List Ver), i + m = len → ys.length = len → (∀ j, j < i → ys.getD j dver = mk3 k j) →
    Ex (fun n => laws_markVersionS_L1 len n ys (k + 3 * i) (i : Int)) (fun r => r.1.length = len ∧ r.2 = k + 3 * len ∧ Marked r.1 k)
  | 0, i, ys, hi, hy, hj => by
    refine Ex.succ ?_
    simp only [laws_markVersionS_L1]
    obtain rfl : i = len := by omega
    exact Ex.no (decide_eq_false (by omega)) (Ex.ret ⟨hy, rfl, fun j h => hj j (by simp only at h; omega)⟩)
  | m + 1, i, ys, hi, hy, hj => by
    refine Ex.succ ?_
    simp only [laws_markVersionS_L1, Int.toNat_natCast]
    refine Ex.yes (decide_eq_true (by omega)) (Ex.guard (by omega) (Ex.guard (by omega) (Ex.guard (by omega) ?_)))
    rw [w64_succ (by omega), w64_id (n := k + 3 * (i : Int) + 1) (by omega) (by omega), w64_id (n := k + 3 * (i : Int) + 1 + 1) (by omega) (by omega), w64_id (n := k + 3 * (i : Int) + 1 + 1 + 1) (by omega) (by omega)]
    have e1 : k + 3 * (i : Int) + 1 + 1 + 1 = k + 3 * ((i + 1 : Nat) : Int) := by omega
    rw [e1]
    simp only [List.set_set, getD_lset (show i < ys.length by omega), if_true]
    refine mark_loop hk hk2 hl m (i + 1) _ (by omega) (by simpa using hy) (fun j h => ?_)
    rw [getD_lset (by omega)]
    by_cases e : i = j
    · subst e
      simp [mk3]
      omega
    · simp [e]
      have := hj j (by omega)
      simpa using this

theorem mark_ex {xs : List Ver} (hl : xs.length ≤ 10000000) : Ex (fun n => laws_markVersionS n xs xs.length 1) (fun r => r.1.length = xs.length ∧ r.2 = 1 + 3 * xs.length ∧ Marked r.1 1) := by
  unfold laws_markVersionS
  have := mark_loop (len := xs.length) (k := 1) (by omega) (by omega) hl xs.length 0 xs (by omega) rfl (fun j h => by omega)
  refine Ex.bind this ?_
  rintro ⟨ys, j⟩ h
  exact Ex.ret h

theorem held_loop {xs : List Ver} {k : Int} (hk : 0 ≤ k) (hk2 : k ≤ 1000000) (hl : xs.length ≤ 10000000) (hm : Marked xs k) : ∀ (m i : Nat), i + m = xs.length →
    Ex (fun n => laws_heldVersionS_L1 xs n (k + 3 * i) (i : Int)) (· = .inr (k + 3 * xs.length))
  | 0, i, hi => by
    refine Ex.succ ?_
    simp only [laws_heldVersionS_L1]
    obtain rfl : i = xs.length := by omega
    exact Ex.no (decide_eq_false (by omega)) (Ex.ret rfl)
  | m + 1, i, hi => by
    refine Ex.succ ?_
    simp only [laws_heldVersionS_L1, Int.toNat_natCast]
    rw [w64_succ (by omega), w64_id (n := k + 3 * (i : Int) + 1) (by omega) (by omega), w64_id (n := k + 3 * (i : Int) + 1 + 1) (by omega) (by omega), w64_id (n := k + 3 * (i : Int) + 1 + 1 + 1) (by omega) (by omega)]
    have e1 : k + 3 * (i : Int) + 1 + 1 + 1 = k + 3 * ((i + 1 : Nat) : Int) := by omega
    rw [e1]
    simp only [hm i (by omega)]
    refine Ex.yes (decide_eq_true (by omega)) (Ex.guard (by omega) (Ex.no (by simp [mk3]) (Ex.guard (by omega) (Ex.no (by simp [mk3]) (Ex.guard (by omega) (Ex.no (by rw [decide_eq_true (show (mk3 k i).tm = k + 3 * (i : Int) + 1 + 1 by simp only [mk3]; omega)]; rfl) ?_))))))
    exact held_loop hk hk2 hl hm m (i + 1) (by omega)

theorem held_ex {xs : List Ver} (hl : xs.length ≤ 10000000) (hm : Marked xs 1) : Ex (fun n => laws_heldVersionS n xs 1) (· = 1 + 3 * xs.length) := by
  unfold laws_heldVersionS
  exact Ex.be (held_loop (by omega) (by omega) hl hm xs.length 0 (by omega)) (Ex.ret rfl)

theorem law_FnExactAddVersion (xs : List Ver) (x : Ver) (h0 : xs.length ≤ 9223372036854775807 ∧ ∀ x ∈ xs, RC.wf .ver x) (_ : RC.wf .ver x) : ∃ n, laws_FnExactAddVersion n xs x = some true := by
  refine Ex.get ?_
  unfold laws_FnExactAddVersion
  refine Ex.sz rfl h0.1 (fun hl => ?_)
  have hx : laws_toVersion x = some (x.node, x.value, x.tm) := rfl
  simp only [hx, bindO_some]
  refine Ex.be (toVer_ex hl) (Ex.be (specAdd_ex (by omega) _) ?_)
  have hlen := addR_len xs (⟨x.node, x.value, x.tm⟩ : Ver)
  cases hA : addR xs (⟨x.node, x.value, x.tm⟩ : Ver) with
  | mk out ok =>
    rw [hA] at hlen
    simp only at hlen ⊢
    refine Ex.be (toVer_ex hl) (Ex.be (implAdd_ex (by omega) _) ?_)
    simp only [hA]
    refine Ex.be (eqVer_ex (by omega)) (Ex.no (by simp) ?_)
    refine Ex.be (toVer_ex hl) (Ex.be (eqVer_ex (by omega)) (Ex.no rfl ?_))
    refine Ex.bind (mark_ex (by omega)) ?_
    rintro ⟨ys, i⟩ ⟨h1, h2, h3⟩
    simp only at h1 h2 h3 ⊢
    refine Ex.guard h1.symm ?_
    refine Ex.be (a := false) (Ex.no (decide_eq_false (by omega)) (Ex.be (eqVer_ex (by omega)) (Ex.no rfl (Ex.ret (by simp))))) (Ex.no rfl ?_)
    refine Ex.bind (mark_ex (by omega)) ?_
    rintro ⟨zs, j⟩ ⟨k1, k2, k3⟩
    simp only at k1 k2 k3 ⊢
    refine Ex.guard k1.symm (Ex.be (held_ex (by omega) k3) (Ex.no (decide_eq_false (by omega)) (Ex.no (by rw [k1, k2]; simp) ?_)))
    refine Ex.be (toVer_ex hl) (Ex.be (implAdd_ex (by omega) _) ?_)
    simp only [hA]
    refine Ex.be (eqVer_ex (by omega)) (Ex.no (by simp) ?_)
    exact Ex.be (held_ex (by omega) k3) (Ex.no (decide_eq_false (by omega)) (Ex.no (by rw [k1, k2]; simp) (Ex.ret rfl)))
end Go.Proofs.Ytnaogmahijgibaa
