/- Plain facts: rows of edits are measured, copied, compared. Conditions: none. -/
import Derived.Test.YthlfcfcfipahiaaLA
namespace Go.Proofs.Ythlfcfcfipahiaa
open Go

/-- rows of edits with bounds -/
def EL (t : List Edt) : Prop := t.length ≤ 1000000000000 ∧ ∀ x ∈ t, x.path.length ≤ 1000000000000
theorem edt_wf {x : Edt} (h : RC.wf .edt x) : x.path.length ≤ 9223372036854775807 := by
  obtain ⟨_, ⟨s, hs, hl⟩, _⟩ := h
  cases hs
  exact hl

theorem szEditS_ex {xs : List Edt} (hl : xs.length ≤ 9223372036854775807) (hx : ∀ x ∈ xs, RC.wf .edt x) {b : Int} (h0 : 0 ≤ b) (h1 : b ≤ 1048576) :
    Ex (fun n => laws_szEditS n xs b) (fun r => r = -1 ∨ (0 ≤ r ∧ r ≤ b ∧ (xs.length : Int) ≤ b ∧ ∀ x ∈ xs, (x.path.length : Int) ≤ b)) := by
  unfold laws_szEditS
  refine Ex.ite (fun _ => Ex.ret (.inl rfl)) (fun hb => ?_)
  have hb := of_decide_eq_false hb
  rw [w64_id (by omega) (by omega)] at hb ⊢
  refine Ex.bind (P := fun v => (match v with | .inl _ => -1 | .inr r => r) = -1 ∨ (0 ≤ (match v with | .inl _ => -1 | .inr r => r) ∧ (match v with | .inl _ => -1 | .inr r => r) ≤ b ∧ (xs.length : Int) ≤ b ∧ ∀ x ∈ xs, (x.path.length : Int) ≤ b)) ?_ ?_
  · refine up xs.length (fun k (c : Int) => 0 ≤ c ∧ c ≤ b ∧ ∀ j, j < k → ((xs.getD j dedt).path.length : Int) ≤ b) (f := fun n c i => laws_szEditS_L1 xs n c i) ?_ ?_ 0 _ (Nat.zero_le _) ⟨by omega, by omega, fun j hj => by omega⟩
    · rintro k c hk ⟨h2, h3, h4⟩ next
      simp only [laws_szEditS_L1, Int.toNat_natCast]
      refine Ex.yes (decide_eq_true (by omega)) (Ex.guard (by omega) ?_)
      have h5 := edt_wf (hx _ (getD_mem (d := dedt) hk))
      refine Ex.bind (P := fun r => r = -1 ∨ (0 ≤ r ∧ r ≤ c ∧ ((xs.getD k dedt).path.length : Int) ≤ c)) ?_ ?_
      · unfold laws_szEdit
        refine Ex.ite (fun _ => Ex.ret (.inl rfl)) (fun hc => Ex.ret (.inr ?_))
        have hc := of_decide_eq_false hc
        rw [w64_id (by omega) (by omega)] at hc ⊢
        omega
      · rintro r (rfl | ⟨h6, h7, h8⟩)
        · exact Ex.yes (by decide) (Ex.ret (.inl rfl))
        · rw [w64_id (n := (k : Int) + 1) (by omega) (by omega)]
          refine Ex.no (decide_eq_false (by omega)) (next r ⟨h6, by omega, fun j hj => ?_⟩)
          rcases Nat.eq_or_lt_of_le (Nat.le_of_lt_succ hj) with rfl | h9
          · omega
          · exact h4 j h9
    · rintro c ⟨h2, h3, h4⟩
      simp only [laws_szEditS_L1]
      refine Ex.no (decide_eq_false (by omega)) (Ex.ret (.inr ⟨h2, h3, by omega, fun x hx => ?_⟩))
      obtain ⟨i, hi, rfl⟩ := List.mem_iff_getElem.1 hx
      have := h4 i hi
      rwa [List.getD_eq_getElem?_getD, List.getElem?_eq_getElem hi] at this
  · intro v hv
    rcases v with u | r
    · exact Ex.ret hv
    · exact Ex.ret hv

/-- the opening of a law on rows of edits -/
theorem Ex.szE {f : Nat → Int → Option Bool} {xs : List Edt} {b : Int} {P : Bool → Prop} (ht : P true) (h : xs.length ≤ 9223372036854775807 ∧ ∀ x ∈ xs, RC.wf .edt x) (h0 : 0 ≤ b) (h1 : b ≤ 1048576)
    (k : ∀ r, 0 ≤ r → r ≤ b → xs.length ≤ 1048576 → EL xs → Ex (fun n => f n r) P) :
    Ex (fun n => bindO (laws_szEditS n xs b) fun i => iteO (decide (i < 0)) (some true) (f n i)) P := by
  refine Ex.bind (szEditS_ex h.1 h.2 h0 h1) ?_
  rintro r (rfl | ⟨h2, h3, h4, h5⟩)
  · exact Ex.yes (by decide) (Ex.ret ht)
  · exact Ex.no (decide_eq_false (by omega)) (k r h2 h3 (by omega) ⟨by omega, fun x hx => by have := h5 x hx; omega⟩)

theorem toEdt_ex {xs : List Edt} (h : xs.length ≤ 10000000) : Ex (fun n => laws_toEditS n xs) (· = xs) := by
  unfold laws_toEditS
  refine Ex.guard (by omega) ?_
  refine Ex.bind (P := fun x => x = xs) ?_ (fun r hr => Ex.ret hr)
  refine copy_ex xs dedt (f := fun n ys i => laws_toEditS_L1 xs n ys i) ?_ ?_ _ (by simp)
  · intro k ys hk hy Q hQ
    simp only [laws_toEditS_L1, Int.toNat_natCast]
    refine Ex.yes (decide_eq_true (by omega)) (Ex.guard (by omega) ?_)
    have e : laws_toEdit (xs.getD k dedt) = some ((xs.getD k dedt).kind, (xs.getD k dedt).path, (xs.getD k dedt).value) := rfl
    rw [e, w64_succ (by omega)]
    exact Ex.guard (by omega) hQ
  · intro ys
    simp only [laws_toEditS_L1]
    exact Ex.no (decide_eq_false (by omega)) (Ex.ret rfl)

theorem eqEdt_ex {xs : List Edt} (h : xs.length ≤ 10000000) : Ex (fun n => laws_eqEditS n xs xs) (· = true) := by
  unfold laws_eqEditS
  refine Ex.no (by simp) (Ex.be (a := .inr ()) ?_ ?_)
  rotate_left
  · exact Ex.ret rfl
  refine skip_loop xs.length (f := fun n i => laws_eqEditS_L1 xs xs n i) ?_ ?_
  · intro k hk r hr
    simp only [laws_eqEditS_L1, Int.toNat_natCast]
    have e : laws_eqEdit (xs.getD k dedt) (xs.getD k dedt) = some true := by simp [laws_eqEdit, iteO_eq]
    rw [e, w64_succ (by omega)]
    exact Ex.yes (decide_eq_true (by omega)) (Ex.guard (by omega) (Ex.guard (by omega) (Ex.bc rfl (Ex.no rfl hr))))
  · simp only [laws_eqEditS_L1]
    exact Ex.no (decide_eq_false (by omega)) (Ex.ret rfl)
end Go.Proofs.Ythlfcfcfipahiaa
