/- Plain facts: rows of nodes are measured, copied, compared. Conditions: none. -/
import Derived.Test.YthlfcfcfipahiaaLA
namespace Go.Proofs.Ythlfcfcfipahiaa
open Go

theorem nod_wf {x : Nod} (h : RC.wf .nod x) : x.name.length ≤ 9223372036854775807 := by
  obtain ⟨_, ⟨s, hs, hl⟩, _⟩ := h
  cases hs
  exact hl

theorem szNodeS_ex {xs : List Nod} (hl : xs.length ≤ 9223372036854775807) (hx : ∀ x ∈ xs, RC.wf .nod x) {b : Int} (h0 : 0 ≤ b) (h1 : b ≤ 1048576) :
    Ex (fun n => laws_szNodeS n xs b) (fun r => r = -1 ∨ (0 ≤ r ∧ r ≤ b ∧ (xs.length : Int) ≤ b ∧ ∀ x ∈ xs, (x.name.length : Int) ≤ b)) := by
  unfold laws_szNodeS
  refine Ex.ite (fun _ => Ex.ret (.inl rfl)) (fun hb => ?_)
  have hb := of_decide_eq_false hb
  rw [w64_id (by omega) (by omega)] at hb ⊢
  refine Ex.bind (P := fun v => (match v with | .inl _ => -1 | .inr r => r) = -1 ∨ (0 ≤ (match v with | .inl _ => -1 | .inr r => r) ∧ (match v with | .inl _ => -1 | .inr r => r) ≤ b ∧ (xs.length : Int) ≤ b ∧ ∀ x ∈ xs, (x.name.length : Int) ≤ b)) ?_ ?_
  · refine up xs.length (fun k (c : Int) => 0 ≤ c ∧ c ≤ b ∧ ∀ j, j < k → ((xs.getD j dnod).name.length : Int) ≤ b) (f := fun n c i => laws_szNodeS_L1 xs n c i) ?_ ?_ 0 _ (Nat.zero_le _) ⟨by omega, by omega, fun j hj => by omega⟩
    · rintro k c hk ⟨h2, h3, h4⟩ next
      simp only [laws_szNodeS_L1, Int.toNat_natCast]
      refine Ex.yes (decide_eq_true (by omega)) (Ex.guard (by omega) ?_)
      have h5 := nod_wf (hx _ (getD_mem (d := dnod) hk))
      refine Ex.bind (P := fun r => r = -1 ∨ (0 ≤ r ∧ r ≤ c ∧ ((xs.getD k dnod).name.length : Int) ≤ c)) ?_ ?_
      · unfold laws_szNode
        refine Ex.ite (fun _ => Ex.ret (.inl rfl)) (fun hc => Ex.ret (.inr ?_))
        have hc := of_decide_eq_false hc
        rw [w64_id (by omega) (by omega)] at hc ⊢
        omega
      · rintro r (rfl | ⟨h6, h7, h8⟩)
        · exact Ex.yes (by decide) (Ex.ret (.inl rfl))
        · rw [w64_id (n := (k : Int) + 1) (by omega) (by omega)]
          refine Ex.no (decide_eq_false (by omega)) (next r ⟨h6, by omega, fun j hj => ?_⟩)
          rcases Nat.eq_or_lt_of_le (Nat.le_of_lt_succ hj) with rfl | h9
          · omega
          · exact h4 j h9
    · rintro c ⟨h2, h3, h4⟩
      simp only [laws_szNodeS_L1]
      refine Ex.no (decide_eq_false (by omega)) (Ex.ret (.inr ⟨h2, h3, by omega, fun x hx => ?_⟩))
      obtain ⟨i, hi, rfl⟩ := List.mem_iff_getElem.1 hx
      have := h4 i hi
      rwa [List.getD_eq_getElem?_getD, List.getElem?_eq_getElem hi] at this
  · intro v hv
    rcases v with u | r
    · exact Ex.ret hv
    · exact Ex.ret hv

/-- the opening of a law on rows of nodes -/
theorem Ex.szN {f : Nat → Int → Option Bool} {xs : List Nod} {b : Int} {P : Bool → Prop} (ht : P true) (h : xs.length ≤ 9223372036854775807 ∧ ∀ x ∈ xs, RC.wf .nod x) (h0 : 0 ≤ b) (h1 : b ≤ 1048576)
    (k : ∀ r, 0 ≤ r → r ≤ b → xs.length ≤ 1048576 → NL xs → Ex (fun n => f n r) P) :
    Ex (fun n => bindO (laws_szNodeS n xs b) fun i => iteO (decide (i < 0)) (some true) (f n i)) P := by
  refine Ex.bind (szNodeS_ex h.1 h.2 h0 h1) ?_
  rintro r (rfl | ⟨h2, h3, h4, h5⟩)
  · exact Ex.yes (by decide) (Ex.ret ht)
  · exact Ex.no (decide_eq_false (by omega)) (k r h2 h3 (by omega) ⟨by omega, fun x hx => by have := h5 x hx; omega⟩)

theorem toNod_ex {xs : List Nod} (h : xs.length ≤ 10000000) : Ex (fun n => laws_toNodeS n xs) (· = xs) := by
  unfold laws_toNodeS
  refine Ex.guard (by omega) ?_
  refine Ex.bind (P := fun x => x = xs) ?_ (fun r hr => Ex.ret hr)
  refine copy_ex xs dnod (f := fun n ys i => laws_toNodeS_L1 xs n ys i) ?_ ?_ _ (by simp)
  · intro k ys hk hy Q hQ
    simp only [laws_toNodeS_L1, Int.toNat_natCast]
    refine Ex.yes (decide_eq_true (by omega)) (Ex.guard (by omega) ?_)
    have e : laws_toNode (xs.getD k dnod) = some ((xs.getD k dnod).parent, (xs.getD k dnod).name, (xs.getD k dnod).value) := rfl
    rw [e, w64_succ (by omega)]
    exact Ex.guard (by omega) hQ
  · intro ys
    simp only [laws_toNodeS_L1]
    exact Ex.no (decide_eq_false (by omega)) (Ex.ret rfl)

theorem eqNod_ex {xs : List Nod} (h : xs.length ≤ 10000000) : Ex (fun n => laws_eqNodeS n xs xs) (· = true) := by
  unfold laws_eqNodeS
  refine Ex.no (by simp) (Ex.be (a := .inr ()) ?_ ?_)
  rotate_left
  · exact Ex.ret rfl
  refine skip_loop xs.length (f := fun n i => laws_eqNodeS_L1 xs xs n i) ?_ ?_
  · intro k hk r hr
    simp only [laws_eqNodeS_L1, Int.toNat_natCast]
    have e : laws_eqNode (xs.getD k dnod) (xs.getD k dnod) = some true := by simp [laws_eqNode, iteO_eq]
    rw [e, w64_succ (by omega)]
    exact Ex.yes (decide_eq_true (by omega)) (Ex.guard (by omega) (Ex.guard (by omega) (Ex.bc rfl (Ex.no rfl hr))))
  · simp only [laws_eqNodeS_L1]
    exact Ex.no (decide_eq_false (by omega)) (Ex.ret rfl)
end Go.Proofs.Ythlfcfcfipahiaa
