/- Plain facts: valid trees, the names on the way to a node. Conditions: none. -/
import Derived.Test.YthlfcfcfipahiaaV0
namespace Go.Proofs.Ythlfcfcfipahiaa
open Go
set_option linter.unusedVariables false

def pa (t : List Nod) (i : Nat) : Int := (t.getD i dnod).parent
def nmo (t : List Nod) (i : Nat) : Str := (t.getD i dnod).name
def va (t : List Nod) (i : Nat) : Int := (t.getD i dnod).value

structure VT (t : List Nod) : Prop where
  lo : 1 ≤ t.length
  hi : t.length ≤ 12
  val : ∀ i, i < t.length → -1000 ≤ va t i ∧ va t i ≤ 1000
  rp : pa t 0 = -1
  rn : nmo t 0 = []
  par : ∀ i, 0 < i → i < t.length → 0 ≤ pa t i ∧ (pa t i).toNat < i
  nam : ∀ i, 0 < i → i < t.length → nameOk (nmo t i) = true
  sib : ∀ i j, 0 < i → i < j → j < t.length → pa t i = pa t j → nmo t i ≠ nmo t j
  dep : ∀ i, i < t.length → dp t i ≤ 4

theorem take_any {t : List Nod} {i : Nat} {q : Nod → Bool} (hi : i ≤ t.length) : (t.take i).any q = true ↔ ∃ j, j < i ∧ q (t.getD j dnod) = true := by
  rw [List.any_eq_true]
  constructor
  · rintro ⟨x, hx, hq⟩
    obtain ⟨j, hj, rfl⟩ := List.mem_iff_getElem.1 hx
    have hj' : j < i := by simp at hj; omega
    refine ⟨j, hj', ?_⟩
    rw [List.getElem_take] at hq
    rwa [List.getD_eq_getElem?_getD, List.getElem?_eq_getElem (by omega)]
  · rintro ⟨j, hj, hq⟩
    refine ⟨t.getD j dnod, ?_, hq⟩
    rw [List.getD_eq_getElem?_getD, List.getElem?_eq_getElem (by omega : j < t.length)]
    show t[j] ∈ t.take i
    rw [List.mem_take_iff_getElem]
    exact ⟨j, by omega, rfl⟩

theorem validT_iff {t : List Nod} : validT t = true ↔ VT t := by
  constructor
  · intro h
    simp only [validT, Bool.and_eq_true, decide_eq_true_eq] at h
    obtain ⟨⟨h1, h2⟩, h3⟩ := h
    have h3 := all_range.1 h3
    have h4 : ∀ i, 0 < i → i < t.length → rv (va t i) = true ∧ (0 ≤ pa t i ∧ pa t i ≤ (i : Int) - 1) ∧ nameOk (nmo t i) = true ∧ (t.take i).any (Go.Proofs.Ythlfcfcfipahiaa.sib (pa t i) (nmo t i)) = false ∧ dp t i ≤ 4 := by
      intro i h0 hi
      have := h3 i hi
      rw [nodeOk, if_neg (by omega)] at this
      simp only [Bool.and_eq_true, decide_eq_true_eq] at this
      exact ⟨this.1, this.2.1, this.2.2.1, notT this.2.2.2.1, this.2.2.2.2⟩
    have h5 := h3 0 (by omega)
    rw [nodeOk, if_pos rfl] at h5
    simp only [Bool.and_eq_true, decide_eq_true_eq] at h5
    have hr : ∀ i, i < t.length → rv (va t i) = true := by
      intro i hi
      rcases Nat.eq_zero_or_pos i with rfl | h0
      · exact h5.1
      · exact (h4 i h0 hi).1
    refine ⟨h1, h2, fun i hi => ?_, h5.2.1, h5.2.2, fun i h0 hi => ?_, fun i h0 hi => (h4 i h0 hi).2.2.1, fun i j h0 hij hj e1 e2 => ?_, fun i hi => ?_⟩
    · have := hr i hi
      simp only [rv, Bool.and_eq_true, decide_eq_true_eq] at this
      exact this
    · have := (h4 i h0 hi).2.1; omega
    · have := (h4 j (by omega) hj).2.2.2.1
      rw [← Bool.not_eq_true, take_any (by omega)] at this
      refine this ⟨i, hij, ?_⟩
      simp only [Go.Proofs.Ythlfcfcfipahiaa.sib, Bool.and_eq_true, decide_eq_true_eq]
      exact ⟨e1, e2⟩
    · rcases Nat.eq_zero_or_pos i with rfl | h0
      · rw [dp, dif_neg (by have := h5.2.1; omega)]; omega
      · exact (h4 i h0 hi).2.2.2.2
  · intro h
    have := h.lo
    have := h.hi
    simp only [validT, Bool.and_eq_true, decide_eq_true_eq]
    refine ⟨⟨by omega, by omega⟩, all_range.2 fun i hi => ?_⟩
    have hv : rv (t.getD i dnod).value = true := by
      have := h.val i hi
      simp only [rv, Bool.and_eq_true, decide_eq_true_eq]
      exact this
    rw [nodeOk, hv, Bool.true_and]
    split
    · rename_i e
      subst e
      have := h.rp
      have := h.rn
      simp only [Bool.and_eq_true, decide_eq_true_eq]
      exact ⟨h.rp, h.rn⟩
    · rename_i e
      have h1 := h.par i (by omega) hi
      simp only [pa] at h1
      simp only [Bool.and_eq_true, decide_eq_true_eq]
      refine ⟨by omega, h.nam i (by omega) hi, ?_, h.dep i hi⟩
      rw [Bool.not_eq_true', ← Bool.not_eq_true, take_any (by omega)]
      rintro ⟨j, hj, hq⟩
      simp only [Go.Proofs.Ythlfcfcfipahiaa.sib, Bool.and_eq_true, decide_eq_true_eq] at hq
      rcases Nat.eq_zero_or_pos j with rfl | h0
      · have := h.rp; simp only [pa] at this; omega
      · exact h.sib j i h0 hj hi hq.1 hq.2

/-- the names on the way to a node -/
def np (t : List Nod) (i : Nat) : List Str :=
  if h : 0 ≤ (t.getD i dnod).parent ∧ (t.getD i dnod).parent.toNat < i then np t (t.getD i dnod).parent.toNat ++ [(t.getD i dnod).name] else []
termination_by i
decreasing_by exact h.2
/-- the nodes on the way to a node -/
def ix (t : List Nod) (i : Nat) : List Nat :=
  if h : 0 ≤ (t.getD i dnod).parent ∧ (t.getD i dnod).parent.toNat < i then ix t (t.getD i dnod).parent.toNat ++ [i] else [i]
termination_by i
decreasing_by exact h.2

theorem np_ix {t : List Nod} : ∀ i, (ix t i).map (nmo t) = nmo t ((ix t i).headD 0) :: np t i ∧ (ix t i).length = dp t i + 1 := by
  intro i
  induction i using Nat.strongRecOn with
  | ind i ih =>
    rw [ix, np, dp]
    split
    · rename_i h
      obtain ⟨h1, h2⟩ := ih _ h.2
      refine ⟨?_, by rw [List.length_append, h2]; rfl⟩
      rw [List.map_append, h1, List.cons_append]
      have : (ix t (t.getD i dnod).parent.toNat ++ [i]).headD 0 = (ix t (t.getD i dnod).parent.toNat).headD 0 := by
        cases hx : ix t (t.getD i dnod).parent.toNat with
        | nil => rw [hx] at h2; simp at h2
        | cons a l => rfl
      rw [this]
      rfl
    · exact ⟨rfl, rfl⟩

variable {t : List Nod}
theorem np_zero (h : VT t) : np t 0 = [] := by
  rw [np, dif_neg (by omega)]
theorem np_pos (h : VT t) {i : Nat} (h0 : 0 < i) (hi : i < t.length) : np t i = np t (pa t i).toNat ++ [nmo t i] := by
  have := h.par i h0 hi
  simp only [pa] at this
  rw [np, dif_pos this]; rfl
theorem dp_pos (h : VT t) {i : Nat} (h0 : 0 < i) (hi : i < t.length) : dp t i = dp t (pa t i).toNat + 1 := by
  have := h.par i h0 hi
  simp only [pa] at this
  rw [dp, dif_pos this]; rfl
theorem ix_pos (h : VT t) {i : Nat} (h0 : 0 < i) (hi : i < t.length) : ix t i = ix t (pa t i).toNat ++ [i] := by
  have := h.par i h0 hi
  simp only [pa] at this
  rw [ix, dif_pos this]; rfl
theorem np_len : ∀ i, (np t i).length = dp t i := by
  intro i
  induction i using Nat.strongRecOn with
  | ind i ih =>
    rw [np, dp]
    split
    · rename_i h; rw [List.length_append, ih _ h.2]; rfl
    · rfl
theorem np_inj (h : VT t) : ∀ i, i < t.length → ∀ j, j < t.length → np t i = np t j → i = j := by
  intro i
  induction i using Nat.strongRecOn with
  | ind i ih =>
    intro hi j hj e
    rcases Nat.eq_zero_or_pos i with rfl | hi0
    · rcases Nat.eq_zero_or_pos j with rfl | hj0
      · rfl
      · rw [np_zero h, np_pos h hj0 hj] at e; simp at e
    · rcases Nat.eq_zero_or_pos j with rfl | hj0
      · rw [np_zero h, np_pos h hi0 hi] at e; simp at e
      · rw [np_pos h hi0 hi, np_pos h hj0 hj] at e
        have e1 := List.append_inj' e rfl
        have e2 : nmo t i = nmo t j := by simpa using e1.2
        have p1 := h.par i hi0 hi
        have p2 := h.par j hj0 hj
        have e3 := ih _ p1.2 (by omega) _ (by omega) e1.1
        have e4 : pa t i = pa t j := by omega
        rcases Nat.lt_trichotomy i j with hlt | rfl | hlt
        · exact absurd e2 (h.sib i j hi0 hlt hj e4)
        · rfl
        · exact absurd e2.symm (h.sib j i hj0 hlt hi e4.symm)
theorem np_names (h : VT t) : ∀ i, i < t.length → ∀ s ∈ np t i, nameOk s = true := by
  intro i
  induction i using Nat.strongRecOn with
  | ind i ih =>
    intro hi s hs
    rcases Nat.eq_zero_or_pos i with rfl | hi0
    · rw [np_zero h] at hs; cases hs
    · rw [np_pos h hi0 hi] at hs
      rcases List.mem_append.1 hs with h1 | h1
      · have := h.par i hi0 hi
        exact ih _ this.2 (by omega) s h1
      · rw [List.mem_singleton.1 h1]; exact h.nam i hi0 hi
/-- what is above lies in the tree -/
theorem np_up (h : VT t) : ∀ i, i < t.length → ∀ l l', np t i = l ++ l' → ∃ k, k ≤ i ∧ np t k = l := by
  intro i
  induction i using Nat.strongRecOn with
  | ind i ih =>
    intro hi l l' e
    rcases List.eq_nil_or_concat l' with rfl | ⟨m, x, rfl⟩
    · exact ⟨i, Nat.le_refl _, by simpa using e⟩
    · rcases Nat.eq_zero_or_pos i with rfl | hi0
      · rw [np_zero h] at e; simp at e
      · rw [np_pos h hi0 hi, List.concat_eq_append, ← List.append_assoc] at e
        have e1 := List.append_inj' e rfl
        have p1 := h.par i hi0 hi
        obtain ⟨k, k1, k2⟩ := ih _ p1.2 (by omega) l m e1.1
        exact ⟨k, by omega, k2⟩

/-- the node with names above it -/
def loo (t : List Nod) (l : List Str) : Option Nat := (List.range t.length).find? fun i => decide (np t i = l)
theorem loo_iff (h : VT t) {l : List Str} {i : Nat} : loo t l = some i ↔ i < t.length ∧ np t i = l := by
  unfold loo
  constructor
  · intro e
    have h1 := List.find?_some e
    have h2 := List.mem_of_find?_eq_some e
    exact ⟨by simpa using h2, by simpa using h1⟩
  · rintro ⟨h1, h2⟩
    cases e : (List.range t.length).find? fun i => decide (np t i = l) with
    | none =>
      rw [List.find?_eq_none] at e
      exact absurd (decide_eq_true h2) (e i (by simpa using h1))
    | some j =>
      have h3 := List.find?_some e
      have h4 := List.mem_of_find?_eq_some e
      rw [np_inj h j (by simpa using h4) i h1 (by rw [h2]; simpa using h3)]
theorem loo_none {l : List Str} : loo t l = none ↔ ∀ i, i < t.length → np t i ≠ l := by
  unfold loo
  rw [List.find?_eq_none]
  constructor
  · intro h i hi e
    exact h i (by simpa using hi) (by simpa using e)
  · intro h i hi
    have := h i (by simpa using hi)
    simpa using this
theorem loo_np (h : VT t) {i : Nat} (hi : i < t.length) : loo t (np t i) = some i := (loo_iff h).2 ⟨hi, rfl⟩

theorem firstAt_spec {α : Type} (q : α → Bool) (d : α) : ∀ (l : List α) (k : Nat), (firstAt q l k = -1 ∧ ∀ j, j < l.length → q (l.getD j d) = false) ∨ ∃ j, j < l.length ∧ firstAt q l k = ((k + j : Nat) : Int) ∧ q (l.getD j d) = true ∧ ∀ i, i < j → q (l.getD i d) = false
  | [], k => .inl ⟨rfl, fun j hj => by simp at hj⟩
  | x :: l, k => by
    rw [firstAt]
    cases hq : q x with
    | true => exact .inr ⟨0, by simp, by simp, by simpa using hq, fun i hi => by omega⟩
    | false =>
      rw [if_neg (by simp)]
      rcases firstAt_spec q d l (k + 1) with ⟨h1, h2⟩ | ⟨j, h1, h2, h3, h4⟩
      · refine .inl ⟨h1, fun j hj => ?_⟩
        cases j with
        | zero => simpa using hq
        | succ j => simpa using h2 j (by simpa using hj)
      · refine .inr ⟨j + 1, by simpa using h1, by rw [h2]; omega, by simpa using h3, fun i hi => ?_⟩
        cases i with
        | zero => simpa using hq
        | succ i => simpa using h4 i (by omega)

/-- going down by names -/
def desc (t : List Nod) : Int → List Str → Int
  | a, [] => a
  | a, n :: ns => if firstAt (sib a n) t 0 < 0 then -1 else desc t (firstAt (sib a n) t 0) ns
theorem kid_spec (h : VT t) {a : Nat} {n : Str} (ha : a < t.length) : (firstAt (sib a n) t 0 = -1 ∧ loo t (np t a ++ [n]) = none) ∨ ∃ k, k < t.length ∧ firstAt (sib a n) t 0 = (k : Int) ∧ np t k = np t a ++ [n] := by
  rcases firstAt_spec (sib a n) dnod t 0 with ⟨h1, h2⟩ | ⟨j, h1, h2, h3, h4⟩
  · refine .inl ⟨h1, loo_none.2 fun i hi e => ?_⟩
    rcases Nat.eq_zero_or_pos i with rfl | hi0
    · rw [np_zero h] at e; simp at e
    · rw [np_pos h hi0 hi] at e
      have e1 := List.append_inj' e rfl
      have p1 := h.par i hi0 hi
      have e2 := np_inj h _ (by omega) _ ha e1.1
      have := h2 i hi
      rw [sib, decide_eq_true (by have : pa t i = (a : Int) := by omega
                                  exact this), decide_eq_true (by have := e1.2; simp at this; exact this)] at this
      simp at this
  · rw [Nat.zero_add] at h2
    refine .inr ⟨j, h1, h2, ?_⟩
    simp only [sib, Bool.and_eq_true, decide_eq_true_eq] at h3
    have hj : 0 < j := by
      rcases Nat.eq_zero_or_pos j with rfl | hj0
      · have := h.rp; rw [pa] at this; omega
      · exact hj0
    rw [np_pos h hj h1]
    have e : (pa t j).toNat = a := by rw [pa]; omega
    rw [e]; congr 2; exact h3.2
theorem desc_spec (h : VT t) : ∀ (ns : List Str) (a : Nat), a < t.length → desc t a ns = (match loo t (np t a ++ ns) with | some k => (k : Int) | none => -1)
  | [], a, ha => by
    rw [List.append_nil, loo_np h ha]; rfl
  | n :: ns, a, ha => by
    rw [desc]
    rcases kid_spec h (n := n) ha with ⟨h1, h2⟩ | ⟨k, h1, h2, h3⟩
    · rw [h1, if_pos (by omega)]
      have : loo t (np t a ++ n :: ns) = none := by
        rw [loo_none]
        intro i hi e
        have e' : np t i = (np t a ++ [n]) ++ ns := by rw [e]; simp
        obtain ⟨k, hk, hk2⟩ := np_up h i hi _ _ e'
        exact loo_none.1 h2 k (by omega) hk2
      rw [this]
    · rw [h2, if_neg (by omega), desc_spec h ns k h1, h3, List.append_assoc]; rfl
end Go.Proofs.Ythlfcfcfipahiaa
