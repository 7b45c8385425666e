/- Plain facts: trees that differ in one node. Conditions: none. -/
import Derived.Test.YthlfcfcfipahiaaV3
namespace Go.Proofs.Ythlfcfcfipahiaa
open Go
set_option linter.unusedVariables false

/-- the value at a path -/
def M (t : List Nod) (l : List Str) : Option Int := (loo t l).map (va t)
theorem M_some {t : List Nod} (h : VT t) {l : List Str} {v : Int} : M t l = some v ↔ ∃ i, i < t.length ∧ np t i = l ∧ va t i = v := by
  rw [M, Option.map_eq_some_iff]
  constructor
  · rintro ⟨i, h1, h2⟩
    obtain ⟨h3, h4⟩ := (loo_iff h).1 h1
    exact ⟨i, h3, h4, h2⟩
  · rintro ⟨i, h1, h2, h3⟩
    exact ⟨i, (loo_iff h).2 ⟨h1, h2⟩, h3⟩
theorem M_none {t : List Nod} {l : List Str} : M t l = none ↔ loo t l = none := by rw [M, Option.map_eq_none_iff]
theorem M_ext {t u : List Nod} (h : VT t) (hu : VT u) {l : List Str} (h1 : ∀ v, M t l = some v → M u l = some v) (h2 : ∀ v, M u l = some v → M t l = some v) : M t l = M u l := by
  cases e : M t l with
  | some v => exact (h1 v e).symm
  | none =>
    cases e' : M u l with
    | none => rfl
    | some v => rw [h2 v e'] at e; cases e

/-- the same parents and names -/
theorem np_congr {t u : List Nod} {n : Nat} (h1 : ∀ i, i < n → pa u i = pa t i) (h2 : ∀ i, i < n → nmo u i = nmo t i) : ∀ i, i < n → np u i = np t i := by
  intro i
  induction i using Nat.strongRecOn with
  | ind i ih =>
    intro hi
    have e1 := h1 i hi
    have e2 := h2 i hi
    simp only [pa, nmo] at e1 e2
    rw [np.eq_1 u i, np.eq_1 t i, e1, e2]
    split
    · rename_i h; rw [ih _ h.2 (by omega)]
    · rfl
theorem dp_congr {t u : List Nod} {n : Nat} (h1 : ∀ i, i < n → pa u i = pa t i) (h2 : ∀ i, i < n → nmo u i = nmo t i) {i : Nat} (hi : i < n) : dp u i = dp t i := by
  rw [← np_len, ← np_len, np_congr h1 h2 i hi]

variable {t : List Nod}
/-- another value -/
def setT (t : List Nod) (k : Nat) (v : Int) : List Nod := t.set k ⟨pa t k, nmo t k, v⟩
theorem setT_len (k : Nat) (v : Int) : (setT t k v).length = t.length := by simp [setT]
theorem setT_at {k : Nat} (hk : k < t.length) (v : Int) (i : Nat) : (setT t k v).getD i dnod = if k = i then ⟨pa t k, nmo t k, v⟩ else t.getD i dnod := getD_set' hk i
theorem setT_pa {k : Nat} (hk : k < t.length) (v : Int) (i : Nat) : pa (setT t k v) i = pa t i := by
  rw [pa, setT_at hk]
  split
  · rename_i e; rw [e]
  · rfl
theorem setT_nm {k : Nat} (hk : k < t.length) (v : Int) (i : Nat) : nmo (setT t k v) i = nmo t i := by
  rw [nmo, setT_at hk]
  split
  · rename_i e; rw [e]
  · rfl
theorem setT_va {k : Nat} (hk : k < t.length) (v : Int) (i : Nat) : va (setT t k v) i = if k = i then v else va t i := by
  rw [va, setT_at hk]
  split <;> rfl
theorem setT_np {k : Nat} (hk : k < t.length) (v : Int) {i : Nat} (hi : i < t.length) : np (setT t k v) i = np t i := np_congr (n := t.length) (fun i _ => setT_pa hk v i) (fun i _ => setT_nm hk v i) i hi
theorem setT_VT (h : VT t) {k : Nat} (hk : k < t.length) {v : Int} (hv : -1000 ≤ v ∧ v ≤ 1000) : VT (setT t k v) := by
  refine ⟨by rw [setT_len]; exact h.lo, by rw [setT_len]; exact h.hi, fun i hi => ?_, by rw [setT_pa hk]; exact h.rp, by rw [setT_nm hk]; exact h.rn, fun i h0 hi => ?_, fun i h0 hi => ?_, fun i j h0 hij hj => ?_, fun i hi => ?_⟩ <;> rw [setT_len] at *
  · rw [setT_va hk]
    split
    · exact hv
    · exact h.val i hi
  · rw [setT_pa hk]; exact h.par i h0 hi
  · rw [setT_nm hk]; exact h.nam i h0 hi
  · rw [setT_pa hk, setT_pa hk, setT_nm hk, setT_nm hk]; exact h.sib i j h0 hij hj
  · rw [dp_congr (n := t.length) (fun i _ => setT_pa hk v i) (fun i _ => setT_nm hk v i) hi]; exact h.dep i hi
theorem setT_M (h : VT t) {k : Nat} (hk : k < t.length) {v : Int} (hv : -1000 ≤ v ∧ v ≤ 1000) (l : List Str) : M (setT t k v) l = if l = np t k then some v else M t l := by
  have h' := setT_VT h hk hv
  cases e : loo t l with
  | none =>
    rw [M_none.2 e, M_none.2 (loo_none.2 (fun i hi => ?_)), if_neg]
    · rintro rfl; rw [loo_np h hk] at e; cases e
    · rw [setT_len] at hi
      rw [setT_np hk v hi]; exact loo_none.1 e i hi
  | some i =>
    obtain ⟨h1, h2⟩ := (loo_iff h).1 e
    have e2 : loo (setT t k v) l = some i := (loo_iff h').2 ⟨by rw [setT_len]; exact h1, by rw [setT_np hk v h1]; exact h2⟩
    rw [M, M, e, e2]
    show some _ = _
    rw [setT_va hk]
    split
    · rename_i hki; subst hki; rw [if_pos h2.symm]
    · rename_i hki
      rw [if_neg (fun hl => hki (np_inj h k hk i h1 (by rw [← hl, h2])))]; rfl

/-- a node more -/
theorem app_at {x : Nod} {i : Nat} (hi : i < t.length) : (t ++ [x]).getD i dnod = t.getD i dnod := by
  rw [List.getD_eq_getElem?_getD, List.getElem?_append_left hi, List.getD_eq_getElem?_getD]
theorem app_last {x : Nod} : (t ++ [x]).getD t.length dnod = x := by
  rw [List.getD_eq_getElem?_getD, List.getElem?_append_right (Nat.le_refl _)]; simp
theorem app_np {x : Nod} {i : Nat} (hi : i < t.length) : np (t ++ [x]) i = np t i := np_congr (n := t.length) (fun i hi => by rw [pa, app_at hi]; rfl) (fun i hi => by rw [nmo, app_at hi]; rfl) i hi
theorem app_np_last {x : Nod} (h0 : 0 ≤ x.parent) (h1 : x.parent.toNat < t.length) : np (t ++ [x]) t.length = np t x.parent.toNat ++ [x.name] := by
  rw [np, app_last, dif_pos ⟨h0, h1⟩, app_np h1]
/-- when a node more fits -/
structure Fits (t : List Nod) (x : Nod) : Prop where
  room : t.length < 12
  val : -1000 ≤ x.value ∧ x.value ≤ 1000
  p0 : 0 ≤ x.parent
  p1 : x.parent.toNat < t.length
  nam : nameOk x.name = true
  new : loo t (np t x.parent.toNat ++ [x.name]) = none
  dep : (np t x.parent.toNat).length ≤ 3
theorem fits_iff (h : VT t) {x : Nod} : VT (t ++ [x]) ↔ Fits t x := by
  have hlo := h.lo
  constructor
  · intro h'
    have hl : t.length < (t ++ [x]).length := by simp
    have h1 := h'.hi
    simp only [List.length_append, List.length_singleton] at h1
    have h2 := h'.val t.length hl
    have h3 := h'.par t.length (by omega) hl
    have h4 := h'.nam t.length (by omega) hl
    have h5 := h'.dep t.length hl
    rw [va, app_last] at h2
    rw [pa, app_last] at h3
    rw [nmo, app_last] at h4
    rw [← np_len, app_np_last h3.1 h3.2] at h5
    simp only [List.length_append, List.length_singleton] at h5
    refine ⟨by omega, h2, h3.1, h3.2, h4, loo_none.2 (fun i hi e => ?_), by omega⟩
    have := np_inj h' i (by simp; omega) t.length hl (by rw [app_np hi, app_np_last h3.1 h3.2, e])
    omega
  · intro f
    have key : ∀ i, i < (t ++ [x]).length → i < t.length ∨ i = t.length := fun i hi => by simp at hi; omega
    refine ⟨by simp, by have := f.room; simp; omega, fun i hi => ?_, by rw [pa, app_at hlo]; exact h.rp, by rw [nmo, app_at hlo]; exact h.rn, fun i h0 hi => ?_, fun i h0 hi => ?_, fun i j h0 hij hj e => ?_, fun i hi => ?_⟩
    · rcases key i hi with h1 | rfl
      · rw [va, app_at h1]; exact h.val i h1
      · rw [va, app_last]; exact f.val
    · rcases key i hi with h1 | rfl
      · rw [pa, app_at h1]; exact h.par i h0 h1
      · rw [pa, app_last]; exact ⟨f.p0, f.p1⟩
    · rcases key i hi with h1 | rfl
      · rw [nmo, app_at h1]; exact h.nam i h0 h1
      · rw [nmo, app_last]; exact f.nam
    · rcases key j hj with h1 | rfl
      · rw [pa, app_at (by omega), pa, app_at h1] at e
        rw [nmo, app_at (by omega), nmo, app_at h1]
        exact h.sib i j h0 hij h1 e
      · rw [pa, app_at hij, pa, app_last] at e
        rw [nmo, app_at hij, nmo, app_last]
        intro e2
        refine loo_none.1 f.new i hij ?_
        rw [np_pos h h0 hij, pa, nmo, e, e2]
    · rcases key i hi with h1 | rfl
      · rw [← np_len, app_np h1, np_len]; exact h.dep i h1
      · have := f.dep
        rw [← np_len, app_np_last f.p0 f.p1]; simp; omega
theorem app_M (h : VT t) {x : Nod} (f : Fits t x) (l : List Str) : M (t ++ [x]) l = if l = np t x.parent.toNat ++ [x.name] then some x.value else M t l := by
  have h' := (fits_iff h).2 f
  split
  · rename_i e
    exact (M_some h').2 ⟨t.length, by simp, by rw [app_np_last f.p0 f.p1, e], by rw [va, app_last]⟩
  · rename_i hne
    cases e : M t l with
    | none =>
      rw [M_none, loo_none] at e ⊢
      intro i hi
      rcases Nat.lt_or_ge i t.length with h1 | h1
      · rw [app_np h1]; exact e i h1
      · have : i = t.length := by simp at hi; omega
        rw [this, app_np_last f.p0 f.p1]; exact Ne.symm hne
    | some v =>
      obtain ⟨i, h1, h2, h3⟩ := (M_some h).1 e
      exact (M_some h').2 ⟨i, by simp; omega, by rw [app_np h1, h2], by rw [va, app_at h1]; exact h3⟩

/-- what stays when a node is dropped -/
def kept (t : List Nod) (k j : Nat) : Bool := !decide (k ∈ ix t j)
def cnt (t : List Nod) (k j : Nat) : Nat := ((List.range j).filter (kept t k)).length
def moved (t : List Nod) (k j : Nat) : Nod := ⟨if 0 < j then (cnt t k (pa t j).toNat : Int) else pa t j, nmo t j, va t j⟩
def dropT (t : List Nod) (k : Nat) : List Nod := ((List.range t.length).filter (kept t k)).map (moved t k)

theorem ix_le (t : List Nod) : ∀ i, ∀ k ∈ ix t i, k ≤ i := by
  intro i
  induction i using Nat.strongRecOn with
  | ind i ih =>
    intro k hk
    rw [ix] at hk
    split at hk
    · rename_i h
      rcases List.mem_append.1 hk with h1 | h1
      · have := ih _ h.2 k h1; omega
      · rw [List.mem_singleton.1 h1]; exact Nat.le_refl _
    · rw [List.mem_singleton.1 hk]; exact Nat.le_refl _
theorem ix_self (t : List Nod) (i : Nat) : i ∈ ix t i := by
  rw [ix]; split <;> simp
theorem mem_ix (h : VT t) : ∀ i, i < t.length → ∀ k, k < t.length → (k ∈ ix t i ↔ np t k <+: np t i) := by
  intro i
  induction i using Nat.strongRecOn with
  | ind i ih =>
    intro hi k hk
    rcases Nat.eq_zero_or_pos i with rfl | h0
    · rw [np_zero h, List.prefix_nil]
      constructor
      · intro h1
        have := ix_le t 0 k h1
        rw [show k = 0 by omega, np_zero h]
      · intro e
        have := np_inj h k hk 0 hi (by rw [e, np_zero h])
        rw [this]; exact ix_self t 0
    · have p := h.par i h0 hi
      rw [ix_pos h h0 hi, List.mem_append, ih _ p.2 (by omega) k hk, np_pos h h0 hi, List.prefix_concat_iff, ← np_pos h h0 hi, List.mem_singleton]
      constructor
      · rintro (h1 | rfl)
        · exact .inr h1
        · exact .inl rfl
      · rintro (h1 | h1)
        · exact .inr (np_inj h k hk i hi h1)
        · exact .inl h1
theorem kept_iff (h : VT t) {k j : Nat} (hk : k < t.length) (hj : j < t.length) : kept t k j = true ↔ ¬ np t k <+: np t j := by
  rw [kept, Bool.not_eq_true', decide_eq_false_iff_not, mem_ix h j hj k hk]
theorem cnt_succ (t : List Nod) (k j : Nat) : cnt t k (j + 1) = cnt t k j + (if kept t k j = true then 1 else 0) := by
  rw [cnt, cnt, List.range_succ, List.filter_append, List.length_append, List.filter_cons]
  split <;> rfl
theorem cnt_mono (t : List Nod) (k : Nat) : ∀ {i j : Nat}, i ≤ j → cnt t k i ≤ cnt t k j := by
  intro i j hij
  induction j with
  | zero => rw [show i = 0 by omega]; exact Nat.le_refl _
  | succ j ih =>
    rcases Nat.eq_or_lt_of_le hij with rfl | h
    · exact Nat.le_refl _
    · have := ih (by omega); rw [cnt_succ]; omega
theorem cnt_lt {k i j : Nat} (hij : i < j) (hk : kept t k i = true) : cnt t k i < cnt t k j := by
  have := cnt_mono t k (show i + 1 ≤ j from hij)
  rw [cnt_succ, if_pos hk] at this; omega
theorem cnt_le (t : List Nod) (k j : Nat) : cnt t k j ≤ j := by
  have := List.length_filter_le (kept t k) (List.range j)
  simpa [cnt] using this
theorem keep_at {k n j : Nat} (hj : j < n) (hk : kept t k j = true) : ((List.range n).filter (kept t k))[cnt t k j]? = some j := by
  induction n with
  | zero => omega
  | succ n ih =>
    rw [List.range_succ, List.filter_append]
    rcases Nat.eq_or_lt_of_le (Nat.le_of_lt_succ hj) with rfl | h
    · rw [List.getElem?_append_right (by rw [cnt]; exact Nat.le_refl _)]
      rw [List.filter_cons, if_pos hk]
      rw [show cnt t k j - ((List.range j).filter (kept t k)).length = 0 by rw [cnt]; omega]; rfl
    · rw [List.getElem?_append_left (by have := cnt_lt (t := t) h hk; rw [cnt, cnt] at this; exact this)]
      exact ih h
theorem keep_ex {k n m : Nat} (hm : m < cnt t k n) : ∃ j, j < n ∧ kept t k j = true ∧ cnt t k j = m := by
  induction n with
  | zero => rw [cnt] at hm; simp at hm
  | succ n ih =>
    rw [cnt_succ] at hm
    by_cases h : m < cnt t k n
    · obtain ⟨j, h1, h2, h3⟩ := ih h
      exact ⟨j, by omega, h2, h3⟩
    · split at hm
      · rename_i hk; exact ⟨n, by omega, hk, by omega⟩
      · omega
theorem dropT_len (k : Nat) : (dropT t k).length = cnt t k t.length := by rw [dropT, List.length_map]; rfl
theorem dropT_at {k j : Nat} (hj : j < t.length) (hk : kept t k j = true) : (dropT t k).getD (cnt t k j) dnod = moved t k j := by
  rw [List.getD_eq_getElem?_getD, dropT, List.getElem?_map, keep_at hj hk]; rfl
theorem kept_up (h : VT t) {k j : Nat} (h0 : 0 < j) (hj : j < t.length) (hk : kept t k j = true) : kept t k (pa t j).toNat = true := by
  simp only [kept, Bool.not_eq_true', decide_eq_false_iff_not] at hk ⊢
  intro h1
  exact hk (by rw [ix_pos h h0 hj]; exact List.mem_append_left _ h1)
theorem kept0 (h : VT t) {k : Nat} (hk0 : 0 < k) : kept t k 0 = true := by
  simp only [kept, Bool.not_eq_true', decide_eq_false_iff_not]
  intro h1
  have := ix_le t 0 k h1; omega
theorem cnt0 (t : List Nod) (k : Nat) : cnt t k 0 = 0 := rfl
theorem dropT_np (h : VT t) {k : Nat} (hk0 : 0 < k) : ∀ j, j < t.length → kept t k j = true → np (dropT t k) (cnt t k j) = np t j := by
  intro j
  induction j using Nat.strongRecOn with
  | ind j ih =>
    intro hj hk
    rcases Nat.eq_zero_or_pos j with rfl | h0
    · rw [cnt0, np, dif_neg (by omega), np_zero h]
    · have p := h.par j h0 hj
      have hu := kept_up h h0 hj hk
      rw [np, dropT_at hj hk]
      have e : (moved t k j).parent = (cnt t k (pa t j).toNat : Int) := by rw [moved, if_pos h0]
      rw [dif_pos ⟨by rw [e]; omega, by rw [e, Int.toNat_natCast]; exact cnt_lt p.2 hu⟩]
      simp only [e, Int.toNat_natCast]
      rw [ih _ p.2 (by omega) hu, np_pos h h0 hj]; rfl
theorem dropT_ex {k m : Nat} (hm : m < (dropT t k).length) : ∃ j, j < t.length ∧ kept t k j = true ∧ cnt t k j = m := keep_ex (by rwa [dropT_len] at hm)
theorem dropT_VT (h : VT t) {k : Nat} (hk0 : 0 < k) : VT (dropT t k) := by
  have hlo := h.lo
  have hhi := h.hi
  have hk00 := kept0 h hk0
  have at0 : (dropT t k).getD 0 dnod = moved t k 0 := by have := dropT_at hlo hk00; rwa [cnt0] at this
  refine ⟨?_, ?_, fun i hi => ?_, ?_, ?_, fun i h0 hi => ?_, fun i h0 hi => ?_, fun i j h0 hij hj e => ?_, fun i hi => ?_⟩
  · rw [dropT_len]
    have := cnt_lt (t := t) hlo hk00
    omega
  · rw [dropT_len]; have := cnt_le t k t.length; omega
  · obtain ⟨j, h1, h2, rfl⟩ := dropT_ex hi
    rw [va, dropT_at h1 h2]; exact h.val j h1
  · rw [pa, at0]; exact h.rp
  · rw [nmo, at0]; exact h.rn
  · obtain ⟨j, h1, h2, rfl⟩ := dropT_ex hi
    have hj0 : 0 < j := by
      rcases Nat.eq_zero_or_pos j with rfl | h
      · rw [cnt0] at h0; omega
      · exact h
    rw [pa, dropT_at h1 h2, moved, if_pos hj0]
    have p := h.par j hj0 h1
    exact ⟨by simp only; omega, by simp only [Int.toNat_natCast]; exact cnt_lt p.2 (kept_up h hj0 h1 h2)⟩
  · obtain ⟨j, h1, h2, rfl⟩ := dropT_ex hi
    have hj0 : 0 < j := by
      rcases Nat.eq_zero_or_pos j with rfl | h
      · rw [cnt0] at h0; omega
      · exact h
    rw [nmo, dropT_at h1 h2]; exact h.nam j hj0 h1
  · obtain ⟨a, a1, a2, rfl⟩ := dropT_ex (show i < (dropT t k).length by omega)
    obtain ⟨b, b1, b2, rfl⟩ := dropT_ex hj
    have ha0 : 0 < a := by
      rcases Nat.eq_zero_or_pos a with rfl | h
      · rw [cnt0] at h0; omega
      · exact h
    have hab : a < b := by
      rcases Nat.lt_or_ge a b with h | h
      · exact h
      · have := cnt_mono t k h; omega
    have pA := h.par a ha0 a1
    have pB := h.par b (by omega) b1
    rw [pa, dropT_at a1 a2, pa, dropT_at b1 b2, moved, moved, if_pos ha0, if_pos (by omega)] at e
    simp only at e
    rw [nmo, dropT_at a1 a2, nmo, dropT_at b1 b2]
    refine h.sib a b ha0 hab b1 ?_
    have uA := kept_up h ha0 a1 a2
    have uB := kept_up h (show 0 < b by omega) b1 b2
    rcases Nat.lt_trichotomy (pa t a).toNat (pa t b).toNat with h3 | h3 | h3
    · have := cnt_lt h3 uA; omega
    · omega
    · have := cnt_lt h3 uB; omega
  · obtain ⟨j, h1, h2, rfl⟩ := dropT_ex hi
    rw [← np_len, dropT_np h hk0 j h1 h2, np_len]; exact h.dep j h1
theorem dropT_M (h : VT t) {k : Nat} (hk0 : 0 < k) (hk : k < t.length) (l : List Str) : M (dropT t k) l = if np t k <+: l then none else M t l := by
  have h' := dropT_VT h hk0
  have key : ∀ v, M (dropT t k) l = some v ↔ (¬ np t k <+: l ∧ M t l = some v) := by
    intro v
    rw [M_some h', M_some h]
    constructor
    · rintro ⟨m, h1, h2, h3⟩
      obtain ⟨j, j1, j2, rfl⟩ := dropT_ex h1
      rw [dropT_np h hk0 j j1 j2] at h2
      rw [va, dropT_at j1 j2] at h3
      exact ⟨by rw [← h2]; exact (kept_iff h hk j1).1 j2, j, j1, h2, h3⟩
    · rintro ⟨h0, j, j1, j2, j3⟩
      have hkj : kept t k j = true := (kept_iff h hk j1).2 (by rw [j2]; exact h0)
      refine ⟨cnt t k j, by rw [dropT_len]; exact cnt_lt j1 hkj, by rw [dropT_np h hk0 j j1 hkj, j2], by rw [va, dropT_at j1 hkj]; exact j3⟩
  split
  · rename_i hp
    cases e : M (dropT t k) l with
    | none => rfl
    | some v => exact absurd hp ((key v).1 e).1
  · rename_i hp
    cases e : M t l with
    | some v => exact (key v).2 ⟨hp, e⟩
    | none =>
      cases e' : M (dropT t k) l with
      | none => rfl
      | some v => rw [((key v).1 e').2] at e; cases e

/-- the same paths and values -/
theorem M_va (h : VT t) {i : Nat} (hi : i < t.length) : M t (np t i) = some (va t i) := (M_some h).2 ⟨i, hi, rfl, rfl⟩
theorem np_nodup (h : VT t) : ((List.range t.length).map (np t)).Nodup := by
  refine List.pairwise_map.2 (List.Pairwise.imp_of_mem (fun {a b} ha hb hab => ?_) List.nodup_range)
  intro e
  exact hab (np_inj h a (by simpa using ha) b (by simpa using hb) e)
theorem M_len {a b : List Nod} (ha : VT a) (hb : VT b) (h : ∀ l v, M a l = some v → ∃ v', M b l = some v') : a.length ≤ b.length := by
  have := len_sub (np_nodup ha) (l' := (List.range b.length).map (np b)) (fun x hx => by
    obtain ⟨i, hi, rfl⟩ := List.mem_map.1 hx
    obtain ⟨v', hv⟩ := h _ _ (M_va ha (by simpa using hi))
    obtain ⟨j, j1, j2, _⟩ := (M_some hb).1 hv
    exact List.mem_map.2 ⟨j, by simpa using j1, j2⟩)
  simpa using this
theorem sameP_M {a b : List Nod} (ha : VT a) (hb : VT b) : sameP a b ↔ ∀ l, M a l = M b l := by
  constructor
  · rintro ⟨hl, h⟩
    have h1 : ∀ l v, M a l = some v → M b l = some v := by
      intro l v hv
      obtain ⟨i, i1, rfl, i3⟩ := (M_some ha).1 hv
      obtain ⟨m, m1, m2⟩ := h i i1
      rw [M, m1, ← i3, m2]; rfl
    intro l
    refine M_ext ha hb (h1 l) (fun v hv => ?_)
    rcases Classical.em (M a l = some v) with e | e
    · exact e
    · -- the paths of a and l would be more than the paths of b
      have hna : M a l = none := by
        cases e2 : M a l with
        | none => rfl
        | some w => rw [h1 l w e2] at hv; rw [e2, hv] at e; exact absurd rfl e
      obtain ⟨j, j1, j2, _⟩ := (M_some hb).1 hv
      have hn : (l :: (List.range a.length).map (np a)).Nodup := by
        refine List.nodup_cons.2 ⟨fun hm => ?_, np_nodup ha⟩
        obtain ⟨i, hi, e3⟩ := List.mem_map.1 hm
        have := M_va ha (show i < a.length by simpa using hi)
        rw [e3, hna] at this; cases this
      have := len_sub hn (l' := (List.range b.length).map (np b)) (fun x hx => by
        rcases List.mem_cons.1 hx with rfl | hx
        · exact List.mem_map.2 ⟨j, by simpa using j1, j2⟩
        · obtain ⟨i, hi, rfl⟩ := List.mem_map.1 hx
          obtain ⟨m, m1, m2⟩ := h i (by simpa using hi)
          obtain ⟨m3, m4⟩ := (loo_iff hb).1 m1
          exact List.mem_map.2 ⟨m, by simpa using m3, m4⟩)
      simp at this
      omega
  · intro h
    have l1 := M_len ha hb (fun l v e => ⟨v, by rw [← h]; exact e⟩)
    have l2 := M_len hb ha (fun l v e => ⟨v, by rw [h]; exact e⟩)
    refine ⟨by omega, fun n hn => ?_⟩
    have := M_va ha hn
    rw [h] at this
    obtain ⟨j, j1, j2, j3⟩ := (M_some hb).1 this
    exact ⟨j, (loo_iff hb).2 ⟨j1, j2⟩, j3.symm⟩
end Go.Proofs.Ythlfcfcfipahiaa
