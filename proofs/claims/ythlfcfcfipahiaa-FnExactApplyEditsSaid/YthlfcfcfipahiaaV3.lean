/- Plain facts: the order in which a tree is walked. Conditions: none. -/
import Derived.Test.YthlfcfcfipahiaaV2
namespace Go.Proofs.Ythlfcfcfipahiaa
open Go
set_option linter.unusedVariables false

theorem lt_left (l : List Str) (a b : List Str) : (l ++ a < l ++ b) ↔ a < b := by
  induction l with
  | nil => rfl
  | cons x l ih =>
    rw [List.cons_append, List.cons_append, List.cons_lt_cons_iff, ih]
    constructor
    · rintro (h | h)
      · exact absurd h (List.lt_irrefl x)
      · exact h.2
    · exact fun h => .inr ⟨rfl, h⟩
theorem lt_prefix (l : List Str) {a : List Str} (h : a ≠ []) : l < l ++ a := by
  have := (lt_left l [] a).2 (by cases a with
    | nil => exact absurd rfl h
    | cons x a => exact List.nil_lt_cons x a)
  rwa [List.append_nil] at this

theorem uniq_sorted {α : Type} {r : α → α → Prop} (ir : ∀ a, ¬ r a a) (tr : ∀ a b c, r a b → r b c → r a c) : ∀ {l l' : List α}, l.Pairwise r → l'.Pairwise r → (∀ x, x ∈ l ↔ x ∈ l') → l = l'
  | [], [], _, _, _ => rfl
  | [], y :: l', _, _, h => by have := (h y).2 (by simp); cases this
  | x :: l, [], _, _, h => by have := (h x).1 (by simp); cases this
  | x :: l, y :: l', h1, h2, h => by
    rw [List.pairwise_cons] at h1 h2
    have e : x = y := by
      rcases List.mem_cons.1 ((h x).1 (by simp)) with e | h3
      · exact e
      · rcases List.mem_cons.1 ((h y).2 (by simp)) with e | h4
        · exact e.symm
        · exact absurd (tr _ _ _ (h1.1 y h4) (h2.1 x h3)) (ir x)
    subst e
    congr 1
    refine uniq_sorted ir tr h1.2 h2.2 (fun z => ⟨fun hz => ?_, fun hz => ?_⟩)
    · rcases List.mem_cons.1 ((h z).1 (by simp [hz])) with rfl | h3
      · exact absurd (h1.1 z hz) (ir z)
      · exact h3
    · rcases List.mem_cons.1 ((h z).2 (by simp [hz])) with rfl | h3
      · exact absurd (h2.1 z hz) (ir z)
      · exact h3
theorem len_sub {α : Type} [DecidableEq α] : ∀ {l l' : List α}, l.Nodup → (∀ x ∈ l, x ∈ l') → l.length ≤ l'.length
  | [], _, _, _ => by simp
  | x :: l, l', h, hs => by
    rw [List.nodup_cons] at h
    have hx := hs x (by simp)
    have := len_sub (l := l) (l' := l'.erase x) h.2 (fun y hy => by
      have hne : y ≠ x := by rintro rfl; exact h.1 hy
      exact (List.mem_erase_of_ne hne).2 (hs y (by simp [hy])))
    rw [List.length_erase_of_mem hx] at this
    have := List.length_pos_of_mem hx
    simp only [List.length_cons]; omega

/-- the nodes in a node -/
def kd (t : List Nod) (i : Nat) : List Nat := (List.range t.length).filter fun j => decide (pa t j = (i : Int))
def nle (t : List Nod) (a b : Nat) : Bool := decide (nmo t a ≤ nmo t b)
/-- by names -/
def ks (t : List Nod) (i : Nat) : List Nat := (kd t i).mergeSort (nle t)
/-- a node and all below it -/
def wk (t : List Nod) : Nat → Nat → List Nat
  | 0, i => [i]
  | f + 1, i => i :: (ks t i).flatMap (wk t f)

variable {t : List Nod}
theorem mem_kd {i j : Nat} : j ∈ kd t i ↔ j < t.length ∧ pa t j = i := by simp [kd]
theorem mem_ks {i j : Nat} : j ∈ ks t i ↔ j < t.length ∧ pa t j = i := by
  rw [ks, (List.mergeSort_perm _ _).mem_iff, mem_kd]
theorem kd_pos (h : VT t) {i j : Nat} (hj : j < t.length) (hp : pa t j = (i : Int)) : i < j ∧ np t j = np t i ++ [nmo t j] := by
  have h0 : 0 < j := by
    rcases Nat.eq_zero_or_pos j with rfl | h0
    · have := h.rp; omega
    · exact h0
  have := h.par j h0 hj
  have e : (pa t j).toNat = i := by omega
  rw [e] at this
  exact ⟨this.2, by rw [np_pos h h0 hj, e]⟩
theorem kid_name (h : VT t) {i j k : Nat} (hj : j < t.length) (hk : k < t.length) (pj : pa t j = (i : Int)) (pk : pa t k = (i : Int)) (e : nmo t j = nmo t k) : j = k :=
  np_inj h j hj k hk (by rw [(kd_pos h hj pj).2, (kd_pos h hk pk).2, e])
theorem kd_nodup (t : List Nod) (i : Nat) : (kd t i).Nodup := List.Nodup.sublist List.filter_sublist List.nodup_range
theorem kd_sorted (t : List Nod) (i : Nat) : (kd t i).Pairwise (· < ·) := List.Pairwise.sublist List.filter_sublist List.pairwise_lt_range
theorem kd_len (t : List Nod) (i : Nat) : (kd t i).length ≤ t.length := by
  have := List.length_filter_le (fun j => decide (pa t j = (i : Int))) (List.range t.length)
  simpa [kd] using this
/-- sorted kids: a list of the kids whose names ascend is the one -/
theorem ks_sorted (h : VT t) (i : Nat) : (ks t i).Pairwise (fun a b => nmo t a < nmo t b) := by
  have h1 : (ks t i).Pairwise (fun a b => nle t a b = true) := List.pairwise_mergeSort (fun a b c h1 h2 => by
    simp only [nle, decide_eq_true_eq] at *
    exact List.le_trans h1 h2) (fun a b => by
    simp only [nle, Bool.or_eq_true, decide_eq_true_eq]
    exact List.le_total _ _) _
  have h2 : (ks t i).Nodup := (List.mergeSort_perm _ _).nodup_iff.2 (kd_nodup t i)
  have h3 : (ks t i).Pairwise (fun a b => nle t a b = true ∧ a ≠ b) := h1.and h2
  refine List.Pairwise.imp_of_mem (fun {a b} ha hb hab => ?_) h3
  obtain ⟨h4, h5⟩ := hab
  obtain ⟨a1, a2⟩ := mem_ks.1 ha
  obtain ⟨b1, b2⟩ := mem_ks.1 hb
  simp only [nle, decide_eq_true_eq] at h4
  rcases Classical.em (nmo t a < nmo t b) with h6 | h6
  · exact h6
  · exact absurd (kid_name h a1 b1 a2 b2 (List.le_antisymm h4 (List.not_lt.1 h6))) h5
theorem ks_uniq (h : VT t) (i : Nat) {l : List Nat} (h1 : l.Pairwise fun a b => nmo t a < nmo t b) (h2 : ∀ x, x ∈ l ↔ x ∈ kd t i) : l = ks t i :=
  uniq_sorted (r := fun a b => nmo t a < nmo t b) (fun a => List.lt_irrefl _) (fun a b c => List.lt_trans) h1 (ks_sorted h i) (fun x => by rw [h2, mem_kd, mem_ks])
/-- the same from a list without descents -/
theorem ks_uniq' (h : VT t) (i : Nat) {l : List Nat} (h1 : l.Pairwise fun a b => ¬ nmo t b < nmo t a) (h2 : l.Perm (kd t i)) : l = ks t i := by
  refine ks_uniq h i ?_ (fun x => h2.mem_iff)
  have h3 : l.Nodup := h2.nodup_iff.2 (kd_nodup t i)
  refine List.Pairwise.imp_of_mem (fun {a b} ha hb hab => ?_) (h1.and h3)
  obtain ⟨h4, h5⟩ := hab
  obtain ⟨a1, a2⟩ := mem_kd.1 (h2.mem_iff.1 ha)
  obtain ⟨b1, b2⟩ := mem_kd.1 (h2.mem_iff.1 hb)
  rcases Classical.em (nmo t a < nmo t b) with h6 | h6
  · exact h6
  · exact absurd (kid_name h a1 b1 a2 b2 (List.le_antisymm (List.not_lt.1 h4) (List.not_lt.1 h6))) h5

theorem mem_wk (h : VT t) : ∀ (f i : Nat), i < t.length → t.length ≤ f + i + 1 → ∀ j, j ∈ wk t f i ↔ j < t.length ∧ np t i <+: np t j
  | 0, i, hi, hf, j => by
    simp only [wk, List.mem_singleton]
    constructor
    · rintro rfl; exact ⟨hi, List.prefix_refl _⟩
    · rintro ⟨hj, l, hl⟩
      obtain ⟨k, hk, e⟩ := np_up h j hj _ _ hl.symm
      have := np_inj h k (by omega) i hi e
      have : j = i := by omega
      exact this
  | f + 1, i, hi, hf, j => by
    simp only [wk, List.mem_cons, List.mem_flatMap]
    constructor
    · rintro (rfl | ⟨k, hk, hj⟩)
      · exact ⟨hi, List.prefix_refl _⟩
      · obtain ⟨k1, k2⟩ := mem_ks.1 hk
        obtain ⟨k3, k4⟩ := kd_pos h k1 k2
        obtain ⟨h1, h2⟩ := (mem_wk h f k k1 (by omega) j).1 hj
        rw [k4] at h2
        exact ⟨h1, (List.prefix_append _ _).trans h2⟩
    · rintro ⟨hj, l, hl⟩
      cases l with
      | nil =>
        rw [List.append_nil] at hl
        exact .inl (np_inj h j hj i hi hl.symm)
      | cons n l =>
        have hl' : np t j = (np t i ++ [n]) ++ l := by rw [← hl]; simp
        obtain ⟨k, hk, e⟩ := np_up h j hj _ _ hl'
        have k0 : 0 < k := by
          rcases Nat.eq_zero_or_pos k with rfl | k0
          · rw [np_zero h] at e; simp at e
          · exact k0
        rw [np_pos h k0 (by omega)] at e
        have e1 := List.append_inj' e rfl
        have p1 := h.par k k0 (by omega)
        have e2 := np_inj h _ (by omega) _ hi e1.1
        have e3 : pa t k = (i : Int) := by omega
        refine .inr ⟨k, mem_ks.2 ⟨by omega, e3⟩, (mem_wk h f k (by omega) (by omega) j).2 ⟨hj, l, ?_⟩⟩
        have e4 := (kd_pos h (by omega : k < t.length) e3).2
        have e5 : nmo t k = n := by simpa using e1.2
        rw [e4, e5, hl']
theorem wk_sorted (h : VT t) : ∀ (f i : Nat), i < t.length → t.length ≤ f + i + 1 → (wk t f i).Pairwise (fun a b => np t a < np t b)
  | 0, i, hi, hf => by simp [wk]
  | f + 1, i, hi, hf => by
    rw [wk, List.pairwise_cons]
    constructor
    · intro j hj
      rw [List.mem_flatMap] at hj
      obtain ⟨k, hk, hj⟩ := hj
      obtain ⟨k1, k2⟩ := mem_ks.1 hk
      obtain ⟨k3, k4⟩ := kd_pos h k1 k2
      obtain ⟨h1, l, h2⟩ := (mem_wk h f k k1 (by omega) j).1 hj
      rw [← h2, k4, List.append_assoc]
      exact lt_prefix _ (by simp)
    · rw [List.pairwise_flatMap]
      constructor
      · intro k hk
        obtain ⟨k1, k2⟩ := mem_ks.1 hk
        have := kd_pos h k1 k2
        exact wk_sorted h f k k1 (by omega)
      · refine List.Pairwise.imp_of_mem (fun {a b} ha hb hab => ?_) (ks_sorted h i)
        obtain ⟨a1, a2⟩ := mem_ks.1 ha
        obtain ⟨b1, b2⟩ := mem_ks.1 hb
        obtain ⟨a3, a4⟩ := kd_pos h a1 a2
        obtain ⟨b3, b4⟩ := kd_pos h b1 b2
        intro x hx y hy
        obtain ⟨_, l, h2⟩ := (mem_wk h f a a1 (by omega) x).1 hx
        obtain ⟨_, l', h3⟩ := (mem_wk h f b b1 (by omega) y).1 hy
        rw [← h2, ← h3, a4, b4, List.append_assoc, List.append_assoc, lt_left]
        exact List.cons_lt_cons_iff.2 (.inl hab)
/-- the whole walk -/
def walkT (t : List Nod) : List Nat := wk t t.length 0
theorem mem_walk (h : VT t) {j : Nat} : j ∈ walkT t ↔ j < t.length := by
  rw [walkT, mem_wk h _ _ h.lo (by omega), np_zero h]
  simp
theorem walk_sorted (h : VT t) : (walkT t).Pairwise (fun a b => np t a < np t b) := wk_sorted h _ _ h.lo (by omega)
theorem walk_nodup (h : VT t) : (walkT t).Nodup := by
  refine List.Pairwise.imp (fun {a b} hab => ?_) (walk_sorted h)
  rintro rfl
  exact List.lt_irrefl _ hab
theorem walk_len (h : VT t) : (walkT t).length = t.length := by
  have h1 := len_sub (walk_nodup h) (l' := List.range t.length) (fun x hx => by simpa using (mem_walk h).1 hx)
  have h2 := len_sub (List.nodup_range (n := t.length)) (l' := walkT t) (fun x hx => (mem_walk h).2 (by simpa using hx))
  simp at h1 h2
  omega
theorem walk_head (t : List Nod) (h : t ≠ []) : ∃ l, walkT t = 0 :: l := by
  cases t with
  | nil => exact absurd rfl h
  | cons a l => exact ⟨_, rfl⟩

/-- the paths and values of a tree -/
def ent (t : List Nod) : List Edt := (walkT t).map fun i => ⟨0, ptx (np t i), va t i⟩
/-- the same paths and values -/
def sameP (a b : List Nod) : Prop := a.length = b.length ∧ ∀ n, n < a.length → ∃ m, loo b (np a n) = some m ∧ va a n = va b m
theorem sameP_iff {a b : List Nod} (ha : VT a) (hb : VT b) (hl : a.length = b.length) : ent a = ent b ↔ sameP a b := by
  constructor
  · intro e
    refine ⟨hl, fun n hn => ?_⟩
    have : (⟨0, ptx (np a n), va a n⟩ : Edt) ∈ ent a := List.mem_map.2 ⟨n, (mem_walk ha).2 hn, rfl⟩
    rw [e] at this
    obtain ⟨m, hm, e2⟩ := List.mem_map.1 this
    have hm := (mem_walk hb).1 hm
    simp only [Edt.mk.injEq, true_and] at e2
    refine ⟨m, (loo_iff hb).2 ⟨hm, ptx_inj (np_names hb m hm) (np_names ha n hn) e2.1⟩, e2.2.symm⟩
  · rintro ⟨_, h⟩
    have key : (walkT a).map (fun i => (np a i, va a i)) = (walkT b).map (fun i => (np b i, va b i)) := by
      refine uniq_sorted (r := fun (x y : List Str × Int) => x.1 < y.1) (fun x => List.lt_irrefl _) (fun x y z => List.lt_trans) (List.pairwise_map.2 (walk_sorted ha)) (List.pairwise_map.2 (walk_sorted hb)) ?_
      have s1 : ∀ x, x ∈ (walkT a).map (fun i => (np a i, va a i)) → x ∈ (walkT b).map (fun i => (np b i, va b i)) := by
        intro x hx
        obtain ⟨n, hn, rfl⟩ := List.mem_map.1 hx
        obtain ⟨m, h1, h2⟩ := h n ((mem_walk ha).1 hn)
        obtain ⟨h3, h4⟩ := (loo_iff hb).1 h1
        exact List.mem_map.2 ⟨m, (mem_walk hb).2 h3, by simp only [h4, h2]⟩
      intro x
      refine ⟨s1 x, fun hx => ?_⟩
      rcases Classical.em (x ∈ (walkT a).map (fun i => (np a i, va a i))) with h1 | h1
      · exact h1
      · have hn : (x :: (walkT a).map (fun i => (np a i, va a i))).Nodup := by
          refine List.nodup_cons.2 ⟨h1, ?_⟩
          have hp : ((walkT a).map (fun i => (np a i, va a i))).Pairwise (fun (x y : List Str × Int) => x.1 < y.1) := List.pairwise_map.2 (walk_sorted ha)
          refine List.Pairwise.imp (fun {p q} hpq => ?_) hp
          rintro rfl
          exact List.lt_irrefl _ hpq
        have := len_sub hn (l' := (walkT b).map (fun i => (np b i, va b i))) (fun y hy => by
          rcases List.mem_cons.1 hy with rfl | hy
          · exact hx
          · exact s1 y hy)
        simp [walk_len ha, walk_len hb] at this
        omega
    have := congrArg (List.map fun (p : List Str × Int) => (⟨0, ptx p.1, p.2⟩ : Edt)) key
    rw [List.map_map, List.map_map] at this
    exact this
end Go.Proofs.Ythlfcfcfipahiaa
