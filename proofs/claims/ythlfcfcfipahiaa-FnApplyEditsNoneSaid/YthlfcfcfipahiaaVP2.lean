/- Plain facts: walks and entries of the specification. Conditions: none. -/
import Derived.Test.YthlfcfcfipahiaaVPb
import Derived.Test.YthlfcfcfipahiaaVS
namespace Go.Proofs.Ythlfcfcfipahiaa
open Go
set_option linter.unusedVariables false
abbrev Rec := List Nod → Int → Option (List Int)
theorem Ex.shift {α : Type} {f : Nat → Option α} {P : α → Prop} (h : Ex f P) : Ex (fun n => f (n + 1)) P := by
  obtain ⟨r, h1, N, h2⟩ := h
  exact ⟨r, h1, N, fun n hn => h2 (n + 1) (by omega)⟩

theorem rev_at {α : Type} {R S : List α} {v d : α} : (R.reverse ++ v :: S).getD R.length d = v := by
  rw [List.getD_eq_getElem?_getD, List.getElem?_append_right (by simp)]; simp
theorem rev_at1 {α : Type} {R S : List α} {p d : α} : ((p :: R).reverse ++ S).getD R.length d = p := by
  rw [List.reverse_cons, List.append_assoc]; exact rev_at
theorem rev_swap {α : Type} {R S : List α} {p v : α} : (((p :: R).reverse ++ v :: S).set (R.length + 1) p).set R.length v = R.reverse ++ v :: p :: S := by
  have e : (p :: R).reverse ++ v :: S = R.reverse ++ p :: v :: S := by simp
  rw [e, List.set_append_right _ _ (by simp), List.set_append_right _ _ (by simp)]
  simp
/-- a number of a node -/
def InT (t : List Nod) (x : Int) : Prop := 0 ≤ x ∧ x < t.length
theorem ky_less {t : List Nod} (x y : Int) : Op.bytesLess ((t.getD x.toNat dnod).name) ((t.getD y.toNat dnod).name) = decide (ky t x < ky t y) := less_eq _ _

theorem specIns_ex {t : List Nod} {a b v : Int} (hv : InT t v) : ∀ (R S : List Int) (rc : Nat → Rec), (∀ x ∈ R, InT t x) → R.length + S.length ≤ 1000000 →
    Ex (fun n => spec_walk_L2 (rc n) t a b n (R.reverse ++ v :: S) (R.length : Int)) (· = (insR (ky t) v R).reverse ++ S)
  | [], S, rc, _, hl => by
    refine Ex.succ ?_
    simp only [spec_walk_L2]
    refine Ex.be (a := false) (Ex.no (by simp) (Ex.ret rfl)) (Ex.no rfl (Ex.ret ?_))
    simp [insR]
  | p :: R, S, rc, hR, hl => by
    refine Ex.succ ?_
    simp only [List.length_cons] at hl
    have hp := hR p (by simp)
    have e1 : w64 (((p :: R).length : Int) - 1) = ((R.length : Nat) : Int) := by rw [w64_id (by simp <;> omega) (by simp; omega)]; simp
    simp only [spec_walk_L2, e1, Int.toNat_natCast]
    have g1 : ((p :: R).reverse ++ v :: S).getD (p :: R).length 0 = v := rev_at
    have g2 : ((p :: R).reverse ++ v :: S).getD R.length 0 = p := rev_at1
    rw [g1, g2]
    have hL : (((p :: R).reverse ++ v :: S).length : Int) = R.length + S.length + 2 := by simp; omega
    have hP : (((p :: R).length : Nat) : Int) = R.length + 1 := by simp
    refine Ex.be (a := decide (ky t v < ky t p)) (Ex.yes (decide_eq_true (by omega)) (Ex.guard (by omega) (Ex.guard hv (Ex.guard (by omega) (Ex.guard hp (Ex.ret (ky_less v p))))))) ?_
    rw [insR]
    refine Ex.ite (fun hb => ?_) (fun hb => Ex.ret ?_)
    · rw [if_pos (of_decide_eq_true hb)]
      refine Ex.guard (by omega) (Ex.guard (by omega) (Ex.guard (by omega) (Ex.guard (by rw [List.length_set]; omega) ?_)))
      have e2 := rev_swap (R := R) (S := S) (p := p) (v := v)
      rw [show R.length + 1 = (p :: R).length from rfl] at e2
      rw [e2]
      refine Ex.mono (specIns_ex hv R (p :: S) (fun n => rc (n + 1)) (fun x hx => hR x (by simp [hx])) (by simp; omega)) ?_
      rintro r rfl
      simp
    · rw [if_neg (of_decide_eq_false hb)]; simp
theorem specSort_ex {t : List Nod} {a : Int} : ∀ (S R : List Int) (rc : Nat → Rec), (∀ x ∈ R, InT t x) → (∀ x ∈ S, InT t x) → R.length + S.length ≤ 1000000 →
    Ex (fun n => spec_walk_L1 (rc n) t a n (R.reverse ++ S) (R.length : Int)) (· = isort (ky t) R S)
  | [], R, rc, hR, hS, hl => by
    refine Ex.succ ?_
    simp only [spec_walk_L1]
    exact Ex.no (decide_eq_false (by simp)) (Ex.ret (by simp [isort]))
  | v :: S, R, rc, hR, hS, hl => by
    refine Ex.succ ?_
    simp only [List.length_cons] at hl
    simp only [spec_walk_L1]
    refine Ex.yes (decide_eq_true (by simp; omega)) (Ex.be (specIns_ex (hS v (by simp)) R S (fun n => rc (n + 1)) hR (by omega)) ?_)
    have e := insR_len (ky t) v R
    rw [w64_succ (by omega), ← e, isort]
    refine specSort_ex S (insR (ky t) v R) (fun n => rc (n + 1)) (fun x hx => ?_) (fun x hx => hS x (by simp [hx])) (by omega)
    rcases List.mem_cons.1 ((insR_perm (ky t) v R).mem_iff.1 hx) with rfl | hx
    · exact hS x (by simp)
    · exact hR x hx

theorem specKids_ex {t : List Nod} (h : VT t) (i : Nat) : Ex (fun n => spec_kids n t (i : Int)) (· = nkd t i) := by
  have hlo := h.lo
  have hhi := h.hi
  unfold spec_kids
  refine Ex.be (a := nkd t i) ?_ (Ex.ret rfl)
  have e0 : ∀ k, k ≤ t.length → ((List.range t.length).take k).length = k := fun k hk => by simp; omega
  refine up t.length (fun k (x : List Int) => x = (((List.range t.length).take k).filter fun j => decide (pa t j = (i : Int))).map fun (j : Nat) => (j : Int)) (f := fun n x j => spec_kids_L1 t i n x j) ?_ ?_ 1 [] hlo ?_
  · rintro k _ hk rfl next
    simp only [spec_kids_L1, Int.toNat_natCast]
    have hx : ((((List.range t.length).take k).filter fun j => decide (pa t j = (i : Int))).map fun (j : Nat) => (j : Int)).length ≤ k := by
      rw [List.length_map]
      exact Nat.le_trans (List.length_filter_le _ _) (by rw [e0 k (by omega)]; exact Nat.le_refl _)
    refine Ex.yes (decide_eq_true (by omega)) (Ex.guard (by omega) ?_)
    rw [w64_succ (by omega)]
    have e1 : (List.range t.length)[k]? = some k := List.getElem?_range hk
    refine Ex.be (a := (((List.range t.length).take (k + 1)).filter fun j => decide (pa t j = (i : Int))).map fun (j : Nat) => (j : Int)) ?_ (next _ rfl)
    rw [List.take_add_one, e1, List.filter_append, List.map_append]
    refine Ex.ite (fun hb => Ex.guard (by simp at hx ⊢; omega) (Ex.ret ?_)) (fun hb => Ex.ret ?_)
    · have : [k].filter (fun j => decide (pa t j = (i : Int))) = [k] := by
        rw [List.filter_cons, if_pos (show decide (pa t k = (i : Int)) = true from hb)]; rfl
      show _ ++ _ = _ ++ List.map _ (List.filter _ [k])
      rw [this]; rfl
    · have : [k].filter (fun j => decide (pa t j = (i : Int))) = [] := by
        rw [List.filter_cons, if_neg (by rw [show decide (pa t k = (i : Int)) = false from hb]; simp)]; rfl
      show _ = _ ++ List.map _ (List.filter _ [k])
      rw [this]; simp
  · rintro _ rfl
    simp only [spec_kids_L1]
    refine Ex.no (decide_eq_false (by omega)) (Ex.ret ?_)
    rw [nkd, kd, List.take_of_length_le (by simp)]
  · have : (List.range t.length).take 1 = [0] := by
      rw [List.take_range]; rw [show min 1 t.length = 1 by omega]; rfl
    rw [this, List.filter_cons, if_neg (by have := h.rp; simp; omega)]; rfl

theorem nkd_in {t : List Nod} {i : Nat} : ∀ x ∈ nkd t i, InT t x := by
  intro x hx
  obtain ⟨j, hj, rfl⟩ := List.mem_map.1 hx
  have := (mem_kd.1 hj).1
  exact ⟨by omega, by omega⟩
theorem nkd_len {t : List Nod} {i : Nat} : (nkd t i).length ≤ t.length := by rw [nkd, List.length_map]; exact kd_len t i

theorem specWalkAll_ex {t : List Nod} {g : Nat → List Int} : ∀ (L : List Int) (xs : List Int) (k : Nat) (acc : List Int) (rc : Nat → Rec), xs.drop k = L → k + L.length = xs.length → xs.length ≤ 100 → (∀ x ∈ L, Ex (fun n => rc n t x) (· = g x.toNat)) → (∀ x ∈ L, (g x.toNat).length ≤ 12) → acc.length ≤ 1 + 12 * k →
    Ex (fun n => spec_walk_L3 (rc n) t xs n acc (k : Int)) (· = acc ++ L.flatMap fun x => g x.toNat)
  | [], xs, k, acc, rc, h1, h2, h3, h4, h5, h6 => by
    refine Ex.succ ?_
    simp only [spec_walk_L3]
    simp only [List.length_nil] at h2
    exact Ex.no (decide_eq_false (by omega)) (Ex.ret (by simp))
  | x :: L, xs, k, acc, rc, h1, h2, h3, h4, h5, h6 => by
    refine Ex.succ ?_
    simp only [List.length_cons] at h2
    have hk : k < xs.length := by omega
    rw [drop_at 0 hk, List.cons.injEq] at h1
    simp only [spec_walk_L3, Int.toNat_natCast, h1.1]
    have h7 := h5 x (by simp)
    refine Ex.yes (decide_eq_true (by omega)) (Ex.guard (by omega) (Ex.be (h4 x (by simp)).shift (Ex.guard (by simp; omega) ?_)))
    rw [view_all, w64_succ (by omega)]
    refine Ex.mono (specWalkAll_ex L xs (k + 1) (acc ++ g x.toNat) (fun n => rc (n + 1)) h1.2 (by omega) h3 (fun y hy => (h4 y (by simp [hy])).shift) (fun y hy => h5 y (by simp [hy])) (by simp; omega)) ?_
    rintro r rfl
    simp

theorem specWalk_ex {t : List Nod} (h : VT t) : ∀ (f i : Nat), i < t.length → t.length ≤ f + i + 1 → Ex (fun n => spec_walk n t (i : Int)) (· = nwk t f i) := by
  have hhi := h.hi
  have one : ∀ (f i : Nat) (g : Nat → List Int), i < t.length → (∀ k, k ∈ ks t i → Ex (fun n => spec_walk n t (k : Int)) (· = g k)) → (∀ k, k ∈ ks t i → (g k).length ≤ 12) → Ex (fun n => spec_walk n t (i : Int)) (· = (i : Int) :: (ks t i).flatMap g) := by
    intro f i g hi hg hg2
    refine Ex.succ ?_
    simp only [spec_walk]
    unfold spec_walk_B
    have hk := nkd_len (t := t) (i := i)
    refine Ex.be (specKids_ex h i) (Ex.be (a := nks t i) ?_ (Ex.be (a := (i : Int) :: (ks t i).flatMap g) ?_ (Ex.ret rfl)))
    · have := specSort_ex (t := t) (a := (i : Int)) (nkd t i) [] (fun n => spec_walk n) (by simp) nkd_in (by simp; omega)
      rw [sort_kids h i] at this
      exact this
    · have hl : (nks t i).length = (nkd t i).length := by
        rw [nks, nkd, List.length_map, List.length_map, ks, (List.mergeSort_perm _ _).length_eq]
      have := specWalkAll_ex (t := t) (g := g) (nks t i) (nks t i) 0 [(i : Int)] (fun n => spec_walk n) (by simp) (by simp) (by omega) (fun x hx => ?_) (fun x hx => ?_) (by simp)
      · refine Ex.mono this ?_
        rintro r rfl
        rw [nks, List.flatMap_map]
        simp
      · obtain ⟨j, hj, rfl⟩ := List.mem_map.1 hx
        rw [Int.toNat_natCast]; exact hg j hj
      · obtain ⟨j, hj, rfl⟩ := List.mem_map.1 hx
        rw [Int.toNat_natCast]; exact hg2 j hj
  intro f
  induction f with
  | zero =>
    intro i hi hf
    have hks : ks t i = [] := by
      rw [List.eq_nil_iff_forall_not_mem]
      intro k hk
      obtain ⟨k1, k2⟩ := mem_ks.1 hk
      have := (kd_pos h k1 k2).1
      omega
    have := one 0 i (fun _ => []) hi (fun k hk => by rw [hks] at hk; cases hk) (fun k hk => by simp)
    rw [hks] at this
    exact this
  | succ f ih =>
    intro i hi hf
    have := one f i (nwk t f) hi (fun k hk => ?_) (fun k hk => ?_)
    · refine Ex.mono this ?_
      rintro r rfl
      rw [nwk, wk, List.map_cons, List.map_flatMap]
      rfl
    · obtain ⟨k1, k2⟩ := mem_ks.1 hk
      have := (kd_pos h k1 k2).1
      exact ih k k1 (by omega)
    · obtain ⟨k1, k2⟩ := mem_ks.1 hk
      have := (kd_pos h k1 k2).1
      rw [nwk, List.length_map]
      exact wk_len h k1 (by omega)

theorem ent_len {t : List Nod} (h : VT t) : (ent t).length = t.length := by rw [ent, List.length_map, walk_len h]
theorem specEnt_ex {t : List Nod} (h : VT t) : Ex (fun n => spec_entries n t) (· = ent t) := by
  have hhi := h.hi
  unfold spec_entries
  refine Ex.be (specWalk_ex h t.length 0 h.lo (by omega)) (Ex.be (a := ent t) ?_ (Ex.ret rfl))
  have hw : nwk t t.length 0 = (walkT t).map fun (j : Nat) => (j : Int) := rfl
  have hlen := walk_len h
  rw [hw]
  refine up (walkT t).length (fun k (x : List Edt) => x = (ent t).take k) (f := fun n x j => spec_entries_L1 t ((walkT t).map fun (j : Nat) => (j : Int)) n x j) ?_ ?_ 0 [] (Nat.zero_le _) (by simp)
  · rintro k _ hk rfl next
    have e : (walkT t)[k]? = some ((walkT t).getD k 0) := by rw [List.getD_eq_getElem?_getD, List.getElem?_eq_getElem hk]; rfl
    have e2 : ((walkT t).map fun (j : Nat) => (j : Int)).getD k 0 = (((walkT t).getD k 0 : Nat) : Int) := by rw [List.getD_eq_getElem?_getD, List.getElem?_map, e]; rfl
    have h3 := (mem_walk h).1 (getD_mem (d := 0) hk)
    simp only [spec_entries_L1, Int.toNat_natCast, e2]
    refine Ex.yes (decide_eq_true (by simp; omega)) (Ex.guard (by simp; omega) (Ex.be (specPathText_ex h h3) (Ex.guard (by simp; omega) (Ex.guard (by omega) (Ex.guard (by simp; omega) ?_)))))
    rw [w64_succ (by omega)]
    refine next _ ?_
    rw [List.take_add_one, ent, List.getElem?_map, e]
    rfl
  · rintro _ rfl
    simp only [spec_entries_L1]
    refine Ex.no (decide_eq_false (by simp)) (Ex.ret ?_)
    rw [List.take_of_length_le (by rw [ent, List.length_map]; exact Nat.le_refl _)]

theorem res_np {a b : List Nod} (ha : VT a) (hb : VT b) {n : Nat} (hn : n < a.length) : res b (ptx (np a n)) = oi (loo b (np a n)) := by
  rw [res, resO_ptx (np_names ha n hn)]
end Go.Proofs.Ythlfcfcfipahiaa
