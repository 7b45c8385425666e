/- Plain facts: sorting by insertion. Conditions: none. -/
import Derived.Test.YthlfcfcfipahiaaV3
namespace Go.Proofs.Ythlfcfcfipahiaa
open Go

theorem less_eq : ∀ (x y : Str), Op.bytesLess x y = decide (x < y)
  | [], [] => by rw [Op.bytesLess]; exact (decide_eq_false (List.lt_irrefl _)).symm
  | [], b :: y => by rw [Op.bytesLess]; exact (decide_eq_true (List.nil_lt_cons b y)).symm
  | a :: x, [] => by rw [Op.bytesLess]; exact (decide_eq_false (List.not_lt_nil _)).symm
  | a :: x, b :: y => by
    rw [Op.bytesLess, less_eq x y, Bool.eq_iff_iff, decide_eq_true_eq, List.cons_lt_cons_iff]
    simp only [Bool.or_eq_true, Bool.and_eq_true, decide_eq_true_eq, beq_iff_eq]

section
variable {α : Type} (k : α → Str)
/-- a value put into a descending row -/
def insR (v : α) : List α → List α
  | [] => [v]
  | p :: R => if k v < k p then p :: insR v R else v :: p :: R
def isort : List α → List α → List α
  | R, [] => R.reverse
  | R, v :: S => isort (insR k v R) S
theorem insR_perm (v : α) : ∀ R, (insR k v R).Perm (v :: R)
  | [] => List.Perm.refl _
  | p :: R => by
    rw [insR]
    split
    · exact ((insR_perm v R).cons p).trans (List.Perm.swap v p R)
    · exact List.Perm.refl _
theorem insR_len (v : α) (R : List α) : (insR k v R).length = R.length + 1 := by
  rw [(insR_perm k v R).length_eq]; rfl
theorem isort_perm : ∀ (S R : List α), (isort k R S).Perm (R ++ S)
  | [], R => by rw [isort, List.append_nil]; exact List.reverse_perm R
  | v :: S, R => by
    rw [isort]
    refine (isort_perm S _).trans (((insR_perm k v R).append_right S).trans ?_)
    rw [List.cons_append]
    exact (List.perm_middle (a := v) (l₁ := R) (l₂ := S)).symm
theorem insR_sorted (v : α) : ∀ R : List α, R.Pairwise (fun a b => ¬ k a < k b) → (insR k v R).Pairwise (fun a b => ¬ k a < k b)
  | [], _ => by simp [insR]
  | p :: R, h => by
    rw [List.pairwise_cons] at h
    rw [insR]
    split
    · rename_i hv
      rw [List.pairwise_cons]
      refine ⟨fun x hx => ?_, insR_sorted v R h.2⟩
      rcases List.mem_cons.1 ((insR_perm k v R).mem_iff.1 hx) with rfl | hx
      · exact List.lt_asymm hv
      · exact h.1 x hx
    · rename_i hv
      rw [List.pairwise_cons, List.pairwise_cons]
      refine ⟨fun x hx => ?_, h⟩
      rcases List.mem_cons.1 hx with rfl | hx
      · exact hv
      · have h1 := h.1 x hx
        rw [List.not_lt] at hv h1 ⊢
        exact List.le_trans h1 hv
theorem isort_sorted : ∀ (S R : List α), R.Pairwise (fun a b => ¬ k a < k b) → (isort k R S).Pairwise (fun a b => ¬ k b < k a)
  | [], R, h => by rw [isort]; exact List.pairwise_reverse.2 h
  | v :: S, R, h => by rw [isort]; exact isort_sorted S _ (insR_sorted k v R h)
end
theorem insR_map {α β : Type} (k : β → Str) (f : α → β) (v : α) : ∀ R : List α, insR k (f v) (R.map f) = (insR (fun x => k (f x)) v R).map f
  | [] => rfl
  | p :: R => by
    rw [List.map_cons, insR, insR]
    split
    · rw [insR_map k f v R]; rfl
    · rfl
theorem isort_map {α β : Type} (k : β → Str) (f : α → β) : ∀ (S R : List α), isort k (R.map f) (S.map f) = (isort (fun x => k (f x)) R S).map f
  | [], R => by rw [List.map_nil, isort, isort, List.map_reverse]
  | v :: S, R => by rw [List.map_cons, isort, insR_map, isort_map k f S _, isort]

def ky (t : List Nod) (x : Int) : Str := (t.getD x.toNat dnod).name
def nkd (t : List Nod) (i : Nat) : List Int := (kd t i).map fun (j : Nat) => (j : Int)
def nks (t : List Nod) (i : Nat) : List Int := (ks t i).map fun (j : Nat) => (j : Int)
def nwk (t : List Nod) (f i : Nat) : List Int := (wk t f i).map fun (j : Nat) => (j : Int)
theorem sort_kids {t : List Nod} (h : VT t) (i : Nat) : isort (ky t) [] (nkd t i) = nks t i := by
  have := isort_map (ky t) (fun (j : Nat) => (j : Int)) (kd t i) []
  rw [List.map_nil] at this
  rw [nkd, this, nks]
  congr 1
  have e : (fun (x : Nat) => ky t (x : Int)) = nmo t := by funext x; rw [ky, Int.toNat_natCast]; rfl
  rw [e]
  refine ks_uniq' h i (isort_sorted _ _ _ (by simp)) ?_
  have := isort_perm (nmo t) (kd t i) []
  rwa [List.nil_append] at this
theorem wk_len {t : List Nod} (h : VT t) {f i : Nat} (hi : i < t.length) (hf : t.length ≤ f + i + 1) : (wk t f i).length ≤ 12 := by
  have hn : (wk t f i).Nodup := List.Pairwise.imp (fun {a b} hab => by rintro rfl; exact List.lt_irrefl _ hab) (wk_sorted h f i hi hf)
  have := len_sub hn (l' := List.range t.length) (fun x hx => by simpa using ((mem_wk h f i hi hf x).1 hx).1)
  have := h.hi
  simp at this ⊢
  simp at *
  omega
end Go.Proofs.Ythlfcfcfipahiaa
