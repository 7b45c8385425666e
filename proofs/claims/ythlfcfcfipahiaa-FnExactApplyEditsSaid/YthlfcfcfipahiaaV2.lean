/- Plain facts: texts of paths. Conditions: none. -/
import Derived.Test.YthlfcfcfipahiaaV1
namespace Go.Proofs.Ythlfcfcfipahiaa
open Go
set_option linter.unusedVariables false

/-- a text cut at every byte of a kind -/
def spl (c : UInt8) : Str → List Str
  | [] => [[]]
  | x :: s => if x = c then [] :: spl c s else match spl c s with
    | [] => [[x]]
    | h :: r => (x :: h) :: r
theorem spl_ne (c : UInt8) (s : Str) : spl c s ≠ [] := by
  cases s with
  | nil => simp [spl]
  | cons x s =>
    rw [spl]
    split
    · simp
    · split <;> simp
theorem spl_none {c : UInt8} : ∀ {a : Str}, c ∉ a → spl c a = [a]
  | [], _ => rfl
  | x :: a, h => by
    rw [spl, if_neg (by rintro rfl; simp at h), spl_none (by simp at h; exact h.2)]
theorem spl_at {c : UInt8} {b : Str} : ∀ {a : Str}, c ∉ a → spl c (a ++ c :: b) = a :: spl c b
  | [], _ => by rw [List.nil_append, spl, if_pos rfl]
  | x :: a, h => by
    rw [List.cons_append, spl, if_neg (by rintro rfl; simp at h), spl_at (by simp at h; exact h.2)]
/-- the first place of a byte -/
theorem cut_at (c : UInt8) : ∀ (s : Str), c ∉ s ∨ ∃ a b, s = a ++ c :: b ∧ c ∉ a
  | [] => .inl (by simp)
  | x :: s => by
    by_cases h : x = c
    · subst h; exact .inr ⟨[], s, rfl, by simp⟩
    · rcases cut_at c s with h1 | ⟨a, b, rfl, h1⟩
      · exact .inl (by simp only [List.mem_cons, not_or]; exact ⟨Ne.symm h, h1⟩)
      · exact .inr ⟨x :: a, b, rfl, by simp only [List.mem_cons, not_or]; exact ⟨Ne.symm h, h1⟩⟩

/-- texts put together, each behind a byte -/
def fm (c : UInt8) (l : List Str) : Str := l.flatMap fun s => c :: s
theorem fm_nil (c : UInt8) : fm c [] = [] := rfl
theorem fm_cons (c : UInt8) (s : Str) (l : List Str) : fm c (s :: l) = c :: (s ++ fm c l) := by simp [fm]
theorem fm_app (c : UInt8) (l l' : List Str) : fm c (l ++ l') = fm c l ++ fm c l' := by simp [fm]
theorem fm_spl (c : UInt8) : ∀ (s : Str), fm c (spl c s) = c :: s
  | [] => rfl
  | x :: s => by
    rw [spl]
    split
    · rename_i h; rw [fm_cons, fm_spl c s, h]; rfl
    · cases hx : spl c s with
      | nil => exact absurd hx (spl_ne c s)
      | cons h r =>
        have := fm_spl c s
        rw [hx, fm_cons] at this
        simp only [fm_cons, List.cons_append]
        rw [List.cons.injEq] at this
        rw [this.2]
theorem spl_fm {c : UInt8} : ∀ {l : List Str} {s : Str}, (∀ x ∈ s :: l, c ∉ x) → spl c (s ++ fm c l) = s :: l
  | [], s, h => by rw [fm_nil, List.append_nil, spl_none (h s (by simp))]
  | x :: l, s, h => by
    rw [fm_cons, spl_at (h s (by simp)), spl_fm (fun y hy => h y (by simp at hy ⊢; exact .inr hy))]

/-- the text of a path -/
def ptx (l : List Str) : Str := if l = [] then [47] else fm 47 l
/-- the path of a text -/
def pth : Str → Option (List Str)
  | [] => none
  | c :: r => if c = 47 then (if r = [] then some [] else some (spl 47 r)) else none
theorem ptx_pth {s : Str} {l : List Str} (h : pth s = some l) : ptx l = s := by
  cases s with
  | nil => cases h
  | cons c r =>
    rw [pth] at h
    split at h
    · rename_i hc
      split at h
      · rename_i hr; cases h; rw [hc, hr]; rfl
      · rename_i hr
        cases h
        rw [ptx, if_neg (spl_ne _ _), fm_spl, hc]
    · cases h
theorem name_no {s : Str} (h : nameOk s = true) : (47 : UInt8) ∉ s ∧ s ≠ [] := by
  simp only [nameOk, Bool.and_eq_true, decide_eq_true_eq, List.all_eq_true] at h
  refine ⟨fun h' => ?_, fun h' => ?_⟩
  · have := h.2 47 h'
    exact absurd this (by decide)
  · rw [h'] at h; simp at h
theorem pth_ptx {l : List Str} (h : ∀ s ∈ l, nameOk s = true) : pth (ptx l) = some l := by
  cases l with
  | nil => rfl
  | cons s l =>
    rw [ptx, if_neg (by simp), fm_cons, pth, if_pos rfl, if_neg (by
      have := (name_no (h s (by simp))).2
      cases s with
      | nil => exact absurd rfl this
      | cons a b => simp)]
    rw [spl_fm (fun x hx => (name_no (h x hx)).1)]
theorem ptx_inj {l l' : List Str} (h : ∀ s ∈ l, nameOk s = true) (h' : ∀ s ∈ l', nameOk s = true) (e : ptx l = ptx l') : l = l' := by
  have := pth_ptx h
  rw [e, pth_ptx h'] at this
  exact (Option.some.inj this).symm

/-- the node with a path -/
def resO (t : List Nod) (s : Str) : Option Nat := (pth s).bind (loo t)
def oi : Option Nat → Int
  | some k => (k : Int)
  | none => -1
def res (t : List Nod) (s : Str) : Int := oi (resO t s)
variable {t : List Nod}
theorem resO_iff (h : VT t) {s : Str} {k : Nat} : resO t s = some k ↔ k < t.length ∧ ptx (np t k) = s := by
  unfold resO
  constructor
  · intro e
    cases hp : pth s with
    | none => rw [hp] at e; cases e
    | some l =>
      rw [hp] at e
      obtain ⟨h1, h2⟩ := (loo_iff h).1 e
      exact ⟨h1, by rw [h2]; exact ptx_pth hp⟩
  · rintro ⟨h1, rfl⟩
    rw [pth_ptx (np_names h k h1)]
    exact loo_np h h1
theorem resO_np (h : VT t) {k : Nat} (hk : k < t.length) : resO t (ptx (np t k)) = some k := (resO_iff h).2 ⟨hk, rfl⟩
theorem resO_ptx {l : List Str} (h : ∀ s ∈ l, nameOk s = true) : resO t (ptx l) = loo t l := by rw [resO, pth_ptx h]; rfl
theorem resO_none {s : Str} (h : VT t) : resO t s = none ↔ ∀ i, i < t.length → ptx (np t i) ≠ s := by
  constructor
  · intro e i hi e'
    rw [(resO_iff h).2 ⟨hi, e'⟩] at e; cases e
  · intro h'
    cases e : resO t s with
    | none => rfl
    | some k => obtain ⟨h1, h2⟩ := (resO_iff h).1 e; exact absurd h2 (h' k h1)
/-- the first node with a path -/
theorem res_first (h : VT t) (s : Str) : firstAt (fun i => decide (ptx (np t i) = s)) (List.range t.length) 0 = res t s := by
  rcases firstAt_spec (fun i => decide (ptx (np t i) = s)) 0 (List.range t.length) 0 with ⟨h1, h2⟩ | ⟨j, h1, h2, h3, _⟩
  · rw [h1, res, (resO_none h).2 (fun i hi e => ?_)]; rfl
    have := h2 i (by simpa using hi)
    rw [List.getD_eq_getElem?_getD, List.getElem?_range hi] at this
    simp at this; exact this e
  · have hj : j < t.length := by simpa using h1
    rw [List.getD_eq_getElem?_getD, List.getElem?_range hj] at h3
    rw [h2, res, (resO_iff h).2 ⟨hj, by simpa using h3⟩, Nat.zero_add]; rfl
/-- going down by the parts of a text -/
theorem res_desc (h : VT t) {c : UInt8} {r : Str} : res t (c :: r) = if c = 47 then (if r = [] then 0 else desc t 0 (spl 47 r)) else -1 := by
  have hlo := h.lo
  rw [res, resO, pth]
  split
  · split
    · show oi (loo t []) = 0
      rw [(loo_iff h).2 ⟨hlo, np_zero h⟩]; rfl
    · show oi (loo t (spl 47 r)) = _
      have := desc_spec h (spl 47 r) 0 hlo
      rw [np_zero h, List.nil_append] at this
      rw [show ((0 : Nat) : Int) = 0 from rfl] at this
      rw [this]
      cases loo t (spl 47 r) <;> rfl
  · rfl
theorem res_nil : res t [] = -1 := rfl
theorem res_lt (h : VT t) {s : Str} : res t s < 0 ↔ resO t s = none := by
  rw [res]
  cases resO t s with
  | none => simp [oi]
  | some k => simp [oi]
end Go.Proofs.Ythlfcfcfipahiaa
