/- Plain facts: edits. Conditions: none. -/
import Derived.Test.YthlfcfcfipahiaaV2
import Derived.Test.YthlfcfcfipahiaaV4
namespace Go.Proofs.Ythlfcfcfipahiaa
open Go
set_option linter.unusedVariables false

def addP (t : List Nod) (s : Str) (v : Int) : Option (List Nod) :=
  match pth s with
  | none => none
  | some l => match l.getLast?, loo t l.dropLast with
    | some n, some p => if validT (t ++ [⟨(p : Int), n, v⟩]) = true then some (t ++ [⟨(p : Int), n, v⟩]) else none
    | _, _ => none
def dropP (t : List Nod) (s : Str) : Option (List Nod) :=
  match resO t s with
  | some k => if 0 < k then some (dropT t k) else none
  | none => none
/-- one edit -/
def app1 (t : List Nod) (e : Edt) : Option (List Nod) :=
  if e.kind = 1 then (if e.value = 0 then dropP t e.path else none)
  else if e.kind = 0 then (match resO t e.path with
    | some k => if rv e.value = true then some (setT t k e.value) else none
    | none => addP t e.path e.value)
  else none
def appAll : List Nod → List Edt → Option (List Nod)
  | t, [] => some t
  | t, e :: l => match app1 t e with
    | none => none
    | some u => appAll u l
def applyR (t : List Nod) (l : List Edt) : List Nod × Bool :=
  if (validT t && decide (l.length ≤ 24)) = true then (match appAll t l with
    | some u => (u, true)
    | none => ([], false)) else ([], false)

variable {t : List Nod}
theorem addP_iff (h : VT t) {s : Str} {v : Int} {u : List Nod} : addP t s v = some u ↔ ∃ (p : Nat) (n : Str), u = t ++ [⟨(p : Int), n, v⟩] ∧ Fits t ⟨(p : Int), n, v⟩ ∧ s = ptx (np t p ++ [n]) := by
  unfold addP
  constructor
  · intro e
    split at e
    · cases e
    · rename_i l hl
      split at e
      · rename_i n p hn hp
        split at e
        · rename_i hv
          cases e
          have f := (fits_iff h).1 (validT_iff.1 hv)
          refine ⟨p, n, rfl, f, ?_⟩
          have e2 : l = l.dropLast ++ [n] := by
            obtain ⟨ys, rfl⟩ := List.getLast?_eq_some_iff.1 hn
            rw [List.dropLast_concat]
          rw [((loo_iff h).1 hp).2, ← e2]
          exact (ptx_pth hl).symm
        · cases e
      · cases e
  · rintro ⟨p, n, rfl, f, rfl⟩
    have hp : p < t.length := f.p1
    have hl : pth (ptx (np t p ++ [n])) = some (np t p ++ [n]) := pth_ptx (fun s hs => by
      rcases List.mem_append.1 hs with h1 | h1
      · exact np_names h p hp s h1
      · rw [List.mem_singleton.1 h1]; exact f.nam)
    rw [hl]
    simp only [List.getLast?_append, List.getLast?_singleton, Option.some_or, List.dropLast_concat, loo_np h hp]
    rw [if_pos (validT_iff.2 ((fits_iff h).2 f))]
theorem addP_VT (h : VT t) {s : Str} {v : Int} {u : List Nod} (e : addP t s v = some u) : VT u := by
  obtain ⟨p, n, rfl, f, _⟩ := (addP_iff h).1 e
  exact (fits_iff h).2 f
theorem rv_iff {v : Int} : rv v = true ↔ -1000 ≤ v ∧ v ≤ 1000 := by simp [rv]
theorem app1_VT (h : VT t) {e : Edt} {u : List Nod} (hu : app1 t e = some u) : VT u := by
  unfold app1 at hu
  split at hu
  · split at hu
    · unfold dropP at hu
      split at hu
      · split at hu
        · rename_i k hk h0; cases hu; exact dropT_VT h h0
        · cases hu
      · cases hu
    · cases hu
  · split at hu
    · split at hu
      · split at hu
        · rename_i k hk hv; cases hu
          exact setT_VT h ((resO_iff h).1 hk).1 (rv_iff.1 hv)
        · cases hu
      · exact addP_VT h hu
    · cases hu
theorem appAll_VT (h : VT t) : ∀ {l : List Edt} {u : List Nod}, appAll t l = some u → VT u := by
  intro l
  induction l generalizing t with
  | nil => intro u e; cases e; exact h
  | cons e l ih =>
    intro u hu
    rw [appAll] at hu
    split at hu
    · cases hu
    · rename_i u' hu'; exact ih (app1_VT h hu') hu
theorem applyR_VT {l : List Edt} (e : (applyR t l).2 = true) : VT (applyR t l).1 ∧ VT t ∧ l.length ≤ 24 ∧ appAll t l = some (applyR t l).1 := by
  unfold applyR at e ⊢
  split
  · rename_i hc
    rw [if_pos hc] at e
    simp only [Bool.and_eq_true, decide_eq_true_eq] at hc
    have h := validT_iff.1 hc.1
    cases ha : appAll t l with
    | none => rw [ha] at e; cases e
    | some u => exact ⟨appAll_VT h ha, h, hc.2, rfl⟩
  · rename_i hc; rw [if_neg hc] at e; cases e
theorem applyR_NL {l : List Edt} : (applyR t l).1.length ≤ 12 ∧ ∀ x ∈ (applyR t l).1, x.name.length ≤ 4 := by
  cases e : (applyR t l).2 with
  | true =>
    have h := (applyR_VT e).1
    refine ⟨h.hi, fun x hx => ?_⟩
    obtain ⟨i, hi, rfl⟩ := List.mem_iff_getElem.1 hx
    have e2 : (applyR t l).1[i].name = nmo (applyR t l).1 i := by rw [nmo, List.getD_eq_getElem?_getD, List.getElem?_eq_getElem hi]; rfl
    rw [e2]
    rcases Nat.eq_zero_or_pos i with rfl | h0
    · rw [h.rn]; simp
    · have := h.nam i h0 hi
      simp only [nameOk, Bool.and_eq_true, decide_eq_true_eq] at this
      exact this.1.2
  | false =>
    have : (applyR t l).1 = [] := by
      unfold applyR at e ⊢
      split
      · rename_i hc
        rw [if_pos hc] at e
        cases ha : appAll t l with
        | none => rfl
        | some u => rw [ha] at e; cases e
      · rfl
    rw [this]; simp

/-- the edits that make a tree of another one -/
def ebD (a b : List Nod) : List Edt := ((walkT a).filter fun n => (loo b (np a n)).isNone && (loo b (np a (pa a n).toNat)).isSome).map fun n => ⟨1, ptx (np a n), 0⟩
def ebS (a b : List Nod) : List Edt := ((walkT b).filter fun n => !decide (M a (np b n) = some (va b n))).map fun n => ⟨0, ptx (np b n), va b n⟩
def eb (a b : List Nod) : List Edt := if (validT a && validT b) = true then ebD a b ++ ebS a b else []

theorem last_at (c : UInt8) : ∀ (s : Str), c ∉ s ∨ ∃ a b, s = a ++ c :: b ∧ c ∉ b
  | [] => .inl (by simp)
  | x :: s => by
    rcases last_at c s with h1 | ⟨a, b, rfl, h1⟩
    · by_cases h : x = c
      · subst h; exact .inr ⟨[], s, rfl, h1⟩
      · exact .inl (by simp only [List.mem_cons, not_or]; exact ⟨Ne.symm h, h1⟩)
    · exact .inr ⟨x :: a, b, rfl, h1⟩
theorem last_uniq {c : UInt8} {a b a' b' : Str} (h : c ∉ b) (h' : c ∉ b') (e : a ++ c :: b = a' ++ c :: b') : a = a' ∧ b = b' := by
  have key : ∀ {x y : Str} {z w : Str}, c ∉ x → c ∉ y → x ++ c :: z = y ++ c :: w → x = y ∧ z = w := by
    intro x
    induction x with
    | nil =>
      intro y z w hx hy e
      cases y with
      | nil => simpa using e
      | cons q y => simp only [List.nil_append, List.cons_append, List.cons.injEq] at e; rw [e.1] at hy; simp at hy
    | cons p x ih =>
      intro y z w hx hy e
      cases y with
      | nil => simp only [List.nil_append, List.cons_append, List.cons.injEq] at e; rw [e.1] at hx; simp at hx
      | cons q y =>
        simp only [List.cons_append, List.cons.injEq] at e
        simp only [List.mem_cons, not_or] at hx hy
        obtain ⟨h1, h2⟩ := ih hx.2 hy.2 e.2
        exact ⟨by rw [e.1, h1], h2⟩
  have e2 := congrArg List.reverse e
  simp only [List.reverse_append, List.reverse_cons, List.append_assoc, List.singleton_append] at e2
  obtain ⟨h1, h2⟩ := key (by simpa using h) (by simpa using h') e2
  exact ⟨List.reverse_inj.1 h2, List.reverse_inj.1 h1⟩
theorem ptx_snoc (l : List Str) (n : Str) : ptx (l ++ [n]) = fm 47 l ++ 47 :: n := by
  rw [ptx, if_neg (by simp), fm_app, fm_cons, fm_nil, List.append_nil]
end Go.Proofs.Ythlfcfcfipahiaa
