/- Plain facts: rules for loops, names, valid trees. Conditions: none. -/
import Derived.Test.YthlfcfcfipahiaaP0
namespace Go.Proofs.Ythlfcfcfipahiaa
open Go

/-- a loop with a state: what holds ahead of each round -/
theorem up {σ α : Type} (len : Nat) (inv : Nat → σ → Prop) {f : Nat → σ → Int → Option α} {Q : α → Prop}
    (h1 : ∀ (k : Nat) (s : σ), k < len → inv k s → (∀ s', inv (k + 1) s' → Ex (fun n => f n s' ((k + 1 : Nat) : Int)) Q) → Ex (fun n => f (n + 1) s (k : Int)) Q)
    (h2 : ∀ s, inv len s → Ex (fun n => f (n + 1) s (len : Int)) Q) (k : Nat) (s : σ) (hk : k ≤ len) (hi : inv k s) : Ex (fun n => f n s (k : Int)) Q := by
  have key : ∀ (m k : Nat) (s : σ), k + m = len → inv k s → Ex (fun n => f n s (k : Int)) Q := by
    intro m
    induction m with
    | zero =>
      intro k s hk hs
      obtain rfl : k = len := by omega
      exact Ex.succ (h2 s hs)
    | succ m ih =>
      intro k s hk hs
      exact Ex.succ (h1 k s (by omega) hs (fun s' hs' => ih (k + 1) s' (by omega) hs'))
  exact key (len - k) k s (by omega) hi
/-- the same without a state -/
theorem upU {α : Type} (len : Nat) (inv : Nat → Prop) {f : Nat → Int → Option α} {Q : α → Prop}
    (h1 : ∀ (k : Nat), k < len → inv k → (inv (k + 1) → Ex (fun n => f n ((k + 1 : Nat) : Int)) Q) → Ex (fun n => f (n + 1) (k : Int)) Q)
    (h2 : inv len → Ex (fun n => f (n + 1) (len : Int)) Q) (k : Nat) (hk : k ≤ len) (hi : inv k) : Ex (fun n => f n (k : Int)) Q :=
  up (σ := Unit) len (fun k _ => inv k) (f := fun n _ i => f n i) (fun k _ hk hi h => h1 k hk hi (fun h' => h () h')) (fun _ h => h2 h) k () hk hi

theorem notT {b : Bool} (h : (!b) = true) : b = false := by cases b; rfl; cases h
theorem notF {b : Bool} (h : (!b) = false) : b = true := by cases b; cases h; rfl
theorem drop_at {α : Type} {xs : List α} {k : Nat} (d : α) (h : k < xs.length) : xs.drop k = xs.getD k d :: xs.drop (k + 1) := by
  rw [List.drop_eq_getElem_cons h, List.getD_eq_getElem?_getD, List.getElem?_eq_getElem h]; rfl
theorem Ex.uniq {α : Type} {f : Nat → Option α} {a b : α} (h : Ex f (· = a)) (h' : Ex f (· = b)) : a = b := by
  obtain ⟨_, rfl, N, h⟩ := h
  obtain ⟨_, rfl, M, h'⟩ := h'
  have e1 := h (max N M) (by omega)
  have e2 := h' (max N M) (by omega)
  rw [e1] at e2
  exact Option.some.inj e2

def ch (b : UInt8) : Bool := decide (97 ≤ b.toNat) && decide (b.toNat ≤ 122)
def nameOk (s : Str) : Bool := (decide (1 ≤ s.length) && decide (s.length ≤ 4)) && s.all ch

theorem all_split {α : Type} (p : α → Bool) {xs : List α} {k : Nat} (d : α) (h : k < xs.length) : (xs.drop k).all p = (p (xs.getD k d) && (xs.drop (k + 1)).all p) := by
  rw [drop_at d h, List.all_cons]

/-- same parent, same name -/
def sib (p : Int) (s : Str) (x : Nod) : Bool := decide (x.parent = p) && decide (x.name = s)
/-- the place of the first -/
def firstAt {α : Type} (q : α → Bool) : List α → Nat → Int
  | [], _ => -1
  | x :: l, k => if q x = true then (k : Int) else firstAt q l (k + 1)
theorem firstAt_iff {α : Type} (q : α → Bool) : ∀ (l : List α) (k : Nat), (0 ≤ firstAt q l k) ↔ l.any q = true
  | [], k => by simp [firstAt]
  | x :: l, k => by
    rw [firstAt, List.any_cons]
    cases q x with
    | true => simp
    | false => simpa using firstAt_iff q l (k + 1)

def NL (t : List Nod) : Prop := t.length ≤ 1000000000000 ∧ ∀ x ∈ t, x.name.length ≤ 1000000000000

/-- how deep a node lies -/
def dp (t : List Nod) (i : Nat) : Nat :=
  if h : 0 ≤ (t.getD i dnod).parent ∧ (t.getD i dnod).parent.toNat < i then dp t (t.getD i dnod).parent.toNat + 1 else 0
termination_by i
decreasing_by exact h.2

def rv (n : Int) : Bool := decide (-1000 ≤ n) && decide (n ≤ 1000)
def nodeOk (t : List Nod) (i : Nat) : Bool :=
  rv (t.getD i dnod).value && (if i = 0 then decide ((t.getD i dnod).parent = -1) && decide ((t.getD i dnod).name = [])
    else (decide (0 ≤ (t.getD i dnod).parent) && decide ((t.getD i dnod).parent ≤ (i : Int) - 1)) && (nameOk (t.getD i dnod).name && (!(t.take i).any (sib (t.getD i dnod).parent (t.getD i dnod).name) && decide (dp t i ≤ 4))))
def validT (t : List Nod) : Bool := (decide (1 ≤ t.length) && decide (t.length ≤ 12)) && (List.range t.length).all (nodeOk t)

/-- where the parent lies -/
def PO (t : List Nod) (j : Nat) : Prop := if j = 0 then (t.getD j dnod).parent = -1 else 0 ≤ (t.getD j dnod).parent ∧ (t.getD j dnod).parent.toNat < j
theorem nodeOk_PO {t : List Nod} {j : Nat} (h : nodeOk t j = true) : PO t j := by
  unfold PO
  simp only [nodeOk, Bool.and_eq_true] at h
  split
  · rename_i h0
    rw [if_pos h0] at h
    simpa using (Bool.and_eq_true_iff.1 h.2).1
  · rename_i h0
    rw [if_neg h0] at h
    simp only [Bool.and_eq_true, decide_eq_true_eq] at h
    omega

theorem dp_le {t : List Nod} : ∀ i, dp t i ≤ i := by
  intro i
  induction i using Nat.strongRecOn with
  | ind i ih =>
    rw [dp]
    split
    · rename_i h; have := ih _ h.2; omega
    · omega

def okTo (t : List Nod) (k : Nat) : Prop := ∀ j, j < k → nodeOk t j = true

theorem no_root {t : List Nod} (h0 : PO t 0) {p : Int} (hp : 0 ≤ p) (s : Str) {i : Nat} (hi : 0 < i) (hlt : i < t.length) : (firstAt (sib p s) ((t.take i).drop 1) 1 < 0) ↔ (t.take i).any (sib p s) = false := by
  rw [PO, if_pos rfl] at h0
  have e : t.take i = t.getD 0 dnod :: (t.take i).drop 1 := by
    have := drop_at (xs := t.take i) (k := 0) dnod (by simp; omega)
    rw [List.drop_zero] at this
    rw [this]
    congr 1
    rw [List.getD_eq_getElem?_getD, List.getElem?_take_of_lt hi, List.getD_eq_getElem?_getD]
  have h := firstAt_iff (sib p s) ((t.take i).drop 1) 1
  have h2 : (t.take i).any (sib p s) = ((t.take i).drop 1).any (sib p s) := by
    conv => lhs; rw [e]
    rw [List.any_cons]
    have : sib p s (t.getD 0 dnod) = false := by rw [sib, decide_eq_false (by omega)]; rfl
    rw [this, Bool.false_or]
  rw [h2, ← Bool.not_eq_true, ← h]; omega

theorem all_range {n : Nat} {p : Nat → Bool} : (List.range n).all p = true ↔ ∀ j, j < n → p j = true := by
  simp [List.all_eq_true]
theorem all_range_false {n : Nat} {p : Nat → Bool} {k : Nat} (hk : k < n) (h : p k = false) : (List.range n).all p = false := by
  rw [Bool.eq_false_iff]; intro h'; rw [all_range.1 h' k hk] at h; cases h

theorem getD_set' {α : Type} {xs : List α} {i : Nat} {x d : α} (h : i < xs.length) (j : Nat) : (xs.set i x).getD j d = if i = j then x else xs.getD j d := by
  rw [List.getD_eq_getElem?_getD, List.getElem?_set]
  split
  · rfl
  · rw [List.getD_eq_getElem?_getD]
end Go.Proofs.Ythlfcfcfipahiaa
