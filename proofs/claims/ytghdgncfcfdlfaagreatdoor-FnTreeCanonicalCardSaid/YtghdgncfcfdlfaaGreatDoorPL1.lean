/- Plain facts for the law FnTreeCanonical. Conditions: none. -/
import Derived.Test.YtghdgncfcfdlfaaGreatDoorTLx
import Derived.Test.YtghdgncfcfdlfaaGreatDoorTLzb
import Derived.Lib.ItoaNum
import Derived.Lib.Split
import Derived.Lib.IndexLaws
import Derived.Lib.AtoiAllCases
import Derived.Test.YtghdgncfcfdlfaaGreatDoorTT
namespace Go.Proofs.YtghdgncfcfdlfaaGreatDoor
section
open Go
theorem w64_id {n : Int} (h1 : -9223372036854775808 ≤ n) (h2 : n ≤ 9223372036854775807) : w64 n = n := by
 show IntKind.i64.wrap n = n
 unfold IntKind.wrap
 simp [IntKind.bits, IntKind.signed]
 omega
theorem w64_succ {k : Nat} (h : k < 1099511627776) : w64 ((k : Int) + 1) = ((k + 1 : Nat) : Int) := by
 rw [w64_id (by omega) (by omega)]; omega
end
section
open Go
/-- with enough fuel f comes to something that P holds of -/
def Ex {α : Type} (f : Nat → Option α) (P : α → Prop) : Prop := ∃ r, P r ∧ ∃ N, ∀ n, N ≤ n → f n = some r
theorem Ex.ret {α : Type} {P : α → Prop} {r : α} (h : P r) : Ex (fun _ => some r) P := ⟨r, h, 0, fun _ _ => rfl⟩
theorem Ex.const {α : Type} {P : α → Prop} {x : Option α} {r : α} (e : x = some r) (h : P r) : Ex (fun _ => x) P := ⟨r, h, 0, fun _ _ => e⟩
theorem Ex.mono {α : Type} {f : Nat → Option α} {P Q : α → Prop} (h : Ex f P) (k : ∀ r, P r → Q r) : Ex f Q := by
 obtain ⟨r, h1, h2⟩ := h; exact ⟨r, k r h1, h2⟩
theorem Ex.bind {α β : Type} {f : Nat → Option α} {g : Nat → α → Option β} {P : α → Prop} {Q : β → Prop} (h : Ex f P) (k : ∀ a, P a → Ex (fun n => g n a) Q) : Ex (fun n => bindO (f n) (g n)) Q := by
 obtain ⟨a, h1, N, h2⟩ := h
 obtain ⟨r, k1, M, k2⟩ := k a h1
 refine ⟨r, k1, max N M, fun n hn => ?_⟩
 show bindO (f n) (g n) = some r
 rw [h2 n (by omega)]
 exact k2 n (by omega)
/-- a call that comes to one value -/
theorem Ex.be {α β : Type} {f : Nat → Option α} {g : Nat → α → Option β} {a : α} {Q : β → Prop} (h : Ex f (· = a)) (k : Ex (fun n => g n a) Q) : Ex (fun n => bindO (f n) (g n)) Q := Ex.bind h (fun b hb => by subst hb; exact k)
/-- a call without fuel that comes to one value -/
theorem Ex.bc {α β : Type} {x : Option α} {g : Nat → α → Option β} {a : α} {Q : β → Prop} (h : x = some a) (k : Ex (fun n => g n a) Q) : Ex (fun n => bindO x (g n)) Q := by subst h; exact k
theorem Ex.guard {α : Type} {c : Prop} [Decidable c] {f : Nat → Option α} {P : α → Prop} (h : c) (k : Ex f P) : Ex (fun n => guardO c (f n)) P := by
 have : (fun n => guardO c (f n)) = f := by funext n; exact guardO_pos h
 rw [this]; exact k
theorem Ex.ite {α : Type} {b : Bool} {f g : Nat → Option α} {P : α → Prop} (h1 : b = true → Ex f P) (h2 : b = false → Ex g P) : Ex (fun n => iteO b (f n) (g n)) P := by
 cases b with
 | true => exact h1 rfl
 | false => exact h2 rfl
theorem Ex.yes {α : Type} {b : Bool} {f g : Nat → Option α} {P : α → Prop} (h : b = true) (k : Ex f P) : Ex (fun n => iteO b (f n) (g n)) P := by subst h; exact k
theorem Ex.no {α : Type} {b : Bool} {f g : Nat → Option α} {P : α → Prop} (h : b = false) (k : Ex g P) : Ex (fun n => iteO b (f n) (g n)) P := by subst h; exact k
theorem Ex.succ {α : Type} {f : Nat → Option α} {P : α → Prop} (h : Ex (fun n => f (n + 1)) P) : Ex f P := by
 obtain ⟨r, h1, N, h2⟩ := h
 refine ⟨r, h1, N + 1, fun n hn => ?_⟩
 obtain ⟨m, rfl⟩ : ∃ m, n = m + 1 := ⟨n - 1, by omega⟩
 exact h2 m (by omega)
theorem Ex.get {α : Type} {f : Nat → Option α} {r : α} (h : Ex f (· = r)) : ∃ n, f n = some r := by
 obtain ⟨a, rfl, N, h⟩ := h; exact ⟨N, h N (Nat.le_refl _)⟩
theorem u8_wf {xs : List Int} (h : ∀ x ∈ xs, RC.wf .u8 x) : ∀ x ∈ xs, 0 ≤ x ∧ x ≤ 255 := by
 intro x hx
 obtain ⟨n, h1, h2, h3⟩ := (h x hx).1
 cases h1
 exact ⟨h2, h3⟩
theorem getD_mem {α : Type} {xs : List α} {k : Nat} {d : α} (h : k < xs.length) : xs.getD k d ∈ xs := by
 rw [List.getD_eq_getElem?_getD, List.getElem?_eq_getElem h]; exact List.getElem_mem h
theorem view_all {α : Type} (xs : List α) : (xs.drop 0).take xs.length = xs := by simp
/-- a loop that goes through without a change -/
theorem skip_loop {α : Type} (len : Nat) {f : Nat → Int → Option α} {B : α}
  (h1 : ∀ k : Nat, k < len → ∀ r, Ex (fun n => f n ((k + 1 : Nat) : Int)) (· = r) → Ex (fun n => f (n + 1) (k : Int)) (· = r))
  (h2 : Ex (fun n => f (n + 1) (len : Int)) (· = B)) : Ex (fun n => f n 0) (· = B) := by
 have key : ∀ (m k : Nat), k + m = len → Ex (fun n => f n (k : Int)) (· = B) := by
  intro m
  induction m with
  | zero =>
   intro k hk
   obtain rfl : k = len := by omega
   exact Ex.succ h2
  | succ m ih =>
   intro k hk
   exact Ex.succ (h1 k (by omega) _ (ih (k + 1) (by omega)))
 exact key len 0 (by omega)
theorem Ex.code {f : Nat → Option Bool} {x1 : List Int} {P : Bool → Prop} (ht : P true) (h : x1.length ≤ 1048576 → Ex f P) : Ex (fun n => iteO (decide (1048576 < ((x1.length : Nat) : Int))) (some true) (f n)) P := by
 refine Ex.ite (fun _ => Ex.ret ht) (fun hb => h ?_)
 have := of_decide_eq_false hb
 omega
end
section
open Go
/-- a loop with a state: what holds ahead of each round -/
theorem up {σ α : Type} (len : Nat) (inv : Nat → σ → Prop) {f : Nat → σ → Int → Option α} {Q : α → Prop}
  (h1 : ∀ (k : Nat) (s : σ), k < len → inv k s → (∀ s', inv (k + 1) s' → Ex (fun n => f n s' ((k + 1 : Nat) : Int)) Q) → Ex (fun n => f (n + 1) s (k : Int)) Q)
  (h2 : ∀ s, inv len s → Ex (fun n => f (n + 1) s (len : Int)) Q) (k : Nat) (s : σ) (hk : k ≤ len) (hi : inv k s) : Ex (fun n => f n s (k : Int)) Q := by
 have key : ∀ (m k : Nat) (s : σ), k + m = len → inv k s → Ex (fun n => f n s (k : Int)) Q := by
  intro m
  induction m with
  | zero =>
   intro k s hk hs
   obtain rfl : k = len := by omega
   exact Ex.succ (h2 s hs)
  | succ m ih =>
   intro k s hk hs
   exact Ex.succ (h1 k s (by omega) hs (fun s' hs' => ih (k + 1) s' (by omega) hs'))
 exact key (len - k) k s (by omega) hi
/-- the same without a state -/
theorem upU {α : Type} (len : Nat) (inv : Nat → Prop) {f : Nat → Int → Option α} {Q : α → Prop}
  (h1 : ∀ (k : Nat), k < len → inv k → (inv (k + 1) → Ex (fun n => f n ((k + 1 : Nat) : Int)) Q) → Ex (fun n => f (n + 1) (k : Int)) Q)
  (h2 : inv len → Ex (fun n => f (n + 1) (len : Int)) Q) (k : Nat) (hk : k ≤ len) (hi : inv k) : Ex (fun n => f n (k : Int)) Q :=
 up (σ := Unit) len (fun k _ => inv k) (f := fun n _ i => f n i) (fun k _ hk hi h => h1 k hk hi (fun h' => h () h')) (fun _ h => h2 h) k () hk hi
theorem notT {b : Bool} (h : (!b) = true) : b = false := by cases b; rfl; cases h
theorem notF {b : Bool} (h : (!b) = false) : b = true := by cases b; cases h; rfl
theorem drop_at {α : Type} {xs : List α} {k : Nat} (d : α) (h : k < xs.length) : xs.drop k = xs.getD k d :: xs.drop (k + 1) := by
 rw [List.drop_eq_getElem_cons h, List.getD_eq_getElem?_getD, List.getElem?_eq_getElem h]; rfl
def ch (b : UInt8) : Bool := decide (97 ≤ b.toNat) && decide (b.toNat ≤ 122)
def nameOk (s : Str) : Bool := (decide (1 ≤ s.length) && decide (s.length ≤ 4)) && s.all ch
theorem all_split {α : Type} (p : α → Bool) {xs : List α} {k : Nat} (d : α) (h : k < xs.length) : (xs.drop k).all p = (p (xs.getD k d) && (xs.drop (k + 1)).all p) := by
 rw [drop_at d h, List.all_cons]
/-- same parent, same name -/
def sib (p : Int) (s : Str) (x : Nod) : Bool := decide (x.parent = p) && decide (x.name = s)
/-- the place of the first -/
def firstAt {α : Type} (q : α → Bool) : List α → Nat → Int
 | [], _ => -1
 | x :: l, k => if q x = true then (k : Int) else firstAt q l (k + 1)
theorem firstAt_iff {α : Type} (q : α → Bool) : ∀ (l : List α) (k : Nat), (0 ≤ firstAt q l k) ↔ l.any q = true
 | [], k => by simp [firstAt]
 | x :: l, k => by
  rw [firstAt, List.any_cons]
  cases q x with
  | true => simp
  | false => simpa using firstAt_iff q l (k + 1)
def NL (t : List Nod) : Prop := t.length ≤ 1000000000000 ∧ ∀ x ∈ t, x.name.length ≤ 1000000000000
/-- how deep a node lies -/
def dp (t : List Nod) (i : Nat) : Nat :=
 if h : 0 ≤ (t.getD i dnod).parent ∧ (t.getD i dnod).parent.toNat < i then dp t (t.getD i dnod).parent.toNat + 1 else 0
termination_by i
decreasing_by exact h.2
def rv (n : Int) : Bool := decide (-1000 ≤ n) && decide (n ≤ 1000)
def nodeOk (t : List Nod) (i : Nat) : Bool :=
 rv (t.getD i dnod).value && (if i = 0 then decide ((t.getD i dnod).parent = -1) && decide ((t.getD i dnod).name = [])
  else (decide (0 ≤ (t.getD i dnod).parent) && decide ((t.getD i dnod).parent ≤ (i : Int) - 1)) && (nameOk (t.getD i dnod).name && (!(t.take i).any (sib (t.getD i dnod).parent (t.getD i dnod).name) && decide (dp t i ≤ 4))))
def validT (t : List Nod) : Bool := (decide (1 ≤ t.length) && decide (t.length ≤ 12)) && (List.range t.length).all (nodeOk t)
/-- where the parent lies -/
def PO (t : List Nod) (j : Nat) : Prop := if j = 0 then (t.getD j dnod).parent = -1 else 0 ≤ (t.getD j dnod).parent ∧ (t.getD j dnod).parent.toNat < j
theorem nodeOk_PO {t : List Nod} {j : Nat} (h : nodeOk t j = true) : PO t j := by
 unfold PO
 simp only [nodeOk, Bool.and_eq_true] at h
 split
 ·rename_i h0
  rw [if_pos h0] at h
  simpa using (Bool.and_eq_true_iff.1 h.2).1
 ·rename_i h0
  rw [if_neg h0] at h
  simp only [Bool.and_eq_true, decide_eq_true_eq] at h
  omega
theorem dp_le {t : List Nod} : ∀ i, dp t i ≤ i := by
 intro i
 induction i using Nat.strongRecOn with
 | ind i ih =>
  rw [dp]
  split
  ·rename_i h; have := ih _ h.2; omega
  ·omega
def okTo (t : List Nod) (k : Nat) : Prop := ∀ j, j < k → nodeOk t j = true
theorem no_root {t : List Nod} (h0 : PO t 0) {p : Int} (hp : 0 ≤ p) (s : Str) {i : Nat} (hi : 0 < i) (hlt : i < t.length) : (firstAt (sib p s) ((t.take i).drop 1) 1 < 0) ↔ (t.take i).any (sib p s) = false := by
 rw [PO, if_pos rfl] at h0
 have e : t.take i = t.getD 0 dnod :: (t.take i).drop 1 := by
  have := drop_at (xs := t.take i) (k := 0) dnod (by simp; omega)
  rw [List.drop_zero] at this
  rw [this]
  congr 1
  rw [List.getD_eq_getElem?_getD, List.getElem?_take_of_lt hi, List.getD_eq_getElem?_getD]
 have h := firstAt_iff (sib p s) ((t.take i).drop 1) 1
 have h2 : (t.take i).any (sib p s) = ((t.take i).drop 1).any (sib p s) := by
  conv => lhs; rw [e]
  rw [List.any_cons]
  have : sib p s (t.getD 0 dnod) = false := by rw [sib, decide_eq_false (by omega)]; rfl
  rw [this, Bool.false_or]
 rw [h2, ← Bool.not_eq_true, ← h]; omega
theorem all_range {n : Nat} {p : Nat → Bool} : (List.range n).all p = true ↔ ∀ j, j < n → p j = true := by
 simp [List.all_eq_true]
theorem all_range_false {n : Nat} {p : Nat → Bool} {k : Nat} (hk : k < n) (h : p k = false) : (List.range n).all p = false := by
 rw [Bool.eq_false_iff]; intro h'; rw [all_range.1 h' k hk] at h; cases h
theorem getD_set' {α : Type} {xs : List α} {i : Nat} {x d : α} (h : i < xs.length) (j : Nat) : (xs.set i x).getD j d = if i = j then x else xs.getD j d := by
 rw [List.getD_eq_getElem?_getD, List.getElem?_set]
 split
 ·rfl
 ·rw [List.getD_eq_getElem?_getD]
end
section
open Go
set_option linter.unusedVariables false
def pa (t : List Nod) (i : Nat) : Int := (t.getD i dnod).parent
def nmo (t : List Nod) (i : Nat) : Str := (t.getD i dnod).name
def va (t : List Nod) (i : Nat) : Int := (t.getD i dnod).value
structure VT (t : List Nod) : Prop where
 lo : 1 ≤ t.length
 hi : t.length ≤ 12
 val : ∀ i, i < t.length → -1000 ≤ va t i ∧ va t i ≤ 1000
 rp : pa t 0 = -1
 rn : nmo t 0 = []
 par : ∀ i, 0 < i → i < t.length → 0 ≤ pa t i ∧ (pa t i).toNat < i
 nam : ∀ i, 0 < i → i < t.length → nameOk (nmo t i) = true
 sib : ∀ i j, 0 < i → i < j → j < t.length → pa t i = pa t j → nmo t i ≠ nmo t j
 dep : ∀ i, i < t.length → dp t i ≤ 4
theorem take_any {t : List Nod} {i : Nat} {q : Nod → Bool} (hi : i ≤ t.length) : (t.take i).any q = true ↔ ∃ j, j < i ∧ q (t.getD j dnod) = true := by
 rw [List.any_eq_true]
 constructor
 ·rintro ⟨x, hx, hq⟩
  obtain ⟨j, hj, rfl⟩ := List.mem_iff_getElem.1 hx
  have hj' : j < i := by simp at hj; omega
  refine ⟨j, hj', ?_⟩
  rw [List.getElem_take] at hq
  rwa [List.getD_eq_getElem?_getD, List.getElem?_eq_getElem (by omega)]
 ·rintro ⟨j, hj, hq⟩
  refine ⟨t.getD j dnod, ?_, hq⟩
  rw [List.getD_eq_getElem?_getD, List.getElem?_eq_getElem (by omega : j < t.length)]
  show t[j] ∈ t.take i
  rw [List.mem_take_iff_getElem]
  exact ⟨j, by omega, rfl⟩
theorem validT_iff {t : List Nod} : validT t = true ↔ VT t := by
 constructor
 ·intro h
  simp only [validT, Bool.and_eq_true, decide_eq_true_eq] at h
  obtain ⟨⟨h1, h2⟩, h3⟩ := h
  have h3 := all_range.1 h3
  have h4 : ∀ i, 0 < i → i < t.length → rv (va t i) = true ∧ (0 ≤ pa t i ∧ pa t i ≤ (i : Int) - 1) ∧ nameOk (nmo t i) = true ∧ (t.take i).any (Go.Proofs.YtghdgncfcfdlfaaGreatDoor.sib (pa t i) (nmo t i)) = false ∧ dp t i ≤ 4 := by
   intro i h0 hi
   have := h3 i hi
   rw [nodeOk, if_neg (by omega)] at this
   simp only [Bool.and_eq_true, decide_eq_true_eq] at this
   exact ⟨this.1, this.2.1, this.2.2.1, notT this.2.2.2.1, this.2.2.2.2⟩
  have h5 := h3 0 (by omega)
  rw [nodeOk, if_pos rfl] at h5
  simp only [Bool.and_eq_true, decide_eq_true_eq] at h5
  have hr : ∀ i, i < t.length → rv (va t i) = true := by
   intro i hi
   rcases Nat.eq_zero_or_pos i with rfl | h0
   ·exact h5.1
   ·exact (h4 i h0 hi).1
  refine ⟨h1, h2, fun i hi => ?_, h5.2.1, h5.2.2, fun i h0 hi => ?_, fun i h0 hi => (h4 i h0 hi).2.2.1, fun i j h0 hij hj e1 e2 => ?_, fun i hi => ?_⟩
  ·have := hr i hi
   simp only [rv, Bool.and_eq_true, decide_eq_true_eq] at this
   exact this
  ·have := (h4 i h0 hi).2.1; omega
  ·have := (h4 j (by omega) hj).2.2.2.1
   rw [← Bool.not_eq_true, take_any (by omega)] at this
   refine this ⟨i, hij, ?_⟩
   simp only [Go.Proofs.YtghdgncfcfdlfaaGreatDoor.sib, Bool.and_eq_true, decide_eq_true_eq]
   exact ⟨e1, e2⟩
  ·rcases Nat.eq_zero_or_pos i with rfl | h0
   ·rw [dp, dif_neg (by have := h5.2.1; omega)]; omega
   ·exact (h4 i h0 hi).2.2.2.2
 ·intro h
  have := h.lo
  have := h.hi
  simp only [validT, Bool.and_eq_true, decide_eq_true_eq]
  refine ⟨⟨by omega, by omega⟩, all_range.2 fun i hi => ?_⟩
  have hv : rv (t.getD i dnod).value = true := by
   have := h.val i hi
   simp only [rv, Bool.and_eq_true, decide_eq_true_eq]
   exact this
  rw [nodeOk, hv, Bool.true_and]
  split
  ·rename_i e
   subst e
   have := h.rp
   have := h.rn
   simp only [Bool.and_eq_true, decide_eq_true_eq]
   exact ⟨h.rp, h.rn⟩
  ·rename_i e
   have h1 := h.par i (by omega) hi
   simp only [pa] at h1
   simp only [Bool.and_eq_true, decide_eq_true_eq]
   refine ⟨by omega, h.nam i (by omega) hi, ?_, h.dep i hi⟩
   rw [Bool.not_eq_true', ← Bool.not_eq_true, take_any (by omega)]
   rintro ⟨j, hj, hq⟩
   simp only [Go.Proofs.YtghdgncfcfdlfaaGreatDoor.sib, Bool.and_eq_true, decide_eq_true_eq] at hq
   rcases Nat.eq_zero_or_pos j with rfl | h0
   ·have := h.rp; simp only [pa] at this; omega
   ·exact h.sib j i h0 hj hi hq.1 hq.2
/-- the names on the way to a node -/
def np (t : List Nod) (i : Nat) : List Str :=
 if h : 0 ≤ (t.getD i dnod).parent ∧ (t.getD i dnod).parent.toNat < i then np t (t.getD i dnod).parent.toNat ++ [(t.getD i dnod).name] else []
termination_by i
decreasing_by exact h.2
/-- the nodes on the way to a node -/
def ix (t : List Nod) (i : Nat) : List Nat :=
 if h : 0 ≤ (t.getD i dnod).parent ∧ (t.getD i dnod).parent.toNat < i then ix t (t.getD i dnod).parent.toNat ++ [i] else [i]
termination_by i
decreasing_by exact h.2
theorem np_ix {t : List Nod} : ∀ i, (ix t i).map (nmo t) = nmo t ((ix t i).headD 0) :: np t i ∧ (ix t i).length = dp t i + 1 := by
 intro i
 induction i using Nat.strongRecOn with
 | ind i ih =>
  rw [ix, np, dp]
  split
  ·rename_i h
   obtain ⟨h1, h2⟩ := ih _ h.2
   refine ⟨?_, by rw [List.length_append, h2]; rfl⟩
   rw [List.map_append, h1, List.cons_append]
   have : (ix t (t.getD i dnod).parent.toNat ++ [i]).headD 0 = (ix t (t.getD i dnod).parent.toNat).headD 0 := by
    cases hx : ix t (t.getD i dnod).parent.toNat with
    | nil => rw [hx] at h2; simp at h2
    | cons a l => rfl
   rw [this]
   rfl
  ·exact ⟨rfl, rfl⟩
variable {t : List Nod}
theorem np_zero (h : VT t) : np t 0 = [] := by
 rw [np, dif_neg (by omega)]
theorem np_pos (h : VT t) {i : Nat} (h0 : 0 < i) (hi : i < t.length) : np t i = np t (pa t i).toNat ++ [nmo t i] := by
 have := h.par i h0 hi
 simp only [pa] at this
 rw [np, dif_pos this]; rfl
theorem dp_pos (h : VT t) {i : Nat} (h0 : 0 < i) (hi : i < t.length) : dp t i = dp t (pa t i).toNat + 1 := by
 have := h.par i h0 hi
 simp only [pa] at this
 rw [dp, dif_pos this]; rfl
theorem ix_pos (h : VT t) {i : Nat} (h0 : 0 < i) (hi : i < t.length) : ix t i = ix t (pa t i).toNat ++ [i] := by
 have := h.par i h0 hi
 simp only [pa] at this
 rw [ix, dif_pos this]; rfl
theorem np_len : ∀ i, (np t i).length = dp t i := by
 intro i
 induction i using Nat.strongRecOn with
 | ind i ih =>
  rw [np, dp]
  split
  ·rename_i h; rw [List.length_append, ih _ h.2]; rfl
  ·rfl
theorem np_inj (h : VT t) : ∀ i, i < t.length → ∀ j, j < t.length → np t i = np t j → i = j := by
 intro i
 induction i using Nat.strongRecOn with
 | ind i ih =>
  intro hi j hj e
  rcases Nat.eq_zero_or_pos i with rfl | hi0
  ·rcases Nat.eq_zero_or_pos j with rfl | hj0
   ·rfl
   ·rw [np_zero h, np_pos h hj0 hj] at e; simp at e
  ·rcases Nat.eq_zero_or_pos j with rfl | hj0
   ·rw [np_zero h, np_pos h hi0 hi] at e; simp at e
   ·rw [np_pos h hi0 hi, np_pos h hj0 hj] at e
    have e1 := List.append_inj' e rfl
    have e2 : nmo t i = nmo t j := by simpa using e1.2
    have p1 := h.par i hi0 hi
    have p2 := h.par j hj0 hj
    have e3 := ih _ p1.2 (by omega) _ (by omega) e1.1
    have e4 : pa t i = pa t j := by omega
    rcases Nat.lt_trichotomy i j with hlt | rfl | hlt
    ·exact absurd e2 (h.sib i j hi0 hlt hj e4)
    ·rfl
    ·exact absurd e2.symm (h.sib j i hj0 hlt hi e4.symm)
theorem np_names (h : VT t) : ∀ i, i < t.length → ∀ s ∈ np t i, nameOk s = true := by
 intro i
 induction i using Nat.strongRecOn with
 | ind i ih =>
  intro hi s hs
  rcases Nat.eq_zero_or_pos i with rfl | hi0
  ·rw [np_zero h] at hs; cases hs
  ·rw [np_pos h hi0 hi] at hs
   rcases List.mem_append.1 hs with h1 | h1
   ·have := h.par i hi0 hi
    exact ih _ this.2 (by omega) s h1
   ·rw [List.mem_singleton.1 h1]; exact h.nam i hi0 hi
/-- what is above lies in the tree -/
theorem np_up (h : VT t) : ∀ i, i < t.length → ∀ l l', np t i = l ++ l' → ∃ k, k ≤ i ∧ np t k = l := by
 intro i
 induction i using Nat.strongRecOn with
 | ind i ih =>
  intro hi l l' e
  rcases List.eq_nil_or_concat l' with rfl | ⟨m, x, rfl⟩
  ·exact ⟨i, Nat.le_refl _, by simpa using e⟩
  ·rcases Nat.eq_zero_or_pos i with rfl | hi0
   ·rw [np_zero h] at e; simp at e
   ·rw [np_pos h hi0 hi, List.concat_eq_append, ← List.append_assoc] at e
    have e1 := List.append_inj' e rfl
    have p1 := h.par i hi0 hi
    obtain ⟨k, k1, k2⟩ := ih _ p1.2 (by omega) l m e1.1
    exact ⟨k, by omega, k2⟩
/-- the node with names above it -/
def loo (t : List Nod) (l : List Str) : Option Nat := (List.range t.length).find? fun i => decide (np t i = l)
theorem loo_iff (h : VT t) {l : List Str} {i : Nat} : loo t l = some i ↔ i < t.length ∧ np t i = l := by
 unfold loo
 constructor
 ·intro e
  have h1 := List.find?_some e
  have h2 := List.mem_of_find?_eq_some e
  exact ⟨by simpa using h2, by simpa using h1⟩
 ·rintro ⟨h1, h2⟩
  cases e : (List.range t.length).find? fun i => decide (np t i = l) with
  | none =>
   rw [List.find?_eq_none] at e
   exact absurd (decide_eq_true h2) (e i (by simpa using h1))
  | some j =>
   have h3 := List.find?_some e
   have h4 := List.mem_of_find?_eq_some e
   rw [np_inj h j (by simpa using h4) i h1 (by rw [h2]; simpa using h3)]
theorem loo_none {l : List Str} : loo t l = none ↔ ∀ i, i < t.length → np t i ≠ l := by
 unfold loo
 rw [List.find?_eq_none]
 constructor
 ·intro h i hi e
  exact h i (by simpa using hi) (by simpa using e)
 ·intro h i hi
  have := h i (by simpa using hi)
  simpa using this
theorem loo_np (h : VT t) {i : Nat} (hi : i < t.length) : loo t (np t i) = some i := (loo_iff h).2 ⟨hi, rfl⟩
theorem firstAt_spec {α : Type} (q : α → Bool) (d : α) : ∀ (l : List α) (k : Nat), (firstAt q l k = -1 ∧ ∀ j, j < l.length → q (l.getD j d) = false) ∨ ∃ j, j < l.length ∧ firstAt q l k = ((k + j : Nat) : Int) ∧ q (l.getD j d) = true ∧ ∀ i, i < j → q (l.getD i d) = false
 | [], k => .inl ⟨rfl, fun j hj => by simp at hj⟩
 | x :: l, k => by
  rw [firstAt]
  cases hq : q x with
  | true => exact .inr ⟨0, by simp, by simp, by simpa using hq, fun i hi => by omega⟩
  | false =>
   rw [if_neg (by simp)]
   rcases firstAt_spec q d l (k + 1) with ⟨h1, h2⟩ | ⟨j, h1, h2, h3, h4⟩
   ·refine .inl ⟨h1, fun j hj => ?_⟩
    cases j with
    | zero => simpa using hq
    | succ j => simpa using h2 j (by simpa using hj)
   ·refine .inr ⟨j + 1, by simpa using h1, by rw [h2]; omega, by simpa using h3, fun i hi => ?_⟩
    cases i with
    | zero => simpa using hq
    | succ i => simpa using h4 i (by omega)
/-- going down by names -/
def desc (t : List Nod) : Int → List Str → Int
 | a, [] => a
 | a, n :: ns => if firstAt (sib a n) t 0 < 0 then -1 else desc t (firstAt (sib a n) t 0) ns
theorem kid_spec (h : VT t) {a : Nat} {n : Str} (ha : a < t.length) : (firstAt (sib a n) t 0 = -1 ∧ loo t (np t a ++ [n]) = none) ∨ ∃ k, k < t.length ∧ firstAt (sib a n) t 0 = (k : Int) ∧ np t k = np t a ++ [n] := by
 rcases firstAt_spec (sib a n) dnod t 0 with ⟨h1, h2⟩ | ⟨j, h1, h2, h3, h4⟩
 ·refine .inl ⟨h1, loo_none.2 fun i hi e => ?_⟩
  rcases Nat.eq_zero_or_pos i with rfl | hi0
  ·rw [np_zero h] at e; simp at e
  ·rw [np_pos h hi0 hi] at e
   have e1 := List.append_inj' e rfl
   have p1 := h.par i hi0 hi
   have e2 := np_inj h _ (by omega) _ ha e1.1
   have := h2 i hi
   rw [sib, decide_eq_true (show (t.getD i dnod).parent = (a : Int) from (by omega : pa t i = (a : Int))), decide_eq_true (by have := e1.2; simp at this; exact this)] at this
   simp at this
 ·rw [Nat.zero_add] at h2
  refine .inr ⟨j, h1, h2, ?_⟩
  simp only [sib, Bool.and_eq_true, decide_eq_true_eq] at h3
  have hj : 0 < j := by
   rcases Nat.eq_zero_or_pos j with rfl | hj0
   ·have := h.rp; rw [pa] at this; omega
   ·exact hj0
  rw [np_pos h hj h1]
  have e : (pa t j).toNat = a := by rw [pa]; omega
  rw [e]; congr 2; exact h3.2
theorem desc_spec (h : VT t) : ∀ (ns : List Str) (a : Nat), a < t.length → desc t a ns = (match loo t (np t a ++ ns) with | some k => (k : Int) | none => -1)
 | [], a, ha => by
  rw [List.append_nil, loo_np h ha]; rfl
 | n :: ns, a, ha => by
  rw [desc]
  rcases kid_spec h (n := n) ha with ⟨h1, h2⟩ | ⟨k, h1, h2, h3⟩
  ·rw [h1, if_pos (by omega)]
   have : loo t (np t a ++ n :: ns) = none := by
    rw [loo_none]
    intro i hi e
    have e' : np t i = (np t a ++ [n]) ++ ns := by rw [e]; simp
    obtain ⟨k, hk, hk2⟩ := np_up h i hi _ _ e'
    exact loo_none.1 h2 k (by omega) hk2
   rw [this]
  ·rw [h2, if_neg (by omega), desc_spec h ns k h1, h3, List.append_assoc]; rfl
end
section
open Go
set_option linter.unusedVariables false
/-- a text cut at every byte of a kind -/
def spl (c : UInt8) : Str → List Str
 | [] => [[]]
 | x :: s => if x = c then [] :: spl c s else match spl c s with
  | [] => [[x]]
  | h :: r => (x :: h) :: r
theorem spl_ne (c : UInt8) (s : Str) : spl c s ≠ [] := by
 cases s with
 | nil => simp [spl]
 | cons x s =>
  rw [spl]
  split
  ·simp
  ·split <;> simp
theorem spl_none {c : UInt8} : ∀ {a : Str}, c ∉ a → spl c a = [a]
 | [], _ => rfl
 | x :: a, h => by
  rw [spl, if_neg (by rintro rfl; simp at h), spl_none (by simp at h; exact h.2)]
theorem spl_at {c : UInt8} {b : Str} : ∀ {a : Str}, c ∉ a → spl c (a ++ c :: b) = a :: spl c b
 | [], _ => by rw [List.nil_append, spl, if_pos rfl]
 | x :: a, h => by
  rw [List.cons_append, spl, if_neg (by rintro rfl; simp at h), spl_at (by simp at h; exact h.2)]
/-- the first place of a byte -/
theorem cut_at (c : UInt8) : ∀ (s : Str), c ∉ s ∨ ∃ a b, s = a ++ c :: b ∧ c ∉ a
 | [] => .inl (by simp)
 | x :: s => by
  by_cases h : x = c
  ·subst h; exact .inr ⟨[], s, rfl, by simp⟩
  ·rcases cut_at c s with h1 | ⟨a, b, rfl, h1⟩
   ·exact .inl (by simp only [List.mem_cons, not_or]; exact ⟨Ne.symm h, h1⟩)
   ·exact .inr ⟨x :: a, b, rfl, by simp only [List.mem_cons, not_or]; exact ⟨Ne.symm h, h1⟩⟩
/-- texts put together, each behind a byte -/
def fm (c : UInt8) (l : List Str) : Str := l.flatMap fun s => c :: s
theorem fm_nil (c : UInt8) : fm c [] = [] := rfl
theorem fm_cons (c : UInt8) (s : Str) (l : List Str) : fm c (s :: l) = c :: (s ++ fm c l) := by simp [fm]
theorem fm_app (c : UInt8) (l l' : List Str) : fm c (l ++ l') = fm c l ++ fm c l' := by simp [fm]
theorem fm_spl (c : UInt8) : ∀ (s : Str), fm c (spl c s) = c :: s
 | [] => rfl
 | x :: s => by
  rw [spl]
  split
  ·rename_i h; rw [fm_cons, fm_spl c s, h]; rfl
  ·cases hx : spl c s with
   | nil => exact absurd hx (spl_ne c s)
   | cons h r =>
    have := fm_spl c s
    rw [hx, fm_cons] at this
    simp only [fm_cons, List.cons_append]
    rw [List.cons.injEq] at this
    rw [this.2]
theorem spl_fm {c : UInt8} : ∀ {l : List Str} {s : Str}, (∀ x ∈ s :: l, c ∉ x) → spl c (s ++ fm c l) = s :: l
 | [], s, h => by rw [fm_nil, List.append_nil, spl_none (h s (by simp))]
 | x :: l, s, h => by
  rw [fm_cons, spl_at (h s (by simp)), spl_fm (fun y hy => h y (by simp at hy ⊢; exact .inr hy))]
/-- the text of a path -/
def ptx (l : List Str) : Str := if l = [] then [47] else fm 47 l
/-- the path of a text -/
def pth : Str → Option (List Str)
 | [] => none
 | c :: r => if c = 47 then (if r = [] then some [] else some (spl 47 r)) else none
theorem ptx_pth {s : Str} {l : List Str} (h : pth s = some l) : ptx l = s := by
 cases s with
 | nil => cases h
 | cons c r =>
  rw [pth] at h
  split at h
  ·rename_i hc
   split at h
   ·rename_i hr; cases h; rw [hc, hr]; rfl
   ·rename_i hr
    cases h
    rw [ptx, if_neg (spl_ne _ _), fm_spl, hc]
  ·cases h
theorem name_no {s : Str} (h : nameOk s = true) : (47 : UInt8) ∉ s ∧ s ≠ [] := by
 simp only [nameOk, Bool.and_eq_true, decide_eq_true_eq, List.all_eq_true] at h
 refine ⟨fun h' => ?_, fun h' => ?_⟩
 ·have := h.2 47 h'
  exact absurd this (by decide)
 ·rw [h'] at h; simp at h
theorem pth_ptx {l : List Str} (h : ∀ s ∈ l, nameOk s = true) : pth (ptx l) = some l := by
 cases l with
 | nil => rfl
 | cons s l =>
  rw [ptx, if_neg (by simp), fm_cons, pth, if_pos rfl, if_neg (by
   have := (name_no (h s (by simp))).2
   cases s with
   | nil => exact absurd rfl this
   | cons a b => simp)]
  rw [spl_fm (fun x hx => (name_no (h x hx)).1)]
theorem ptx_inj {l l' : List Str} (h : ∀ s ∈ l, nameOk s = true) (h' : ∀ s ∈ l', nameOk s = true) (e : ptx l = ptx l') : l = l' := by
 have := pth_ptx h
 rw [e, pth_ptx h'] at this
 exact (Option.some.inj this).symm
/-- the node with a path -/
def resO (t : List Nod) (s : Str) : Option Nat := (pth s).bind (loo t)
def oi : Option Nat → Int
 | some k => (k : Int)
 | none => -1
def res (t : List Nod) (s : Str) : Int := oi (resO t s)
variable {t : List Nod}
theorem resO_iff (h : VT t) {s : Str} {k : Nat} : resO t s = some k ↔ k < t.length ∧ ptx (np t k) = s := by
 unfold resO
 constructor
 ·intro e
  cases hp : pth s with
  | none => rw [hp] at e; cases e
  | some l =>
   rw [hp] at e
   obtain ⟨h1, h2⟩ := (loo_iff h).1 e
   exact ⟨h1, by rw [h2]; exact ptx_pth hp⟩
 ·rintro ⟨h1, rfl⟩
  rw [pth_ptx (np_names h k h1)]
  exact loo_np h h1
theorem resO_np (h : VT t) {k : Nat} (hk : k < t.length) : resO t (ptx (np t k)) = some k := (resO_iff h).2 ⟨hk, rfl⟩
theorem resO_none {s : Str} (h : VT t) : resO t s = none ↔ ∀ i, i < t.length → ptx (np t i) ≠ s := by
 constructor
 ·intro e i hi e'
  rw [(resO_iff h).2 ⟨hi, e'⟩] at e; cases e
 ·intro h'
  cases e : resO t s with
  | none => rfl
  | some k => obtain ⟨h1, h2⟩ := (resO_iff h).1 e; exact absurd h2 (h' k h1)
/-- the first node with a path -/
theorem res_first (h : VT t) (s : Str) : firstAt (fun i => decide (ptx (np t i) = s)) (List.range t.length) 0 = res t s := by
 rcases firstAt_spec (fun i => decide (ptx (np t i) = s)) 0 (List.range t.length) 0 with ⟨h1, h2⟩ | ⟨j, h1, h2, h3, _⟩
 ·rw [h1, res, (resO_none h).2 (fun i hi e => ?_)]; rfl
  have := h2 i (by simpa using hi)
  rw [List.getD_eq_getElem?_getD, List.getElem?_range hi] at this
  simp at this; exact this e
 ·have hj : j < t.length := by simpa using h1
  rw [List.getD_eq_getElem?_getD, List.getElem?_range hj] at h3
  rw [h2, res, (resO_iff h).2 ⟨hj, by simpa using h3⟩, Nat.zero_add]; rfl
/-- going down by the parts of a text -/
theorem res_desc (h : VT t) {c : UInt8} {r : Str} : res t (c :: r) = if c = 47 then (if r = [] then 0 else desc t 0 (spl 47 r)) else -1 := by
 have hlo := h.lo
 rw [res, resO, pth]
 split
 ·split
  ·show oi (loo t []) = 0
   rw [(loo_iff h).2 ⟨hlo, np_zero h⟩]; rfl
  ·show oi (loo t (spl 47 r)) = _
   have := desc_spec h (spl 47 r) 0 hlo
   rw [np_zero h, List.nil_append] at this
   rw [show ((0 : Nat) : Int) = 0 from rfl] at this
   rw [this]
   cases loo t (spl 47 r) <;> rfl
 ·rfl
theorem res_nil : res t [] = -1 := rfl
end
section
open Go
set_option linter.unusedVariables false
theorem u8wrap {x : Int} (h0 : 0 ≤ x) (h1 : x < 256) : IntKind.u8.wrap x = x := by
 unfold IntKind.wrap
 simp [IntKind.bits, IntKind.signed]
 omega
theorem dig_small {u : Nat} (h : u < 10) : Lib.decDigits u = [UInt8.ofNat (48 + u)] := by rw [Lib.decDigits, dif_pos h]
theorem dig_big {u : Nat} (h : ¬ u < 10) : Lib.decDigits u = Lib.decDigits (u / 10) ++ [UInt8.ofNat (48 + u % 10)] := by rw [Lib.decDigits, dif_neg h]
theorem ofNat_digit {u : Nat} (h : u < 10) : (UInt8.ofNat (48 + u)).toNat = 48 + u := by
 rw [UInt8.toNat_ofNat']; omega
theorem digits_ok : ∀ (u : Nat), ∀ b ∈ Lib.decDigits u, 48 ≤ b.toNat ∧ b.toNat ≤ 57 := by
 intro u
 induction u using Nat.strongRecOn with
 | ind u ih =>
  intro b hb
  by_cases h : u < 10
  ·rw [dig_small h, List.mem_singleton] at hb
   rw [hb, ofNat_digit h]; omega
  ·rw [dig_big h] at hb
   rcases List.mem_append.1 hb with h1 | h1
   ·exact ih _ (by omega) b h1
   ·rw [List.mem_singleton.1 h1, ofNat_digit (by omega)]; omega
theorem digits_ne (u : Nat) : Lib.decDigits u ≠ [] := by
 by_cases h : u < 10
 ·rw [dig_small h]; simp
 ·rw [dig_big h]; simp
theorem digits_len : ∀ (k u : Nat), u < 10 ^ (k + 1) → (Lib.decDigits u).length ≤ k + 1
 | 0, u, h => by rw [dig_small (by simpa using h)]; simp
 | k + 1, u, h => by
  by_cases h1 : u < 10
  ·rw [dig_small h1]; simp
  ·rw [dig_big h1, List.length_append]
   have := digits_len k (u / 10) (by rw [Nat.pow_succ] at h; omega)
   simp; omega
/-- what a numeral is made of -/
theorem itoa_ok (n : Int) : ∀ b ∈ Lib.itoa n, b.toNat = 45 ∨ (48 ≤ b.toNat ∧ b.toNat ≤ 57) := by
 intro b hb
 unfold Lib.itoa at hb
 split at hb
 ·rcases List.mem_cons.1 hb with rfl | h1
  ·exact .inl rfl
  ·exact .inr (digits_ok _ b h1)
 ·exact .inr (digits_ok _ b hb)
theorem itoa_ne (n : Int) : Lib.itoa n ≠ [] := by
 unfold Lib.itoa
 split
 ·simp
 ·exact digits_ne _
theorem itoa_no {n : Int} {c : UInt8} (h : c.toNat ≠ 45) (h' : c.toNat < 48 ∨ 57 < c.toNat) : c ∉ Lib.itoa n := fun hm => by
 have := itoa_ok n c hm; omega
theorem itoa_len {n : Int} (h0 : -1000 ≤ n) (h1 : n ≤ 1000) : (Lib.itoa n).length ≤ 5 := by
 unfold Lib.itoa
 split
 ·have := digits_len 3 n.natAbs (by omega)
  simp; omega
 ·have := digits_len 3 n.toNat (by omega)
  omega
/-- parts with a semicolon and a space between two of them -/
def sepk (f : Nat → Str) : Nat → Str
 | 0 => []
 | k + 1 => sepk f k ++ (if 0 < k then [59, 32] else []) ++ f k
theorem sepk_len {f : Nat → Str} {B : Nat} : ∀ {k : Nat}, (∀ j, j < k → (f j).length ≤ B) → (sepk f k).length ≤ (B + 2) * k
 | 0, _ => by simp [sepk]
 | k + 1, h => by
  have h1 := sepk_len (f := f) (B := B) (k := k) (fun j hj => h j (by omega))
  have h2 := h k (by omega)
  rw [sepk, List.length_append, List.length_append, Nat.mul_succ]
  split <;> simp <;> omega
/-- a part of the text of a tree -/
def pcs (t : List Nod) (i : Nat) : Str := ptx (np t i) ++ 32 :: Lib.itoa (va t i)
def fmtT (t : List Nod) : Str := sepk (pcs t) t.length
theorem name_no' {s : Str} (h : nameOk s = true) {c : UInt8} (hc : c.toNat < 97 ∨ 122 < c.toNat) : c ∉ s := fun hm => by
 simp only [nameOk, Bool.and_eq_true, decide_eq_true_eq, List.all_eq_true] at h
 have := h.2 c hm
 simp only [ch, Bool.and_eq_true, decide_eq_true_eq] at this
 omega
theorem fm_no {l : List Str} (h : ∀ s ∈ l, nameOk s = true) {c : UInt8} (hc : c.toNat < 97 ∨ 122 < c.toNat) (h47 : c ≠ 47) : c ∉ fm 47 l := by
 induction l with
 | nil => simp [fm]
 | cons s l ih =>
  rw [fm_cons]
  simp only [List.mem_cons, List.mem_append, not_or]
  exact ⟨h47, name_no' (h s (by simp)) hc, ih (fun x hx => h x (by simp [hx]))⟩
theorem ptx_no {l : List Str} (h : ∀ s ∈ l, nameOk s = true) {c : UInt8} (hc : c.toNat < 97 ∨ 122 < c.toNat) (h47 : c ≠ 47) : c ∉ ptx l := by
 rw [ptx]
 split
 ·simp; exact h47
 ·exact fm_no h hc h47
theorem pcs_semi {t : List Nod} (h : VT t) {i : Nat} (hi : i < t.length) : (59 : UInt8) ∉ pcs t i := by
 rw [pcs]
 simp only [List.mem_append, List.mem_cons, not_or]
 exact ⟨ptx_no (np_names h i hi) (.inl (by decide)) (by decide), by decide, itoa_no (by decide) (.inr (by decide))⟩
end
section
open Go
set_option linter.unusedVariables false
/-- texts with a semicolon and a space between two of them -/
def joinS : List Str → Str
 | [] => []
 | [a] => a
 | a :: b :: l => a ++ 59 :: 32 :: joinS (b :: l)
theorem joinS_cons (a : Str) (l : List Str) : joinS (a :: l) = a ++ if l = [] then [] else 59 :: 32 :: joinS l := by
 cases l with
 | nil => simp [joinS]
 | cons b l => simp [joinS]
theorem joinS_snoc (a : Str) : ∀ (l : List Str), joinS (l ++ [a]) = joinS l ++ (if l = [] then [] else [59, 32]) ++ a
 | [] => rfl
 | b :: l => by
  rw [List.cons_append, joinS_cons, joinS_snoc a l, joinS_cons, if_neg (by simp)]
  cases l with
  | nil => simp [joinS]
  | cons c l => simp
theorem sepk_join (f : Nat → Str) : ∀ k, sepk f k = joinS ((List.range k).map f)
 | 0 => rfl
 | k + 1 => by
  rw [sepk, sepk_join f k, List.range_succ, List.map_append, List.map_singleton, joinS_snoc]
  congr 2
  by_cases h : k = 0
  ·subst h; rfl
  ·rw [if_pos (by omega), if_neg (by simp [h])]
theorem idx2_none {s : Str} (h : (59 : UInt8) ∉ s) : Lib.index s [59, 32] = -1 := by
 refine Lib.index_none fun j hj => ?_
 cases hd : s.drop j with
 | nil => rw [Lib.occAt, hd]; rfl
 | cons c r =>
  have : c ∈ s := List.mem_of_mem_drop (hd ▸ List.mem_cons_self)
  have hc : ¬ (59 : UInt8) = c := fun e => h (e ▸ this)
  rw [Lib.occAt, hd]
  simp [List.isPrefixOf, hc]
theorem idx2_at {a r : Str} (h : (59 : UInt8) ∉ a) : Lib.index (a ++ 59 :: 32 :: r) [59, 32] = a.length := by
 refine Lib.index_first (by simp) ?_ (fun j hj => ?_)
 ·rw [Lib.occAt, List.drop_left' rfl]
  simp [List.isPrefixOf]
 ·rw [Lib.occAt, List.drop_append_of_le_length (by omega)]
  cases hd : a.drop j with
  | nil =>
   have := List.drop_eq_nil_iff.1 hd
   omega
  | cons c l =>
   have : c ∈ a := List.mem_of_mem_drop (hd ▸ List.mem_cons_self)
   have hc : ¬ (59 : UInt8) = c := fun e => h (e ▸ this)
   simp [List.isPrefixOf, hc]
theorem splitK_join : ∀ (l : List Str) (a : Str) (m : Nat), (∀ x ∈ a :: l, (59 : UInt8) ∉ x) → l.length ≤ m → Lib.splitK [59, 32] 0 m (joinS (a :: l)) = a :: l
 | [], a, m, h, _ => by
  cases m with
  | zero => rfl
  | succ m =>
   rw [Lib.splitK, if_pos]
   ·rfl
   ·rw [show joinS [a] = a from rfl, idx2_none (h a (by simp))]; rfl
 | b :: l, a, 0, _, hm => by simp at hm
 | b :: l, a, m + 1, h, hm => by
  have e : joinS (a :: b :: l) = a ++ 59 :: 32 :: joinS (b :: l) := rfl
  have hi : Lib.index (a ++ 59 :: 32 :: joinS (b :: l)) [59, 32] = a.length := idx2_at (h a (by simp))
  rw [Lib.splitK, e, hi, if_neg (by simp), Int.toNat_natCast]
  rw [Nat.add_zero, List.take_left' rfl]
  congr 1
  have : (a ++ 59 :: 32 :: joinS (b :: l)).drop (a.length + ([59, 32] : Str).length) = joinS (b :: l) := by
   rw [show a ++ 59 :: 32 :: joinS (b :: l) = (a ++ [59, 32]) ++ joinS (b :: l) by simp]
   exact List.drop_left' (by simp)
  rw [this]
  exact splitK_join l b m (fun x hx => h x (by simp only [List.mem_cons] at hx ⊢; exact .inr hx)) (by simpa using hm)
theorem joinS_len : ∀ (l : List Str), l.length ≤ (joinS l).length + 1
 | [] => by simp
 | a :: l => by
  have := joinS_len l
  rw [joinS_cons, List.length_append]
  split
  ·rename_i h; subst h; simp
  ·simp; omega
theorem splitN_join {l : List Str} {a : Str} (h : ∀ x ∈ a :: l, (59 : UInt8) ∉ x) (hl : l.length ≤ 12) : Lib.splitN (joinS (a :: l)) [59, 32] 13 = a :: l := by
 have := joinS_len (a :: l)
 refine splitK_join l a _ h ?_
 simp only [List.length_cons] at this
 omega
theorem spl_join : ∀ (l : List Str) (a : Str), (∀ x ∈ a :: l, (59 : UInt8) ∉ x) → spl 59 (joinS (a :: l)) = a :: l.map fun x => 32 :: x
 | [], a, h => spl_none (h a (by simp))
 | b :: l, a, h => by
  show spl 59 (a ++ 59 :: 32 :: joinS (b :: l)) = _
  rw [spl_at (h a (by simp))]
  have ih := spl_join l b (fun x hx => h x (by simp only [List.mem_cons] at hx ⊢; exact .inr hx))
  have h32 : ∀ s : Str, spl 59 (32 :: s) = match spl 59 s with | [] => [[32]] | x :: r => (32 :: x) :: r := by
   intro s
   rcases cut_at 59 s with h1 | ⟨x, r, rfl, h1⟩
   ·rw [spl_none (by simp [h1]), spl_none h1]
   ·rw [← List.cons_append, spl_at (by simp [h1]), spl_at h1]
  rw [h32, ih]
  rfl
theorem fmt_parts {t : List Nod} (h : VT t) : ∃ l, (List.range t.length).map (pcs t) = pcs t 0 :: l ∧ (∀ x ∈ pcs t 0 :: l, (59 : UInt8) ∉ x) ∧ fmtT t = joinS (pcs t 0 :: l) := by
 have hlo := h.lo
 obtain ⟨m, hm⟩ : ∃ m, t.length = m + 1 := ⟨t.length - 1, by omega⟩
 have e : (List.range t.length).map (pcs t) = pcs t 0 :: ((List.range m).map fun i => pcs t (i + 1)) := by
  rw [hm, List.range_succ_eq_map, List.map_cons, List.map_map]; rfl
 refine ⟨_, e, fun x hx => ?_, by rw [fmtT, sepk_join, e]⟩
 rw [← e] at hx
 obtain ⟨i, hi, rfl⟩ := List.mem_map.1 hx
 exact pcs_semi h (by simpa using hi)
theorem splitN_fmt {t : List Nod} (h : VT t) : Lib.splitN (fmtT t) [59, 32] 13 = (List.range t.length).map (pcs t) := by
 obtain ⟨l, h1, h2, h3⟩ := fmt_parts h
 have hl : l.length + 1 = t.length := by have := congrArg List.length h1; simpa using this.symm
 have hhi := h.hi
 rw [h3, h1, splitN_join h2 (by omega)]
theorem spl_fmt {t : List Nod} (h : VT t) : spl 59 (fmtT t) = (List.range t.length).map fun i => if 0 < i then 32 :: pcs t i else pcs t i := by
 obtain ⟨l, h1, h2, h3⟩ := fmt_parts h
 have hlo := h.lo
 rw [h3, spl_join l _ h2]
 obtain ⟨m, hm⟩ : ∃ m, t.length = m + 1 := ⟨t.length - 1, by omega⟩
 rw [hm, List.range_succ_eq_map, List.map_cons, List.map_map] at h1 ⊢
 obtain ⟨_, h5⟩ := List.cons.inj h1
 rw [← h5, List.map_map]
 simp [Function.comp_def]

/-! numerals -/
theorem pu_app : ∀ (l r : Str) (a u : Nat), Lib.parseUint10 a l = .ok u → Lib.parseUint10 a (l ++ r) = Lib.parseUint10 u r
 | [], r, a, u, h => by
  cases h; rfl
 | c :: l, r, a, u, h => by
  rw [List.cons_append]
  simp only [Lib.parseUint10] at h ⊢
  split at h
  ·rename_i h1
   rw [if_pos h1]
   split at h
   ·cases h
   ·rename_i h2
    rw [if_neg h2]
    split at h
    ·cases h
    ·rename_i h3
     rw [if_neg h3]
     exact pu_app l r _ u h
  ·cases h
theorem pu_dig : ∀ (u : Nat), u ≤ 1000000000000 → Lib.parseUint10 0 (Lib.decDigits u) = .ok u := by
 intro u
 induction u using Nat.strongRecOn with
 | ind u ih =>
  intro hu
  by_cases h : u < 10
  ·rw [dig_small h]
   simp only [Lib.parseUint10, ofNat_digit h]
   rw [if_pos (by omega), if_neg (by omega), if_neg (by omega)]
   congr 1
   omega
  ·rw [dig_big h, pu_app _ _ _ _ (ih (u / 10) (by omega) (by omega))]
   simp only [Lib.parseUint10, ofNat_digit (show u % 10 < 10 by omega)]
   rw [if_pos (by omega), if_neg (by omega), if_neg (by omega)]
   congr 1
   omega
theorem mag_dig {u : Nat} (hu : u ≤ 1000000000000) : Lib.parseMag (Lib.decDigits u) = .ok u := by
 rw [Lib.parseMag, if_neg (digits_ne u), pu_dig u hu]
theorem atoi_itoa {v : Int} (h0 : -1000000 ≤ v) (h1 : v ≤ 1000000) : Lib.atoiAll (Lib.itoa v) = .ok v := by
 unfold Lib.itoa
 split
 ·rename_i h
  rw [show ((45 : UInt8) :: Lib.decDigits v.natAbs) = 45 :: Lib.decDigits v.natAbs from rfl, Lib.atoiAll_minus, mag_dig (by omega)]
  simp only [Lib.signed]
  rw [if_neg (by omega)]
  congr 1
  omega
 ·rename_i h
  have hd := digits_ok v.toNat
  cases hc : Lib.decDigits v.toNat with
  | nil => exact absurd hc (digits_ne _)
  | cons c r =>
   have hc2 := hd c (by rw [hc]; simp)
   rw [Lib.atoiAll_plain c r (by omega) (by omega), ← hc, mag_dig (by omega)]
   simp only [Lib.signless]
   rw [if_neg (by omega)]
   congr 1
   omega
end
section
open Go
theorem implName_ex (s : Str) : Ex (fun n => impl_isName n s) (· = nameOk s) := by
 unfold impl_isName
 cases hw : impl_within ((s.length : Nat) : Int) 1 4 with
 | false =>
  refine Ex.yes rfl (Ex.ret ?_)
  simp only [impl_within, Bool.and_eq_false_iff, decide_eq_false_iff_not] at hw
  rw [eq_comm, Bool.eq_false_iff]
  intro h
  simp only [nameOk, Bool.and_eq_true, decide_eq_true_eq] at h
  omega
 | true =>
  simp only [impl_within, Bool.and_eq_true, decide_eq_true_eq] at hw
  have e : nameOk s = s.all ch := by
   simp only [nameOk]
   rw [decide_eq_true (by omega), decide_eq_true (by omega)]; simp
  refine Ex.no rfl ?_
  refine Ex.be (a := if s.all ch = true then .inr () else .inl ()) ?_ ?_
  ·refine upU s.length (fun k => (s.drop k).all ch = s.all ch) ?_ ?_ 0 (Nat.zero_le _) (by simp)
   ·intro k hk hi next
    simp only [impl_isName_L1, Int.toNat_natCast]
    rw [all_split ch 0 hk] at hi
    refine Ex.yes (decide_eq_true (by omega)) (Ex.guard (by omega) ?_)
    refine Ex.be (a := !ch (s.getD k 0)) ?_ ?_
    ·refine Ex.ite (fun h => Ex.ret ?_) (fun h => Ex.guard (by omega) (Ex.ret ?_))
     ·have := of_decide_eq_true h
      rw [ch, decide_eq_false (by omega)]; rfl
     ·have := of_decide_eq_false h
      rw [ch, decide_eq_true (p := 97 ≤ _) (by omega), Bool.true_and]
      rcases Nat.lt_or_ge 122 (s.getD k 0).toNat with h | h
      ·rw [decide_eq_true (by omega), decide_eq_false (by omega)]; rfl
      ·rw [decide_eq_false (by omega), decide_eq_true (by omega)]; rfl
    ·cases hc : ch (s.getD k 0) with
     | false =>
      rw [hc, Bool.false_and] at hi
      refine Ex.yes rfl (Ex.ret ?_)
      rw [← hi]; rfl
     | true =>
      rw [hc, Bool.true_and] at hi
      rw [w64_succ (by omega)]
      exact Ex.no rfl (next hi)
   ·intro hi
    simp only [impl_isName_L1]
    refine Ex.no (decide_eq_false (by omega)) (Ex.ret ?_)
    rw [← hi]; simp
  ·rw [e]
   cases s.all ch with
   | true => exact Ex.ret rfl
   | false => exact Ex.ret rfl
theorem specName_ex {s : Str} (hs : s.length ≤ 1000000000000) : Ex (fun n => spec_validName n s) (· = nameOk s) := by
 unfold spec_validName
 refine Ex.be (a := if s.all ch = true then .inr () else .inl ()) ?_ ?_
 ·refine upU s.length (fun k => (s.drop k).all ch = s.all ch) ?_ ?_ 0 (Nat.zero_le _) (by simp)
  ·intro k hk hi next
   simp only [spec_validName_L1, Int.toNat_natCast]
   rw [all_split ch 0 hk] at hi
   refine Ex.yes (decide_eq_true (by omega)) (Ex.guard (by omega) ?_)
   have hlt := UInt8.toNat_lt (s.getD k 0)
   have e : spec_inRange (w64 ((s.getD k 0).toNat : Int)) 97 122 = ch (s.getD k 0) := by
    rw [w64_id (by omega) (by omega), spec_inRange, ch, Bool.eq_iff_iff]
    simp only [Bool.and_eq_true, decide_eq_true_eq]; omega
   rw [e]
   cases hc : ch (s.getD k 0) with
   | false =>
    rw [hc, Bool.false_and] at hi
    refine Ex.yes rfl (Ex.ret ?_)
    rw [← hi]; rfl
   | true =>
    rw [hc, Bool.true_and] at hi
    rw [w64_succ (by omega)]
    exact Ex.no rfl (next hi)
  ·intro hi
   simp only [spec_validName_L1]
   refine Ex.no (decide_eq_false (by omega)) (Ex.ret ?_)
   rw [← hi]; simp
 ·have e : spec_inRange ((s.length : Nat) : Int) 1 4 = (decide (1 ≤ s.length) && decide (s.length ≤ 4)) := by
   rw [spec_inRange, Bool.eq_iff_iff]
   simp only [Bool.and_eq_true, decide_eq_true_eq]; omega
  rw [nameOk, e]
  cases s.all ch with
  | true => exact Ex.ret (by simp)
  | false => exact Ex.ret (by simp)
theorem implKid_ex {l : List Nod} (hl : l.length ≤ 1000000000000) (p : Int) (s : Str) : Ex (fun n => impl_kidIn n l p s) (· = firstAt (sib p s) l 0) := by
 unfold impl_kidIn
 refine Ex.bind (P := fun v => (match v with | .inl i => i | .inr _ => -1) = firstAt (sib p s) l 0) ?_ ?_
 ·refine upU l.length (fun k => firstAt (sib p s) (l.drop k) k = firstAt (sib p s) l 0) ?_ ?_ 0 (Nat.zero_le _) rfl
  ·intro k hk hi next
   simp only [impl_kidIn_L1, Int.toNat_natCast]
   rw [drop_at dnod hk, firstAt] at hi
   refine Ex.yes (decide_eq_true (by omega)) (Ex.guard (by omega) ?_)
   refine Ex.ite (fun h => Ex.ret ?_) (fun h => ?_)
   ·have h : sib p s (l.getD k dnod) = true := h
    rw [if_pos h] at hi; exact hi
   ·have h : sib p s (l.getD k dnod) = false := h
    rw [if_neg (by rw [h]; simp)] at hi
    rw [w64_succ (by omega)]
    exact next hi
  ·intro hi
   simp only [impl_kidIn_L1]
   refine Ex.no (decide_eq_false (by omega)) (Ex.ret ?_)
   rw [List.drop_length, firstAt] at hi; exact hi
 ·intro v hv
  rcases v with i | u
  ·exact Ex.ret hv
  ·exact Ex.ret hv
theorem specKid_ex {l : List Nod} (hl : l.length ≤ 1000000000000) (p : Int) (s : Str) : Ex (fun n => spec_kid n l p s) (· = firstAt (sib p s) (l.drop 1) 1) := by
 unfold spec_kid
 refine Ex.bind (P := fun v => (match v with | .inl i => i | .inr _ => -1) = firstAt (sib p s) (l.drop 1) 1) ?_ ?_
 ·rcases Nat.eq_zero_or_pos l.length with hz | hz
  ·have : l = [] := List.eq_nil_of_length_eq_zero hz
   subst this
   refine Ex.succ ?_
   simp only [spec_kid_L1]
   exact Ex.no rfl (Ex.ret rfl)
  ·refine upU l.length (fun k => firstAt (sib p s) (l.drop k) k = firstAt (sib p s) (l.drop 1) 1) ?_ ?_ 1 hz rfl
   ·intro k hk hi next
    simp only [spec_kid_L1, Int.toNat_natCast]
    rw [drop_at dnod hk, firstAt] at hi
    refine Ex.yes (decide_eq_true (by omega)) (Ex.guard (by omega) ?_)
    refine Ex.be (a := sib p s (l.getD k dnod)) (Ex.ite (fun h => Ex.guard (by omega) (Ex.ret ?_)) (fun h => Ex.ret ?_)) ?_
    ·rw [sib, h]; simp
    ·rw [sib, h]; simp
    ·cases h : sib p s (l.getD k dnod) with
     | true => rw [if_pos h] at hi; exact Ex.yes rfl (Ex.ret hi)
     | false =>
      rw [if_neg (by rw [h]; simp)] at hi
      rw [w64_succ (by omega)]
      exact Ex.no rfl (next hi)
   ·intro hi
    simp only [spec_kid_L1]
    refine Ex.no (decide_eq_false (by omega)) (Ex.ret ?_)
    rw [List.drop_length, firstAt] at hi; exact hi
 ·intro v hv
  rcases v with i | u
  ·exact Ex.ret hv
  ·exact Ex.ret hv
theorem depth_loop {t : List Nod} (hl : t.length ≤ 1000000000) : ∀ (i : Nat) (d : Int), i < t.length → (∀ j, j ≤ i → PO t j) → 0 ≤ d → d + i ≤ 1000000000 →
  Ex (fun n => spec_depth_L1 t n (i : Int) d) (· = d + (dp t i : Nat)) := by
 intro i
 induction i using Nat.strongRecOn with
 | ind i ih =>
  intro d hi hp hd hdi
  refine Ex.succ ?_
  simp only [spec_depth_L1, Int.toNat_natCast]
  have hpi := hp i (Nat.le_refl _)
  refine Ex.guard (by omega) ?_
  rcases Nat.eq_zero_or_pos i with hz | hz
  ·have e : (t.getD i dnod).parent = -1 := by rw [PO, if_pos hz] at hpi; exact hpi
   refine Ex.no (decide_eq_false (by omega)) (Ex.ret ?_)
   rw [dp, dif_neg (by omega)]; simp
  ·rw [PO, if_neg (by omega)] at hpi
   refine Ex.yes (decide_eq_true hpi.1) (Ex.guard (by omega) ?_)
   rw [w64_id (by omega) (by omega)]
   have := ih (t.getD i dnod).parent.toNat hpi.2 (d + 1) (by omega) (fun j hj => hp j (by omega)) (by omega) (by omega)
   rw [Int.toNat_of_nonneg hpi.1] at this
   refine Ex.mono this ?_
   intro r hr
   rw [hr, dp.eq_1 t i, dif_pos hpi]; omega
theorem depth_ex {t : List Nod} (hl : t.length ≤ 400000000) {i : Nat} (hi : i < t.length) (hp : ∀ j, j ≤ i → PO t j) : Ex (fun n => spec_depth n t (i : Int)) (· = (dp t i : Nat)) := by
 unfold spec_depth
 refine Ex.be (depth_loop (by omega) i 0 hi hp (Int.le_refl 0) (by omega)) (Ex.ret (by simp))
theorem specNode_ex {t : List Nod} (hn : NL t) (hl : t.length ≤ 400000000) {i : Nat} (hi : i < t.length) (ho : okTo t i) : Ex (fun n => spec_validNode n t (i : Int)) (· = nodeOk t i) := by
 unfold spec_validNode
 simp only [Int.toNat_natCast]
 refine Ex.guard (by omega) ?_
 have e : spec_inRange (t.getD i dnod).value (-1000) 1000 = rv (t.getD i dnod).value := rfl
 rw [e, nodeOk]
 cases hr : rv (t.getD i dnod).value with
 | false => exact Ex.yes rfl (Ex.ret rfl)
 | true =>
  refine Ex.no rfl ?_
  rw [Bool.true_and]
  rcases Nat.eq_zero_or_pos i with hz | hz
  ·refine Ex.yes (decide_eq_true (by omega)) (Ex.guard (by omega) (Ex.be (a := decide ((t.getD i dnod).parent = -1) && decide ((t.getD i dnod).name = [])) ?_ (Ex.ret ?_)))
   ·refine Ex.ite (fun h => Ex.guard (by omega) (Ex.ret ?_)) (fun h => Ex.ret ?_)
    ·rw [h]; rfl
    ·rw [h]; rfl
   ·rw [if_pos hz]
  ·refine Ex.no (decide_eq_false (by omega)) (Ex.guard (by omega) ?_)
   rw [w64_id (by omega) (by omega), if_neg (by omega)]
   refine Ex.bind (P := fun r => r = _) ?_ (fun r hr => Ex.ret hr)
   have e2 : spec_inRange (t.getD i dnod).parent 0 ((i : Int) - 1) = (decide (0 ≤ (t.getD i dnod).parent) && decide ((t.getD i dnod).parent ≤ (i : Int) - 1)) := rfl
   rw [e2]
   refine Ex.ite (fun h => ?_) (fun h => ?_)
   ·rw [h, Bool.true_and]
    simp only [Bool.and_eq_true, decide_eq_true_eq] at h
    refine Ex.guard (by omega) (Ex.be (specName_ex (hn.2 _ (getD_mem hi))) ?_)
    refine Ex.ite (fun h1 => ?_) (fun h1 => ?_)
    ·rw [h1, Bool.true_and]
     refine Ex.guard (by omega) (Ex.guard (by omega) (Ex.guard (by omega) ?_))
     rw [List.drop_zero]
     refine Ex.be (specKid_ex (by simp; omega) _ _) ?_
     have h3 := no_root (nodeOk_PO (ho 0 hz)) h.1 (t.getD i dnod).name hz hi
     refine Ex.ite (fun h4 => ?_) (fun h4 => ?_)
     ·rw [h3.1 (of_decide_eq_true h4)]
      refine Ex.be (depth_ex hl hi (fun j hj => ?_)) (Ex.ret (by simp; omega))
      rcases Nat.eq_or_lt_of_le hj with rfl | hj
      ·rw [PO, if_neg (by omega)]; omega
      ·exact nodeOk_PO (ho j hj)
     ·have := of_decide_eq_false h4
      have h5 : (t.take i).any (sib (t.getD i dnod).parent (t.getD i dnod).name) = true := by
       rw [← Bool.not_eq_false]; exact fun h => this (h3.2 h)
      rw [h5]; exact Ex.ret rfl
    ·rw [h1]; exact Ex.ret rfl
   ·rw [h]; exact Ex.ret rfl
theorem specTree_ex {t : List Nod} (hn : NL t) (hl : t.length ≤ 400000000) : Ex (fun n => spec_validTree n t) (· = validT t) := by
 unfold spec_validTree
 refine Ex.be (a := if (List.range t.length).all (nodeOk t) = true then .inr () else .inl ()) ?_ ?_
 ·refine upU t.length (fun k => okTo t k) ?_ ?_ 0 (Nat.zero_le _) (fun j hj => by omega)
  ·intro k hk hi next
   simp only [spec_validTree_L1]
   refine Ex.yes (decide_eq_true (by omega)) (Ex.be (specNode_ex hn hl hk hi) ?_)
   cases h : nodeOk t k with
   | false =>
    refine Ex.yes rfl (Ex.ret ?_)
    rw [all_range_false hk h]; rfl
   | true =>
    rw [w64_succ (by omega)]
    refine Ex.no rfl (next (fun j hj => ?_))
    rcases Nat.eq_or_lt_of_le (Nat.le_of_lt_succ hj) with rfl | h1
    ·exact h
    ·exact hi j h1
  ·intro hi
   simp only [spec_validTree_L1]
   refine Ex.no (decide_eq_false (by omega)) (Ex.ret ?_)
   rw [all_range.2 hi]; rfl
 ·have e : spec_inRange ((t.length : Nat) : Int) 1 12 = (decide (1 ≤ t.length) && decide (t.length ≤ 12)) := by
   rw [spec_inRange, Bool.eq_iff_iff]
   simp only [Bool.and_eq_true, decide_eq_true_eq]; omega
  rw [validT, e]
  cases (List.range t.length).all (nodeOk t) with
  | true => exact Ex.ret (by simp)
  | false => exact Ex.ret (by simp)
theorem implTree_ex (t : List Nod) : Ex (fun n => impl_ValidTree n t) (· = validT t) := by
 unfold impl_ValidTree
 refine Ex.ite (fun h => Ex.ret ?_) (fun h => ?_)
 ·simp only [Bool.or_eq_true, decide_eq_true_eq] at h
  rw [eq_comm, Bool.eq_false_iff]
  intro h'
  simp only [validT, Bool.and_eq_true, decide_eq_true_eq] at h'
  omega
 ·simp only [Bool.or_eq_false_iff, decide_eq_false_iff_not] at h
  have hl : 1 ≤ t.length ∧ t.length ≤ 12 := by omega
  refine Ex.guard (by omega) ?_
  have hbad : (decide ((t.getD 0 dnod).parent = -1) && decide ((t.getD 0 dnod).name = [])) = false → validT t = false := by
   intro hf
   rw [Bool.eq_false_iff]
   intro h'
   simp only [validT, Bool.and_eq_true] at h'
   have := all_range.1 h'.2 0 (by omega)
   rw [nodeOk, if_pos rfl, hf, Bool.and_false] at this
   cases this
  refine Ex.be (a := !(decide ((t.getD 0 dnod).parent = -1) && decide ((t.getD 0 dnod).name = []))) ?_ ?_
  ·cases hp : decide ((t.getD 0 dnod).parent = -1) with
   | true => exact Ex.no rfl (Ex.guard (by omega) (Ex.ret rfl))
   | false => exact Ex.yes rfl (Ex.ret rfl)
  ·refine Ex.ite (fun hb => Ex.ret ?_) (fun hb => ?_)
   ·rw [hbad (notT hb)]
   ·have hroot : (decide ((t.getD 0 dnod).parent = -1) && decide ((t.getD 0 dnod).name = [])) = true := notF hb
    have e : validT t = (List.range t.length).all (nodeOk t) := by
     rw [validT, decide_eq_true hl.1, decide_eq_true hl.2]; simp
    refine Ex.guard (by omega) ?_
    refine Ex.be (a := if (List.range t.length).all (nodeOk t) = true then .inr () else .inl ()) ?_ ?_
    ·refine up t.length (fun k (ds : List Int) => ds.length = t.length ∧ okTo t k ∧ ∀ j, j < t.length → (j < k ∨ j = 0) → ds.getD j 0 = (dp t j : Nat)) (f := fun n ds i => impl_ValidTree_L1 t n ds i) ?_ ?_ 0 _ (Nat.zero_le _) ⟨by simp, fun j hj => by omega, ?_⟩
     ·rintro k ds hk ⟨h1, h2, h3⟩ next
      simp only [impl_ValidTree_L1, Int.toNat_natCast]
      refine Ex.yes (decide_eq_true (by omega)) ?_
      refine Ex.bind (P := fun v => (nodeOk t k = false ∧ v = .inl ()) ∨ (nodeOk t k = true ∧ ∃ ds' : List Int, v = .inr ds' ∧ (ds'.length = t.length ∧ ∀ j, j < t.length → (j < k + 1 ∨ j = 0) → ds'.getD j 0 = ((dp t j : Nat) : Int)))) ?_ ?_
      ·refine Ex.guard (by omega) ?_
       have e1 : impl_within (t.getD k dnod).value (-1000) 1000 = rv (t.getD k dnod).value := rfl
       rw [e1, nodeOk]
       cases hr : rv (t.getD k dnod).value with
       | false => exact Ex.yes rfl (Ex.ret (.inl ⟨rfl, rfl⟩))
       | true =>
        rw [Bool.true_and]
        refine Ex.no rfl ?_
        rcases Nat.eq_zero_or_pos k with hz | hz
        ·subst hz
         refine Ex.yes rfl (Ex.ret (.inr ⟨?_, ds, rfl, h1, fun j hj hj' => h3 j hj (by omega)⟩))
         rw [if_pos rfl]; exact hroot
        ·refine Ex.no (decide_eq_false (by omega)) ?_
         rw [if_neg (by omega), w64_id (by omega) (by omega)]
         have e2 : impl_within (t.getD k dnod).parent 0 ((k : Int) - 1) = (decide (0 ≤ (t.getD k dnod).parent) && decide ((t.getD k dnod).parent ≤ (k : Int) - 1)) := rfl
         rw [e2]
         refine Ex.be (a := !((decide (0 ≤ (t.getD k dnod).parent) && decide ((t.getD k dnod).parent ≤ (k : Int) - 1)) && nameOk (t.getD k dnod).name)) ?_ ?_
         ·cases (decide (0 ≤ (t.getD k dnod).parent) && decide ((t.getD k dnod).parent ≤ (k : Int) - 1)) with
          | false => exact Ex.yes rfl (Ex.ret rfl)
          | true => exact Ex.no rfl (Ex.be (implName_ex _) (Ex.ret rfl))
         ·rw [← Bool.and_assoc]
          refine Ex.ite (fun hb1 => ?_) (fun hb1 => ?_)
          ·rw [show ((decide (0 ≤ (t.getD k dnod).parent) && decide ((t.getD k dnod).parent ≤ (k : Int) - 1)) && nameOk (t.getD k dnod).name) = false from notT hb1]
           exact Ex.ret (.inl ⟨rfl, rfl⟩)
          ·have hb2 : ((decide (0 ≤ (t.getD k dnod).parent) && decide ((t.getD k dnod).parent ≤ (k : Int) - 1)) && nameOk (t.getD k dnod).name) = true := notF hb1
           rw [hb2, Bool.true_and]
           simp only [Bool.and_eq_true, decide_eq_true_eq] at hb2
           refine Ex.guard (by omega) ?_
           rw [List.drop_zero]
           refine Ex.be (implKid_ex (by simp; omega) _ _) ?_
           have hf := firstAt_iff (sib (t.getD k dnod).parent (t.getD k dnod).name) (t.take k) 0
           refine Ex.ite (fun h4 => ?_) (fun h4 => ?_)
           ·rw [hf.1 (of_decide_eq_true h4)]; exact Ex.ret (.inl ⟨rfl, rfl⟩)
           ·have h5 : (t.take k).any (sib (t.getD k dnod).parent (t.getD k dnod).name) = false := by
             rw [← Bool.not_eq_true, ← hf]; exact of_decide_eq_false h4
            rw [h5]
            refine Ex.guard (by omega) (Ex.guard (by omega) (Ex.guard (by simp; omega) ?_))
            have e3 := h3 (t.getD k dnod).parent.toNat (by omega) (.inl (by omega))
            have e4 : dp t k = dp t (t.getD k dnod).parent.toNat + 1 := by rw [dp.eq_1 t k, dif_pos (by omega)]
            have e5 := dp_le (t := t) (t.getD k dnod).parent.toNat
            have e6 : w64 (ds.getD (t.getD k dnod).parent.toNat 0 + 1) = (dp t k : Nat) := by
             rw [e3, w64_id (by omega) (by omega)]; omega
            refine Ex.ite (fun h6 => ?_) (fun h6 => ?_)
            ·have := of_decide_eq_true h6
             rw [getD_set' (by omega), if_pos rfl, e6] at this
             rw [decide_eq_false (by omega)]; exact Ex.ret (.inl ⟨rfl, rfl⟩)
            ·have := of_decide_eq_false h6
             rw [getD_set' (by omega), if_pos rfl, e6] at this
             rw [decide_eq_true (by omega), e6]
             refine Ex.ret (.inr ⟨rfl, _, rfl, by simpa using h1, fun j hj hj' => ?_⟩)
             rw [getD_set' (by omega)]
             split
             ·rename_i e; subst e; omega
             ·exact h3 j hj (by omega)
      ·rintro v (⟨hf, rfl⟩ | ⟨hf, ds', rfl, h4, h5⟩)
       ·refine Ex.ret ?_
        rw [all_range_false hk hf]; rfl
       ·show Ex (fun n => impl_ValidTree_L1 t n ds' (w64 ((k : Int) + 1))) _
        rw [w64_succ (by omega)]
        refine next ds' ⟨h4, fun j hj => ?_, h5⟩
        rcases Nat.eq_or_lt_of_le (Nat.le_of_lt_succ hj) with rfl | h6
        ·exact hf
        ·exact h2 j h6
     ·rintro ds ⟨h1, h2, h3⟩
      simp only [impl_ValidTree_L1]
      refine Ex.no (decide_eq_false (by omega)) (Ex.ret ?_)
      rw [all_range.2 h2]; rfl
     ·intro j hj hj'
      obtain rfl : j = 0 := by omega
      have hp : (t.getD 0 dnod).parent = -1 := by simpa using (Bool.and_eq_true_iff.1 hroot).1
      rw [dp, dif_neg (by omega), List.getD_eq_getElem?_getD, List.getElem?_replicate]
      split
      ·rfl
      ·rfl
    ·rw [e]
     cases (List.range t.length).all (nodeOk t) with
     | true => exact Ex.ret rfl
     | false => exact Ex.ret rfl
end
section
open Go
set_option linter.unusedVariables false
def nix (t : List Nod) (i : Nat) : List Int := (ix t i).map fun (k : Nat) => (k : Int)
theorem nix_len {t : List Nod} (i : Nat) : (nix t i).length = dp t i + 1 := by rw [nix, List.length_map, (np_ix i).2]
theorem ix_lt {t : List Nod} (h : VT t) : ∀ i, i < t.length → ∀ k ∈ ix t i, k < t.length := by
 intro i
 induction i using Nat.strongRecOn with
 | ind i ih =>
  intro hi k hk
  rcases Nat.eq_zero_or_pos i with rfl | h0
  ·rw [ix, dif_neg (by omega)] at hk
   rw [List.mem_singleton.1 hk]; exact hi
  ·rw [ix_pos h h0 hi] at hk
   have p := h.par i h0 hi
   rcases List.mem_append.1 hk with h1 | h1
   ·exact ih _ p.2 (by omega) k h1
   ·rw [List.mem_singleton.1 h1]; exact hi
theorem ix_names {t : List Nod} (i : Nat) : ((ix t i).drop 1).map (nmo t) = np t i := by
 rw [List.map_drop, (np_ix i).1]; rfl
theorem specPathTo_ex {t : List Nod} (h : VT t) {i : Nat} (hi : i < t.length) : Ex (fun n => spec_pathTo n t (i : Int)) (· = nix t i) := by
 have key : ∀ i, i < t.length → ∀ r : List Int, r.length + i ≤ 100 → Ex (fun n => spec_pathTo_L1 t n ((i : Int) :: r) (i : Int)) (· = nix t i ++ r) := by
  intro i
  induction i using Nat.strongRecOn with
  | ind i ih =>
   intro hi r hr
   refine Ex.succ ?_
   simp only [spec_pathTo_L1]
   rcases Nat.eq_zero_or_pos i with rfl | h0
   ·refine Ex.no (decide_eq_false (by omega)) (Ex.ret ?_)
    rw [nix, ix, dif_neg (by omega)]; rfl
   ·have p := h.par i h0 hi
    refine Ex.yes (decide_eq_true (by omega)) (Ex.guard (by omega) (Ex.guard (by simp; omega) ?_))
    rw [view_all, Int.toNat_natCast]
    have e : (t.getD i dnod).parent = (((pa t i).toNat : Nat) : Int) := by rw [Int.toNat_of_nonneg p.1]; rfl
    rw [e]
    have := ih _ p.2 (by omega) ((i : Int) :: r) (by simp; omega)
    refine Ex.mono this ?_
    rintro x rfl
    rw [nix, nix, ix_pos h h0 hi]; simp
 unfold spec_pathTo
 refine Ex.be (a := nix t i) ?_ (Ex.ret rfl)
 have := key i hi [] (by have := h.hi; simp; omega)
 rwa [List.append_nil] at this
theorem name_len {s : Str} (h : nameOk s = true) : s.length ≤ 4 := by
 simp only [nameOk, Bool.and_eq_true, decide_eq_true_eq] at h; exact h.1.2
theorem fm_len {c : UInt8} : ∀ {l : List Str}, (∀ s ∈ l, nameOk s = true) → (fm c l).length ≤ 5 * l.length
 | [], _ => by simp [fm_nil]
 | s :: l, h => by
  have := name_len (h s (by simp))
  have := fm_len (c := c) (l := l) (fun x hx => h x (by simp [hx]))
  rw [fm_cons]; simp only [List.length_cons, List.length_append]; omega
theorem np_le {t : List Nod} (h : VT t) {i : Nat} (hi : i < t.length) : (np t i).length ≤ 4 := by rw [np_len]; exact h.dep i hi
theorem ptx_len {t : List Nod} (h : VT t) {i : Nat} (hi : i < t.length) : (ptx (np t i)).length ≤ 20 := by
 have := np_le h hi
 rw [ptx]
 split
 ·simp
 ·have := fm_len (c := 47) (np_names h i hi); omega
theorem np_nil {t : List Nod} (h : VT t) {i : Nat} (hi : i < t.length) : np t i = [] ↔ i = 0 := by
 constructor
 ·intro e
  rcases Nat.eq_zero_or_pos i with rfl | h0
  ·rfl
  ·rw [np_pos h h0 hi] at e; simp at e
 ·rintro rfl; exact np_zero h
theorem nix_at {t : List Nod} (h : VT t) {i : Nat} (hi : i < t.length) {k : Nat} (hk : k < (ix t i).length) : (nix t i).getD k 0 = (((ix t i).getD k 0 : Nat) : Int) ∧ (ix t i).getD k 0 < t.length := by
 refine ⟨?_, ix_lt h i hi _ (getD_mem hk)⟩
 rw [nix, List.getD_eq_getElem?_getD, List.getElem?_map, List.getD_eq_getElem?_getD, List.getElem?_eq_getElem hk]; rfl
theorem specPathText_ex {t : List Nod} (h : VT t) {i : Nat} (hi : i < t.length) : Ex (fun n => spec_pathText n t (i : Int)) (· = ptx (np t i)) := by
 unfold spec_pathText
 refine Ex.be (specPathTo_ex h hi) (Ex.be (a := fm 47 (np t i)) ?_ ?_)
 ·have hlen : (ix t i).length = (nix t i).length := by simp [nix]
  have hd := np_le h hi
  have hl2 := (np_ix (t := t) i).2
  rw [np_len] at hd
  refine up (nix t i).length (fun k (s : Str) => s ++ fm 47 (((ix t i).drop k).map (nmo t)) = fm 47 (np t i) ∧ s.length ≤ 5 * k) (f := fun n s i' => spec_pathText_L1 t i (nix t i) n s i') ?_ ?_ 1 [] (by omega) ⟨by rw [ix_names]; rfl, by simp⟩
  ·rintro k s hk ⟨h1, h2⟩ next
   obtain ⟨a1, a2⟩ := nix_at h hi (k := k) (by omega)
   have hnm : (nmo t ((ix t i).getD k 0)).length ≤ 4 := by
    rcases Nat.eq_zero_or_pos ((ix t i).getD k 0) with e | e
    ·rw [e, h.rn]; simp
    ·exact name_len (h.nam _ e a2)
   simp only [spec_pathText_L1, Int.toNat_natCast, a1]
   rw [nmo] at hnm
   refine Ex.yes (decide_eq_true (by omega)) (Ex.guard (by simp; omega) (Ex.guard (by omega) (Ex.guard (by omega) (Ex.guard (by simp only [List.length_append, List.length_singleton]; omega) ?_))))
   rw [w64_succ (by omega)]
   refine next _ ⟨?_, by simp only [List.length_append, List.length_singleton]; omega⟩
   rw [← h1, drop_at 0 (show k < (ix t i).length by omega), List.map_cons, fm_cons, nmo]
   simp
  ·rintro s ⟨h1, h2⟩
   simp only [spec_pathText_L1]
   refine Ex.no (decide_eq_false (by omega)) (Ex.ret ?_)
   rw [← h1, List.drop_eq_nil_of_le (by omega)]; simp [fm_nil]
 ·rw [ptx]
  refine Ex.ite (fun hb => Ex.ret ?_) (fun hb => Ex.ret ?_)
  ·have := of_decide_eq_true hb
   rw [if_pos ((np_nil h hi).2 (by omega))]
  ·have := of_decide_eq_false hb
   rw [if_neg (fun e => this (by rw [(np_nil h hi).1 e]; rfl))]
theorem implNode_ex {t : List Nod} (hl : t.length ≤ 1000000000000) (i : Int) : Ex (fun n => impl_isNode n t i) (· = (decide (0 ≤ i ∧ i < t.length) && validT t)) := by
 unfold impl_isNode
 rw [w64_id (by omega) (by omega)]
 refine Ex.bind (P := fun r => r = _) ?_ (fun r hr => Ex.ret hr)
 have e : impl_within i 0 ((t.length : Int) - 1) = decide (0 ≤ i ∧ i < t.length) := by
  rw [impl_within, Bool.eq_iff_iff]; simp only [Bool.and_eq_true, decide_eq_true_eq]; omega
 rw [e]
 refine Ex.ite (fun hb => ?_) (fun hb => ?_)
 ·rw [hb, Bool.true_and]; exact Ex.be (implTree_ex t) (Ex.ret rfl)
 ·rw [hb]; exact Ex.ret rfl
theorem reverse_ex (x : List Int) (hx : x.length ≤ 1000000) : Ex (fun n => slices_Reverse_int_int n x x.length) (· = x.reverse) := by
 have key : ∀ (m i j : Nat) (s : List Int), i + j + 1 = x.length → j ≤ m + i → s.length = x.length → (∀ k, k < x.length → s.getD k 0 = if k < i ∨ j < k then x.reverse.getD k 0 else x.getD k 0) → Ex (fun n => slices_Reverse_int_int_L1 x.length n s i j) (· = x.reverse) := by
  intro m
  induction m with
  | zero =>
   intro i j s h1 h2 h3 h4
   refine Ex.succ ?_
   simp only [slices_Reverse_int_int_L1]
   refine Ex.no (decide_eq_false (by omega)) (Ex.ret ?_)
   refine List.ext_getElem (by simpa using h3) (fun k k1 k2 => ?_)
   have := h4 k (by omega)
   rw [List.getD_eq_getElem?_getD, List.getElem?_eq_getElem k1] at this
   simp only [Option.getD_some] at this
   rw [this]
   split
   ·rw [List.getD_eq_getElem?_getD, List.getElem?_eq_getElem k2]; rfl
   ·have e : k = i ∧ k = j := by omega
    rw [List.getElem_reverse, List.getD_eq_getElem?_getD, List.getElem?_eq_getElem (by omega)]
    simp only [Option.getD_some]
    congr 1; omega
  | succ m ih =>
   intro i j s h1 h2 h3 h4
   rcases Nat.lt_or_ge i j with hij | hij
   ·refine Ex.succ ?_
    simp only [slices_Reverse_int_int_L1, Int.toNat_natCast]
    refine Ex.yes (decide_eq_true (by omega)) (Ex.guard (by omega) (Ex.guard (by omega) (Ex.guard (by omega) (Ex.guard (by omega) ?_))))
    have e : w64 ((j : Int) - 1) = ((j - 1 : Nat) : Int) := by rw [w64_id (by omega) (by omega)]; omega
    rw [w64_succ (by omega), e]
    refine ih (i + 1) (j - 1) _ (by omega) (by omega) (by simpa using h3) (fun k hk => ?_)
    rw [getD_set' (by simp; omega), getD_set' (by omega)]
    have r : ∀ a, a < x.length → x.reverse.getD a 0 = x.getD (x.length - 1 - a) 0 := by
     intro a ha
     rw [List.getD_eq_getElem?_getD, List.getElem?_reverse ha, List.getD_eq_getElem?_getD]
    split
    ·rename_i hjk
     subst hjk
     rw [if_pos (by omega), h4 i (by omega), if_neg (by omega), r j (by omega)]
     congr 1; omega
    ·split
     ·rename_i hik
      subst hik
      rw [if_pos (by omega), h4 j (by omega), if_neg (by omega), r i (by omega)]
      congr 1; omega
     ·rw [h4 k hk]
      split
      ·rw [if_pos (by omega)]
      ·rw [if_neg (by omega)]
   ·exact ih i j s h1 (by omega) h3 h4
 unfold slices_Reverse_int_int
 refine Ex.be (a := x.reverse) ?_ (Ex.ret rfl)
 rcases Nat.eq_zero_or_pos x.length with h0 | h0
 ·have : x = [] := List.eq_nil_of_length_eq_zero h0
  subst this
  refine Ex.succ ?_
  simp only [slices_Reverse_int_int_L1]
  exact Ex.no (by decide) (Ex.ret rfl)
 ·have e : w64 ((x.length : Int) - 1) = ((x.length - 1 : Nat) : Int) := by rw [w64_id (by omega) (by omega)]; omega
  rw [e]
  exact key x.length 0 (x.length - 1) x (by omega) (by omega) rfl (fun k hk => by rw [if_neg (by omega)])
theorem implPathTo_ex {t : List Nod} (hl : t.length ≤ 1000000000000) (i : Int) : Ex (fun n => impl_PathTo n t i) (· = if (decide (0 ≤ i ∧ i < t.length) && validT t) = true then nix t i.toNat else []) := by
 unfold impl_PathTo
 refine Ex.be (implNode_ex hl i) ?_
 refine Ex.ite (fun hb => Ex.ret ?_) (fun hb => ?_)
 ·rw [notT hb]; rfl
 ·have hb := notF hb
  rw [if_pos hb]
  simp only [Bool.and_eq_true, decide_eq_true_eq] at hb
  obtain ⟨⟨h0, h1⟩, hv⟩ := hb
  have h := validT_iff.1 hv
  have hhi := h.hi
  obtain ⟨k, rfl⟩ : ∃ k : Nat, i = (k : Int) := ⟨i.toNat, by omega⟩
  rw [Int.toNat_natCast]
  have hk : k < t.length := by omega
  have key : ∀ i, i < t.length → ∀ r : List Int, r.length + i ≤ 100 → Ex (fun n => impl_PathTo_L1 t n r (i : Int)) (· = r ++ (nix t i).reverse) := by
   intro i
   induction i using Nat.strongRecOn with
   | ind i ih =>
    intro hi r hr
    refine Ex.succ ?_
    simp only [impl_PathTo_L1, Int.toNat_natCast]
    refine Ex.yes (decide_eq_true (by omega)) (Ex.guard (by simp; omega) (Ex.guard (by omega) ?_))
    rcases Nat.eq_zero_or_pos i with rfl | h0
    ·have e : (t.getD 0 dnod).parent = -1 := h.rp
     rw [e]
     refine Ex.succ ?_
     simp only [impl_PathTo_L1]
     refine Ex.no (by decide) (Ex.ret ?_)
     rw [nix, ix, dif_neg (by omega)]; simp
    ·have p := h.par i h0 hi
     have e : (t.getD i dnod).parent = (((pa t i).toNat : Nat) : Int) := by rw [Int.toNat_of_nonneg p.1]; rfl
     rw [e]
     have := ih _ p.2 (by omega) (r ++ ([(i : Int)].drop 0).take [(i : Int)].length) (by simp; omega)
     refine Ex.mono this ?_
     rintro x rfl
     rw [nix, nix, ix_pos h h0 hi]; simp
  have hlen := nix_len (t := t) k
  have := h.dep k hk
  refine Ex.be (a := (nix t k).reverse) ?_ (Ex.be (reverse_ex _ (by simp; omega)) (Ex.guard (by simp) (Ex.ret (by simp))))
  have := key k hk [] (by simp; omega)
  rwa [List.nil_append] at this
def ib (s : Str) : List Int := s.map fun b => ((b.toNat : Nat) : Int)
theorem ib_app (a b : Str) : ib (a ++ b) = ib a ++ ib b := by simp [ib]
theorem bytes_ib (s : Str) : bytesOf (ib s) = s := by
 induction s with
 | nil => rfl
 | cons a s ih =>
  have : bytesOf (ib (a :: s)) = UInt8.ofNat ((a.toNat : Int)).toNat :: bytesOf (ib s) := rfl
  rw [this, ih, Int.toNat_natCast, UInt8.ofNat_toNat]
theorem ib_ok (s : Str) : ∀ x ∈ ib s, 0 ≤ x ∧ x ≤ 255 := by
 intro x hx
 obtain ⟨b, _, rfl⟩ := List.mem_map.1 hx
 have := UInt8.toNat_lt b
 omega
theorem ib_len (s : Str) : (ib s).length = s.length := by simp [ib]
theorem wByte {s : Str} (hs : s.length ≤ 1000000000000) (c : UInt8) {i : Int} (hi : i = (c.toNat : Int)) : strings_Builder_WriteByte (ib s) i = some (ib (s ++ [c])) := by
 unfold strings_Builder_WriteByte
 rw [guardO_pos ⟨rfl, rfl, by simp [ib]; omega⟩, ib_app, hi]; rfl
theorem wStr {s r : Str} (hs : s.length + r.length ≤ 1000000000000) : strings_Builder_WriteString (ib s) r = some (ib (s ++ r), (r.length : Int)) := by
 unfold strings_Builder_WriteString
 rw [guardO_pos ⟨rfl, rfl, by simp [ib]; omega⟩, ib_app]; rfl
theorem bStr (s : Str) : strings_Builder_String (ib s) = some (s.length, s) := by
 unfold strings_Builder_String
 rw [guardO_pos ⟨rfl, ib_ok s⟩, bytes_ib, ib_len]
/-- the path of a node, as a text -/
def pathT (t : List Nod) (i : Int) : Str := if (decide (0 ≤ i ∧ i < t.length) && validT t) = true then ptx (np t i.toNat) else []
theorem pathT_of {t : List Nod} (h : VT t) {i : Nat} (hi : i < t.length) : pathT t i = ptx (np t i) := by
 rw [pathT, if_pos (by rw [decide_eq_true (by omega), validT_iff.2 h]; rfl), Int.toNat_natCast]
theorem implPathText_ex {t : List Nod} (hl : t.length ≤ 1000000000000) (i : Int) : Ex (fun n => impl_PathText n t i) (· = pathT t i) := by
 unfold impl_PathText
 refine Ex.be (implPathTo_ex hl i) ?_
 rw [pathT]
 cases hb : (decide (0 ≤ i ∧ i < t.length) && validT t) with
 | false => exact Ex.yes rfl (Ex.ret rfl)
 | true =>
  rw [if_pos rfl, if_pos rfl]
  simp only [Bool.and_eq_true, decide_eq_true_eq] at hb
  obtain ⟨⟨h0, h1⟩, hv⟩ := hb
  have h := validT_iff.1 hv
  obtain ⟨k, rfl⟩ : ∃ k : Nat, i = (k : Int) := ⟨i.toNat, by omega⟩
  rw [Int.toNat_natCast]
  have hk : k < t.length := by omega
  have hlen := nix_len (t := t) k
  have hlen2 : (ix t k).length = (nix t k).length := by simp [nix]
  have hd := h.dep k hk
  refine Ex.no (decide_eq_false (by omega)) ?_
  rcases Nat.eq_zero_or_pos k with rfl | hk0
  ·have : dp t 0 = 0 := by have := dp_le (t := t) 0; omega
   refine Ex.yes (decide_eq_true (by omega)) (Ex.ret ?_)
   rw [np_zero h]; rfl
  ·have := dp_pos h hk0 hk
   refine Ex.no (decide_eq_false (by omega)) (Ex.guard (by omega) (Ex.be (a := ib (fm 47 (np t k))) ?_ (Ex.bc (bStr _) (Ex.ret ?_))))
   ·refine up ((nix t k).length - 1) (fun j (x : List Int) => ∃ s : Str, x = ib s ∧ s ++ fm 47 (((ix t k).drop (1 + j)).map (nmo t)) = fm 47 (np t k) ∧ s.length ≤ 5 * j) (f := fun n s i' => impl_PathText_L1 t (nix t k) n s i') ?_ ?_ 0 [] (by omega) ⟨[], rfl, by rw [ix_names]; rfl, by simp⟩
    ·rintro j _ hj ⟨s, rfl, h1, h2⟩ next
     obtain ⟨a1, a2⟩ := nix_at h hk (k := 1 + j) (by omega)
     have hnm : (nmo t ((ix t k).getD (1 + j) 0)).length ≤ 4 := by
      rcases Nat.eq_zero_or_pos ((ix t k).getD (1 + j) 0) with e | e
      ·rw [e, h.rn]; simp
      ·exact name_len (h.nam _ e a2)
     rw [nmo] at hnm
     simp only [impl_PathText_L1, Int.toNat_natCast, a1]
     refine Ex.yes (decide_eq_true (by omega)) (Ex.guard (by omega) (Ex.bc (wByte (by omega) 47 rfl) (Ex.guard (by omega) (Ex.bc (wStr (by simp only [List.length_append, List.length_singleton]; omega)) ?_))))
     rw [w64_succ (by omega)]
     refine next _ ⟨_, rfl, ?_, by simp only [List.length_append, List.length_singleton]; omega⟩
     rw [← h1, drop_at 0 (show 1 + j < (ix t k).length by omega), List.map_cons, fm_cons, nmo]
     simp [Nat.add_assoc]
    ·rintro _ ⟨s, rfl, h1, h2⟩
     simp only [impl_PathText_L1]
     refine Ex.no (decide_eq_false (by omega)) (Ex.ret ?_)
     rw [← h1, List.drop_eq_nil_of_le (by omega)]; simp [fm_nil]
   ·rw [ptx, if_neg (by rw [np_nil h hk]; omega)]
end
section
open Go
set_option linter.unusedVariables false
theorem decNat_ex : ∀ (u : Nat), u ≤ 9223372036854775807 → Ex (fun n => spec_decimal n (u : Int)) (· = Lib.decDigits u) := by
 intro u
 induction u using Nat.strongRecOn with
 | ind u ih =>
  intro hu
  refine Ex.succ ?_
  simp only [spec_decimal]
  unfold spec_decimal_B
  refine Ex.no (by rw [decide_eq_false (by omega)]; rfl) (Ex.no (decide_eq_false (by omega)) ?_)
  by_cases h : u < 10
  ·refine Ex.yes (decide_eq_true (by omega)) (Ex.ret ?_)
   rw [w64_id (by omega) (by omega), u8wrap (by omega) (by omega), dig_small h]
   show [UInt8.ofNat (48 + (u : Int)).toNat] = _
   congr 2
  ·have e1 : ((u : Int)).tdiv 10 = ((u / 10 : Nat) : Int) := by rw [Int.tdiv_eq_ediv_of_nonneg (by omega)]; omega
   have e2 : ((u : Int)).tmod 10 = ((u % 10 : Nat) : Int) := by rw [Int.tmod_eq_emod_of_nonneg (by omega)]; omega
   have hlen := digits_len 19 (u / 10) (by omega)
   refine Ex.no (decide_eq_false (by omega)) ?_
   rw [e1, e2, w64_id (n := ((u / 10 : Nat) : Int)) (by omega) (by omega), w64_id (n := 48 + ((u % 10 : Nat) : Int)) (by omega) (by omega), u8wrap (by omega) (by omega)]
   refine Ex.be (ih (u / 10) (by omega) (by omega)) (Ex.guard ?_ (Ex.ret ?_))
   ·show (Lib.decDigits (u / 10)).length + 1 ≤ _
    omega
   ·rw [dig_big h]
    show _ ++ [UInt8.ofNat (48 + ((u % 10 : Nat) : Int)).toNat] = _
    congr 3
theorem decimal_ex {x : Int} (h0 : -9223372036854775807 ≤ x) (h1 : x ≤ 9223372036854775807) : Ex (fun n => spec_decimal n x) (· = Lib.itoa x) := by
 rcases Int.lt_or_le x 0 with h | h
 ·refine Ex.succ ?_
  simp only [spec_decimal]
  unfold spec_decimal_B
  have e : w64 (0 - x) = ((x.natAbs : Nat) : Int) := by rw [w64_id (by omega) (by omega)]; omega
  rw [e]
  have hlen := digits_len 19 x.natAbs (by omega)
  refine Ex.no (by rw [decide_eq_false (p := x = _) (by omega)]; simp) (Ex.yes (decide_eq_true h) (Ex.be (decNat_ex x.natAbs (by omega)) (Ex.guard (by simp; omega) (Ex.ret ?_))))
  unfold Lib.itoa
  rw [if_pos h]; rfl
 ·obtain ⟨u, rfl⟩ : ∃ u : Nat, x = (u : Int) := ⟨x.toNat, by omega⟩
  have := decNat_ex u (by omega)
  unfold Lib.itoa
  rw [if_neg (by omega), Int.toNat_natCast]
  exact this
theorem itoa_some {x : Int} (h0 : -9223372036854775808 ≤ x) (h1 : x ≤ 9223372036854775807) : strconv_Itoa x = some (Lib.itoa x) := by
 unfold strconv_Itoa
 rw [guardO_pos ⟨h0, h1⟩]
theorem pcs_len {t : List Nod} (h : VT t) {i : Nat} (hi : i < t.length) : (pcs t i).length ≤ 30 := by
 have h1 := ptx_len h hi
 have h2 := h.val i hi
 have h3 := itoa_len h2.1 h2.2
 rw [pcs]; simp; omega
theorem sep_len {t : List Nod} (h : VT t) {k : Nat} (hk : k ≤ t.length) : (sepk (pcs t) k).length ≤ 32 * k := sepk_len (B := 30) (fun j hj => pcs_len h (by omega))
theorem specFmt_ex {t : List Nod} (h : VT t) : Ex (fun n => spec_formatTree n t) (· = fmtT t) := by
 have hhi := h.hi
 unfold spec_formatTree
 refine Ex.be (a := fmtT t) ?_ (Ex.ret rfl)
 refine up t.length (fun k (s : Str) => s = sepk (pcs t) k) (f := fun n s i => spec_formatTree_L1 t n s i) ?_ ?_ 0 [] (Nat.zero_le _) rfl
 ·rintro k _ hk rfl next
  have hl := sep_len h (Nat.le_of_lt hk)
  have h1 := ptx_len h hk
  have h2 := h.val k hk
  have h3 := itoa_len h2.1 h2.2
  simp only [spec_formatTree_L1, Int.toNat_natCast]
  refine Ex.yes (decide_eq_true (by omega)) (Ex.be (a := sepk (pcs t) k ++ if 0 < k then [59, 32] else []) ?_ ?_)
  ·refine Ex.ite (fun hb => ?_) (fun hb => Ex.ret ?_)
   ·have := of_decide_eq_true hb
    rw [if_pos (by omega)]
    exact Ex.guard (by simp; omega) (Ex.ret rfl)
   ·have := of_decide_eq_false hb
    rw [if_neg (by omega), List.append_nil]
  ·have hl2 : (sepk (pcs t) k ++ if 0 < k then [59, 32] else []).length ≤ 32 * k + 2 := by
    rw [List.length_append]; split <;> simp <;> omega
   generalize hg : (sepk (pcs t) k ++ if 0 < k then [59, 32] else []) = s at hl2 ⊢
   refine Ex.be (specPathText_ex h hk) (Ex.guard (by omega) (Ex.guard (by simp only [List.length_append, List.length_singleton]; omega) (Ex.guard (by omega) (Ex.be (decimal_ex (x := (t.getD k dnod).value) (by have := h2.1; simp only [va] at this; omega) (by have := h2.2; simp only [va] at this; omega)) (Ex.guard ?_ ?_)))))
   ·have : (Lib.itoa (t.getD k dnod).value).length ≤ 5 := h3
    simp only [List.length_append, List.length_singleton]; omega
   ·rw [w64_succ (by omega)]
    refine next _ ?_
    rw [sepk, hg, pcs, va]
    simp
 ·rintro _ rfl
  simp only [spec_formatTree_L1]
  exact Ex.no (decide_eq_false (by omega)) (Ex.ret rfl)
def fmtR (t : List Nod) : Str := if validT t = true then fmtT t else []
theorem specFormat_ex {t : List Nod} (hn : NL t) (hl : t.length ≤ 400000000) : Ex (fun n => spec_FormatTree n t) (· = fmtR t) := by
 unfold spec_FormatTree fmtR
 refine Ex.be (specTree_ex hn hl) ?_
 cases hv : validT t with
 | false => exact Ex.yes rfl (Ex.ret rfl)
 | true => rw [if_pos rfl]; exact Ex.no rfl (Ex.be (specFmt_ex (validT_iff.1 hv)) (Ex.ret rfl))
theorem implFormat_ex (t : List Nod) : Ex (fun n => impl_FormatTree n t) (· = fmtR t) := by
 unfold impl_FormatTree fmtR
 refine Ex.be (implTree_ex t) ?_
 cases hv : validT t with
 | false => exact Ex.yes rfl (Ex.ret rfl)
 | true =>
  have h := validT_iff.1 hv
  have hhi := h.hi
  rw [if_pos rfl]
  refine Ex.no rfl (Ex.be (a := ib (fmtT t)) ?_ (Ex.bc (bStr _) (Ex.ret rfl)))
  refine up t.length (fun k (x : List Int) => x = ib (sepk (pcs t) k)) (f := fun n x i => impl_FormatTree_L1 t n x i) ?_ ?_ 0 [] (Nat.zero_le _) rfl
  ·rintro k _ hk rfl next
   have hl := sep_len h (Nat.le_of_lt hk)
   have h1 := ptx_len h hk
   have h2 := h.val k hk
   have h3 := itoa_len h2.1 h2.2
   simp only [impl_FormatTree_L1, Int.toNat_natCast]
   refine Ex.yes (decide_eq_true (by omega)) (Ex.guard (by omega) (Ex.be (a := ib (sepk (pcs t) k ++ if 0 < k then [59, 32] else [])) ?_ ?_))
   ·refine Ex.ite (fun hb => ?_) (fun hb => Ex.ret ?_)
    ·have := of_decide_eq_true hb
     rw [if_pos (by omega)]
     exact Ex.bc (wStr (by simp; omega)) (Ex.ret rfl)
    ·have := of_decide_eq_false hb
     rw [if_neg (by omega), List.append_nil]
   ·have hl2 : (sepk (pcs t) k ++ if 0 < k then [59, 32] else []).length ≤ 32 * k + 2 := by
     rw [List.length_append]; split <;> simp <;> omega
    generalize hg : (sepk (pcs t) k ++ if 0 < k then [59, 32] else []) = s at hl2 ⊢
    have pe := implPathText_ex (t := t) (by omega) (k : Int)
    rw [pathT_of h hk] at pe
    have h3' : (Lib.itoa (t.getD k dnod).value).length ≤ 5 := h3
    refine Ex.be pe (Ex.bc (wStr (by omega)) (Ex.bc (wByte (by simp only [List.length_append]; omega) 32 rfl) (Ex.bc (itoa_some (by have := h2.1; simp only [va] at this; omega) (by have := h2.2; simp only [va] at this; omega)) (Ex.bc (wStr (by simp only [List.length_append, List.length_singleton]; omega)) ?_))))
    rw [w64_succ (by omega)]
    refine next _ ?_
    rw [sepk, hg, pcs, va]
    simp
  ·rintro _ rfl
   simp only [impl_FormatTree_L1]
   exact Ex.no (decide_eq_false (by omega)) (Ex.ret rfl)
end
section
open Go
set_option linter.unusedVariables false
theorem specRes_ex {t : List Nod} (h : VT t) (s : Str) : Ex (fun n => spec_resolve n t s) (· = res t s) := by
 have hhi := h.hi
 unfold spec_resolve
 refine Ex.bind (P := fun v => (match v with | .inl i => i | .inr _ => -1) = res t s) ?_ ?_
 ·rw [← res_first h s]
  refine upU t.length (fun k => firstAt (fun i => decide (ptx (np t i) = s)) ((List.range t.length).drop k) k = firstAt (fun i => decide (ptx (np t i) = s)) (List.range t.length) 0) ?_ ?_ 0 (Nat.zero_le _) (by simp)
  ·intro k hk hi next
   simp only [spec_resolve_L1]
   rw [drop_at 0 (by simpa using hk), firstAt] at hi
   have e : (List.range t.length).getD k 0 = k := by rw [List.getD_eq_getElem?_getD, List.getElem?_range hk]; rfl
   rw [e] at hi
   refine Ex.yes (decide_eq_true (by omega)) (Ex.be (specPathText_ex h hk) (Ex.ite (fun hb => Ex.ret ?_) (fun hb => ?_)))
   ·rw [if_pos hb] at hi; exact hi
   ·rw [if_neg (by rw [hb]; simp)] at hi
    rw [w64_succ (by omega)]
    exact next hi
  ·intro hi
   simp only [spec_resolve_L1]
   refine Ex.no (decide_eq_false (by omega)) (Ex.ret ?_)
   rw [List.drop_eq_nil_of_le (by simp), firstAt] at hi; exact hi
 ·intro v hv
  rcases v with i | u
  ·exact Ex.ret hv
  ·exact Ex.ret hv
theorem idx_none {c : UInt8} : ∀ {s : Str}, c ∉ s → Lib.indexByte s c = -1
 | [], _ => rfl
 | x :: s, h => by
  simp only [List.mem_cons, not_or] at h
  rw [Lib.indexByte, if_neg (by simp; exact Ne.symm h.1), idx_none h.2, if_pos (by decide)]
theorem idx_at {c : UInt8} {b : Str} : ∀ {a : Str}, c ∉ a → Lib.indexByte (a ++ c :: b) c = a.length
 | [], _ => by rw [List.nil_append, Lib.indexByte, if_pos (by simp)]; rfl
 | x :: a, h => by
  simp only [List.mem_cons, not_or] at h
  rw [List.cons_append, Lib.indexByte, if_neg (by simp; exact Ne.symm h.1), idx_at h.2, if_neg (by simp <;> omega)]; simp
theorem index1 (s : Str) (c : UInt8) : stringslite_Index s [c] = some (Lib.indexByte s c) := by
 unfold stringslite_Index
 have e0 : decide ((([c] : Str).length : Int) = 0) = false := by simp
 have e1 : decide ((([c] : Str).length : Int) = 1) = true := by simp
 rw [e0, e1, Bool.false_or]
 by_cases h : ([c] : Str) = s
 ·subst h
  rw [decide_eq_true rfl]
  show some (0 : Int) = some (Lib.indexByte [c] c)
  rw [Lib.indexByte, if_pos (by simp)]
 ·rw [decide_eq_false h]
  simp only [iteO_false, iteO_true]
  rw [guardO_pos (by simp)]
  show some (stringslite_IndexByte s ((([c] : Str).getD (0 : Int).toNat 0).toNat : Int)) = _
  have : (([c] : Str).getD (0 : Int).toNat 0) = c := rfl
  rw [this, stringslite_IndexByte, Int.toNat_natCast, UInt8.ofNat_toNat]
theorem cut_none {c : UInt8} {s : Str} (h : c ∉ s) : strings_Cut s [c] = some (s, [], false) := by
 unfold strings_Cut stringslite_Cut
 rw [index1, idx_none h]; rfl
theorem cut_some {c : UInt8} {a b : Str} (h : c ∉ a) (hl : (a ++ c :: b).length ≤ 1000000000000) : strings_Cut (a ++ c :: b) [c] = some (a, b, true) := by
 unfold strings_Cut stringslite_Cut
 simp only [List.length_append, List.length_cons] at hl
 rw [index1, idx_at h]
 simp only [bindO_some]
 rw [decide_eq_true (by omega)]
 simp only [iteO_true]
 have e : w64 ((a.length : Int) + (([c] : Str).length : Int)) = ((a.length + 1 : Nat) : Int) := by
  rw [w64_id (by simp; omega) (by simp; omega)]; simp
 rw [e, guardO_pos (by simp; omega), guardO_pos (by simp; omega), Int.toNat_natCast, Int.toNat_natCast]
 show some _ = some _
 congr 2
 ·simp
 ·congr 1
  have : a ++ c :: b = (a ++ [c]) ++ b := by simp
  rw [this]
  exact List.drop_left' (by simp)
theorem implRes_ex {t : List Nod} {s : Str} (hs : s.length ≤ 1000000000000) : Ex (fun n => impl_ResolvePath n t s) (· = if validT t = true then res t s else -1) := by
 unfold impl_ResolvePath
 refine Ex.be (implTree_ex t) ?_
 cases hv : validT t with
 | false => exact Ex.yes rfl (Ex.ret rfl)
 | true =>
  have h := validT_iff.1 hv
  have hhi := h.hi
  rw [if_pos rfl]
  refine Ex.no rfl ?_
  have hc : strings_CutPrefix s [47] = some (match s with | [] => (s, false) | c :: r => if c = 47 then (r, true) else (s, false)) := by
   unfold strings_CutPrefix stringslite_CutPrefix stringslite_HasPrefix
   cases s with
   | nil => rfl
   | cons c r =>
    have e : decide ((([47] : Str).length : Int) ≤ (((c :: r : Str).length : Nat) : Int)) = true := decide_eq_true (by simp; omega)
    rw [e]
    simp only [iteO_true]
    rw [guardO_pos (by simp; omega)]
    by_cases hc : c = 47
    ·subst hc
     have e9 : (1 : Int) ≤ (r.length : Int) + 1 := by omega
     simp [iteO_false, bindO, guardO, e9]
    ·rw [if_neg hc]
     have : decide (((c :: r).take ((([47] : Str).length : Int).toNat)) = [47]) = false := decide_eq_false (by simp; exact hc)
     rw [this]; rfl
  rw [hc]
  cases s with
  | nil => exact Ex.bc rfl (Ex.yes rfl (Ex.ret res_nil.symm))
  | cons c r =>
   rw [res_desc h]
   by_cases hc : c = 47
   ·rw [if_pos hc]
    simp only [hc, if_true]
    refine Ex.bc rfl (Ex.no rfl ?_)
    by_cases hr : r = []
    ·rw [if_pos hr]; exact Ex.yes (decide_eq_true hr) (Ex.ret rfl)
    ·rw [if_neg hr]
     refine Ex.no (decide_eq_false hr) ?_
     have key : ∀ (m : Nat) (r : Str) (a : Int), r.length ≤ m → m ≤ 1000000000000 → Ex (fun n => impl_ResolvePath_L1 t n r a true) (fun v => (match v with | .inl _ => -1 | .inr i => i) = desc t a (spl 47 r)) := by
      intro m
      induction m with
      | zero =>
       intro r a h1 h2
       have : r = [] := List.eq_nil_of_length_eq_zero (by omega)
       subst this
       refine Ex.succ ?_
       simp only [impl_ResolvePath_L1]
       refine Ex.yes rfl (Ex.bc (cut_none (by simp)) (Ex.be (implKid_ex (by omega) a []) ?_))
       rw [spl, desc]
       refine Ex.ite (fun hb => Ex.ret ?_) (fun hb => ?_)
       ·rw [if_pos (of_decide_eq_true hb)]
       ·rw [if_neg (of_decide_eq_false hb)]
        refine Ex.succ ?_
        simp only [impl_ResolvePath_L1]
        exact Ex.no rfl (Ex.ret rfl)
      | succ m ih =>
       intro r a h1 h2
       refine Ex.succ ?_
       simp only [impl_ResolvePath_L1]
       refine Ex.yes rfl ?_
       rcases cut_at 47 r with h3 | ⟨x, y, rfl, h3⟩
       ·refine Ex.bc (cut_none h3) (Ex.be (implKid_ex (by omega) a r) ?_)
        rw [spl_none h3, desc]
        refine Ex.ite (fun hb => Ex.ret ?_) (fun hb => ?_)
        ·rw [if_pos (of_decide_eq_true hb)]
        ·rw [if_neg (of_decide_eq_false hb)]
         refine Ex.succ ?_
         simp only [impl_ResolvePath_L1]
         exact Ex.no rfl (Ex.ret rfl)
       ·refine Ex.bc (cut_some h3 (by omega)) (Ex.be (implKid_ex (by omega) a x) ?_)
        rw [spl_at h3, desc]
        refine Ex.ite (fun hb => Ex.ret ?_) (fun hb => ?_)
        ·rw [if_pos (of_decide_eq_true hb)]
        ·rw [if_neg (of_decide_eq_false hb)]
         simp only [List.length_append, List.length_cons] at h1
         exact ih y _ (by omega) (by omega)
     refine Ex.bind (key r.length r 0 (Nat.le_refl _) (by simp at hs; omega)) ?_
     intro v hv
     rcases v with u | i
     ·exact Ex.ret hv
     ·exact Ex.ret hv
   ·rw [if_neg hc]
    simp only [if_neg hc]
    exact Ex.bc rfl (Ex.yes rfl (Ex.ret rfl))
end
section
open Go
set_option linter.unusedVariables false
/-- the same parents and names -/
theorem np_congr {t u : List Nod} {n : Nat} (h1 : ∀ i, i < n → pa u i = pa t i) (h2 : ∀ i, i < n → nmo u i = nmo t i) : ∀ i, i < n → np u i = np t i := by
 intro i
 induction i using Nat.strongRecOn with
 | ind i ih =>
  intro hi
  have e1 := h1 i hi
  have e2 := h2 i hi
  simp only [pa, nmo] at e1 e2
  rw [np.eq_1 u i, np.eq_1 t i, e1, e2]
  split
  ·rename_i h; rw [ih _ h.2 (by omega)]
  ·rfl
variable {t : List Nod}
/-- a node more -/
theorem app_at {x : Nod} {i : Nat} (hi : i < t.length) : (t ++ [x]).getD i dnod = t.getD i dnod := by
 rw [List.getD_eq_getElem?_getD, List.getElem?_append_left hi, List.getD_eq_getElem?_getD]
theorem app_last {x : Nod} : (t ++ [x]).getD t.length dnod = x := by
 rw [List.getD_eq_getElem?_getD, List.getElem?_append_right (Nat.le_refl _)]; simp
theorem app_np {x : Nod} {i : Nat} (hi : i < t.length) : np (t ++ [x]) i = np t i := np_congr (n := t.length) (fun i hi => by rw [pa, app_at hi]; rfl) (fun i hi => by rw [nmo, app_at hi]; rfl) i hi
theorem app_np_last {x : Nod} (h0 : 0 ≤ x.parent) (h1 : x.parent.toNat < t.length) : np (t ++ [x]) t.length = np t x.parent.toNat ++ [x.name] := by
 rw [np, app_last, dif_pos ⟨h0, h1⟩, app_np h1]
/-- when a node more fits -/
structure Fits (t : List Nod) (x : Nod) : Prop where
 room : t.length < 12
 val : -1000 ≤ x.value ∧ x.value ≤ 1000
 p0 : 0 ≤ x.parent
 p1 : x.parent.toNat < t.length
 nam : nameOk x.name = true
 new : loo t (np t x.parent.toNat ++ [x.name]) = none
 dep : (np t x.parent.toNat).length ≤ 3
theorem fits_iff (h : VT t) {x : Nod} : VT (t ++ [x]) ↔ Fits t x := by
 have hlo := h.lo
 constructor
 ·intro h'
  have hl : t.length < (t ++ [x]).length := by simp
  have h1 := h'.hi
  simp only [List.length_append, List.length_singleton] at h1
  have h2 := h'.val t.length hl
  have h3 := h'.par t.length (by omega) hl
  have h4 := h'.nam t.length (by omega) hl
  have h5 := h'.dep t.length hl
  rw [va, app_last] at h2
  rw [pa, app_last] at h3
  rw [nmo, app_last] at h4
  rw [← np_len, app_np_last h3.1 h3.2] at h5
  simp only [List.length_append, List.length_singleton] at h5
  refine ⟨by omega, h2, h3.1, h3.2, h4, loo_none.2 (fun i hi e => ?_), by omega⟩
  have := np_inj h' i (by simp; omega) t.length hl (by rw [app_np hi, app_np_last h3.1 h3.2, e])
  omega
 ·intro f
  have key : ∀ i, i < (t ++ [x]).length → i < t.length ∨ i = t.length := fun i hi => by simp at hi; omega
  refine ⟨by simp, by have := f.room; simp; omega, fun i hi => ?_, by rw [pa, app_at hlo]; exact h.rp, by rw [nmo, app_at hlo]; exact h.rn, fun i h0 hi => ?_, fun i h0 hi => ?_, fun i j h0 hij hj e => ?_, fun i hi => ?_⟩
  ·rcases key i hi with h1 | rfl
   ·rw [va, app_at h1]; exact h.val i h1
   ·rw [va, app_last]; exact f.val
  ·rcases key i hi with h1 | rfl
   ·rw [pa, app_at h1]; exact h.par i h0 h1
   ·rw [pa, app_last]; exact ⟨f.p0, f.p1⟩
  ·rcases key i hi with h1 | rfl
   ·rw [nmo, app_at h1]; exact h.nam i h0 h1
   ·rw [nmo, app_last]; exact f.nam
  ·rcases key j hj with h1 | rfl
   ·rw [pa, app_at (by omega), pa, app_at h1] at e
    rw [nmo, app_at (by omega), nmo, app_at h1]
    exact h.sib i j h0 hij h1 e
   ·rw [pa, app_at hij, pa, app_last] at e
    rw [nmo, app_at hij, nmo, app_last]
    intro e2
    refine loo_none.1 f.new i hij ?_
    rw [np_pos h h0 hij, pa, nmo, e, e2]
  ·rcases key i hi with h1 | rfl
   ·rw [← np_len, app_np h1, np_len]; exact h.dep i h1
   ·have := f.dep
    rw [← np_len, app_np_last f.p0 f.p1]; simp; omega
end
section
open Go
set_option linter.unusedVariables false
def addP (t : List Nod) (s : Str) (v : Int) : Option (List Nod) :=
 match pth s with
 | none => none
 | some l => match l.getLast?, loo t l.dropLast with
  | some n, some p => if validT (t ++ [⟨(p : Int), n, v⟩]) = true then some (t ++ [⟨(p : Int), n, v⟩]) else none
  | _, _ => none
variable {t : List Nod}
theorem addP_iff (h : VT t) {s : Str} {v : Int} {u : List Nod} : addP t s v = some u ↔ ∃ (p : Nat) (n : Str), u = t ++ [⟨(p : Int), n, v⟩] ∧ Fits t ⟨(p : Int), n, v⟩ ∧ s = ptx (np t p ++ [n]) := by
 unfold addP
 constructor
 ·intro e
  split at e
  ·cases e
  ·rename_i l hl
   split at e
   ·rename_i n p hn hp
    split at e
    ·rename_i hv
     cases e
     have f := (fits_iff h).1 (validT_iff.1 hv)
     refine ⟨p, n, rfl, f, ?_⟩
     have e2 : l = l.dropLast ++ [n] := by
      obtain ⟨ys, rfl⟩ := List.getLast?_eq_some_iff.1 hn
      rw [List.dropLast_concat]
     rw [((loo_iff h).1 hp).2, ← e2]
     exact (ptx_pth hl).symm
    ·cases e
   ·cases e
 ·rintro ⟨p, n, rfl, f, rfl⟩
  have hp : p < t.length := f.p1
  have hl : pth (ptx (np t p ++ [n])) = some (np t p ++ [n]) := pth_ptx (fun s hs => by
   rcases List.mem_append.1 hs with h1 | h1
   ·exact np_names h p hp s h1
   ·rw [List.mem_singleton.1 h1]; exact f.nam)
  rw [hl]
  simp only [List.getLast?_append, List.getLast?_singleton, Option.some_or, List.dropLast_concat, loo_np h hp]
  rw [if_pos (validT_iff.2 ((fits_iff h).2 f))]
theorem last_at (c : UInt8) : ∀ (s : Str), c ∉ s ∨ ∃ a b, s = a ++ c :: b ∧ c ∉ b
 | [] => .inl (by simp)
 | x :: s => by
  rcases last_at c s with h1 | ⟨a, b, rfl, h1⟩
  ·by_cases h : x = c
   ·subst h; exact .inr ⟨[], s, rfl, h1⟩
   ·exact .inl (by simp only [List.mem_cons, not_or]; exact ⟨Ne.symm h, h1⟩)
  ·exact .inr ⟨x :: a, b, rfl, h1⟩
theorem last_uniq {c : UInt8} {a b a' b' : Str} (h : c ∉ b) (h' : c ∉ b') (e : a ++ c :: b = a' ++ c :: b') : a = a' ∧ b = b' := by
 have key : ∀ {x y : Str} {z w : Str}, c ∉ x → c ∉ y → x ++ c :: z = y ++ c :: w → x = y ∧ z = w := by
  intro x
  induction x with
  | nil =>
   intro y z w hx hy e
   cases y with
   | nil => simpa using e
   | cons q y => simp only [List.nil_append, List.cons_append, List.cons.injEq] at e; rw [e.1] at hy; simp at hy
  | cons p x ih =>
   intro y z w hx hy e
   cases y with
   | nil => simp only [List.nil_append, List.cons_append, List.cons.injEq] at e; rw [e.1] at hx; simp at hx
   | cons q y =>
    simp only [List.cons_append, List.cons.injEq] at e
    simp only [List.mem_cons, not_or] at hx hy
    obtain ⟨h1, h2⟩ := ih hx.2 hy.2 e.2
    exact ⟨by rw [e.1, h1], h2⟩
 have e2 := congrArg List.reverse e
 simp only [List.reverse_append, List.reverse_cons, List.append_assoc, List.singleton_append] at e2
 obtain ⟨h1, h2⟩ := key (by simpa using h) (by simpa using h') e2
 exact ⟨List.reverse_inj.1 h2, List.reverse_inj.1 h1⟩
theorem ptx_snoc (l : List Str) (n : Str) : ptx (l ++ [n]) = fm 47 l ++ 47 :: n := by
 rw [ptx, if_neg (by simp), fm_app, fm_cons, fm_nil, List.append_nil]
end
section
open Go
structure Rd (x1 : List Int) (k2 : Nat) : Prop where
 by_ : ∀ b ∈ x1, 0 ≤ b ∧ b ≤ 255
 le : k2 ≤ x1.length
 le2 : k2 ≤ 2000
theorem xor_small {a b : Int} (ha : 0 ≤ a) (ha2 : a < 4611686018427387904) (hb : 0 ≤ b) (hb2 : b < 4611686018427387904) :
  0 ≤ w64 (BitVec.ofInt 64 a ^^^ BitVec.ofInt 64 b).toNat := by
 rw [BitVec.toNat_xor, BitVec.toNat_ofInt, BitVec.toNat_ofInt]
 have e1 : (a % ((2 ^ 64 : Nat) : Int)).toNat = a.toNat := by
  rw [Int.emod_eq_of_lt ha (by omega)]
 have e2 : (b % ((2 ^ 64 : Nat) : Int)).toNat = b.toNat := by
  rw [Int.emod_eq_of_lt hb (by omega)]
 rw [e1, e2]
 have := Nat.xor_lt_two_pow (x := a.toNat) (y := b.toNat) (n := 62) (by omega) (by omega)
 rw [w64_id (by omega) (by omega)]
 omega
theorem byte_at {x1 : List Int} {k2 : Nat} (h : Rd x1 k2) (j : Nat) (hj : j < x1.length) : 0 ≤ x1.getD j 0 ∧ x1.getD j 0 ≤ 255 := h.by_ _ (getD_mem hj)
theorem pick_ok {x1 : List Int} {k2 : Nat} (h : Rd x1 k2) {i m : Int} (h0 : 0 ≤ i) (h1 : i ≤ 1000000000) (hm : m ≤ 1000000000) :
  ∃ r, spec_reader_pick x1 k2 i m = some r ∧ 0 ≤ r ∧ (1 ≤ m → r < m) ∧ (m < 1 → r = 0) := by
 have hle := h.le
 have hle2 := h.le2
 have e0 : w64 (w64 (i + 1) - 1) = i := by rw [w64_id (n := i + 1) (by omega) (by omega), w64_id (by omega) (by omega)]; omega
 unfold spec_reader_pick
 rw [e0]
 by_cases hm1 : m < 1
 ·simp only [hm1, decide_true, Bool.true_or, iteO_true]
  exact ⟨0, rfl, by omega, by omega, fun _ => rfl⟩
 ·by_cases hk : k2 = 0
  ·subst hk
   simp only [Int.natCast_zero, decide_true, Bool.or_true, iteO_true]
   exact ⟨0, rfl, by omega, by omega, fun _ => rfl⟩
  ·have e1 : (decide (m < 1) || decide (((k2 : Nat) : Int) = 0)) = false := by
    simp only [Bool.or_eq_false_iff, decide_eq_false_iff_not]; omega
   rw [e1]
   simp only [iteO_false]
   by_cases hlt : i < (k2 : Int)
   ·rw [decide_eq_true hlt]
    simp only [iteO_true]
    obtain ⟨b1, b2⟩ := byte_at h i.toNat (by omega)
    rw [guardO_pos ⟨h0, hlt⟩, guardO_pos (by omega), w64_id (by omega) (by omega), Int.tmod_eq_emod_of_nonneg b1]
    exact ⟨_, rfl, Int.emod_nonneg _ (by omega), fun _ => Int.emod_lt_of_pos _ (by omega), by omega⟩
   ·rw [decide_eq_false hlt]
    simp only [iteO_false]
    have d1 : ∀ z : Int, 0 ≤ z → 0 ≤ z.tmod (k2 : Int) ∧ z.tmod (k2 : Int) < (k2 : Int) := fun z hz => by
     rw [Int.tmod_eq_emod_of_nonneg hz]
     exact ⟨Int.emod_nonneg _ (by omega), Int.emod_lt_of_pos _ (by omega)⟩
    have e2 : w64 (w64 (i * 7) + 3) = i * 7 + 3 := by rw [w64_id (n := i * 7) (by omega) (by omega), w64_id (by omega) (by omega)]
    rw [e2]
    obtain ⟨p1, p2⟩ := d1 i h0
    obtain ⟨q1, q2⟩ := d1 (i * 7 + 3) (by omega)
    rw [guardO_pos (by omega), guardO_pos ⟨p1, p2⟩, guardO_pos (by omega), guardO_pos ⟨q1, q2⟩, guardO_pos (by omega), guardO_pos (by omega)]
    obtain ⟨a1, a2⟩ := byte_at h (i.tmod (k2 : Int)).toNat (by omega)
    obtain ⟨c1, c2⟩ := byte_at h ((i * 7 + 3).tmod (k2 : Int)).toNat (by omega)
    generalize x1.getD (i.tmod (k2 : Int)).toNat 0 = A at a1 a2 ⊢
    generalize x1.getD ((i * 7 + 3).tmod (k2 : Int)).toNat 0 = C at c1 c2 ⊢
    have t1 : 0 ≤ i.tdiv (k2 : Int) ∧ i.tdiv (k2 : Int) ≤ i := by
     rw [Int.tdiv_eq_ediv_of_nonneg h0]
     exact ⟨Int.ediv_nonneg h0 (by omega), Int.ediv_le_self _ h0⟩
    generalize i.tdiv (k2 : Int) = D at t1 ⊢
    obtain ⟨t1, t2⟩ := t1
    rw [w64_id (n := A) (by omega) (by omega), w64_id (n := A * 131) (by omega) (by omega), w64_id (n := C) (by omega) (by omega), w64_id (n := C * 1117) (by omega) (by omega), w64_id (n := A * 131 + C * 1117) (by omega) (by omega), w64_id (n := i * 29) (by omega) (by omega), w64_id (n := A * 131 + C * 1117 + i * 29) (by omega) (by omega), w64_id (n := D) (by omega) (by omega), w64_id (n := D * 53) (by omega) (by omega), w64_id (n := A * 131 + C * 1117 + i * 29 + D * 53) (by omega) (by omega)]
    generalize hS : A * 131 + C * 1117 + i * 29 + D * 53 = S
    have s1 : 0 ≤ S := by omega
    have s2 : S < 4611686018427387904 := by omega
    have s3 : 0 ≤ S.tdiv 64 ∧ S.tdiv 64 ≤ S := by
     rw [Int.tdiv_eq_ediv_of_nonneg s1]
     exact ⟨Int.ediv_nonneg s1 (by omega), Int.ediv_le_self _ s1⟩
    rw [w64_id (n := S.tdiv 64) (by omega) (by omega)]
    have := xor_small s1 s2 s3.1 (by omega)
    refine ⟨_, rfl, ?_, fun _ => ?_, by omega⟩
    ·rw [Int.tmod_eq_emod_of_nonneg this]; exact Int.emod_nonneg _ (by omega)
    ·rw [Int.tmod_eq_emod_of_nonneg this]; exact Int.emod_lt_of_pos _ (by omega)
/-- a pick among m numbers, and the reader's place behind it -/
theorem pick_ex {x1 : List Int} {k2 : Nat} (h : Rd x1 k2) {i m : Int} (h0 : 0 ≤ i) (h1 : i ≤ 1000000000) (hm : m ≤ 1000000000) (hp : 1 ≤ m) :
  Ex (fun _ => spec_reader_pick x1 k2 i m) (fun r => 0 ≤ r ∧ r < m) := by
 obtain ⟨r, e, r0, r1, _⟩ := pick_ok h h0 h1 hm
 exact Ex.const e ⟨r0, r1 hp⟩
theorem one_ex {x1 : List Int} {k2 : Nat} (h : Rd x1 k2) {i : Int} {l : List Int} (h0 : 0 ≤ i) (h1 : i ≤ 1000000000) (hl : l.length ≤ 1000000000) (hp : 1 ≤ l.length) :
  Ex (fun _ => spec_reader_one x1 k2 i l) (fun r => r.1 = i + 1 ∧ r.2 ∈ l) := by
 unfold spec_reader_one
 refine Ex.bind (pick_ex h h0 h1 (by omega) (by omega)) (fun r hr => ?_)
 refine Ex.guard ⟨hr.1, hr.2⟩ ?_
 exact Ex.ret ⟨w64_id (by omega) (by omega), getD_mem (by omega)⟩
theorem newReader_ex {x1 : List Int} (h : ∀ b ∈ x1, 0 ≤ b ∧ b ≤ 255) (hl : x1.length ≤ 1000000000) : Ex (fun _ => spec_newReader x1) (fun k => Rd x1 k) := by
 unfold spec_newReader
 refine Ex.bind (P := fun k => Rd x1 k) ?_ (fun k hk => Ex.ret hk)
 refine Ex.ite (fun hb => ?_) (fun hb => ?_)
 ·have := of_decide_eq_true hb
  refine Ex.guard (by omega) (Ex.ret ⟨h, by omega, Nat.le_refl _⟩)
 ·have := of_decide_eq_false hb
  exact Ex.ret ⟨h, Nat.le_refl _, by omega⟩
end
section
open Go
theorem someValue_ex {x1 : List Int} {k2 : Nat} (h : Rd x1 k2) {i : Int} (h0 : 0 ≤ i) (h1 : i ≤ 900000000) :
  Ex (fun _ => spec_someValue x1 k2 i) (fun r => r.1 = i + 3 ∧ -1000 ≤ r.2 ∧ r.2 ≤ 1000) := by
 unfold spec_someValue
 refine Ex.bind (pick_ex h h0 (by omega) (by omega) (by omega)) (fun a ha => ?_)
 have e1 : w64 (i + 1) = i + 1 := w64_id (by omega) (by omega)
 have e2 : w64 (i + 1 + 1) = i + 2 := by rw [w64_id (by omega) (by omega)]; omega
 rw [e1, e2]
 refine Ex.bind (pick_ex h (by omega) (by omega) (by omega) (by omega)) (fun b hb => ?_)
 refine Ex.bind (one_ex h (by omega) (by omega) (by simp) (by simp)) ?_
 rintro ⟨c, d⟩ ⟨h1, h2⟩
 refine Ex.ret ⟨by simp at h1 ⊢; omega, ?_⟩
 have e3 : w64 (w64 (4 * b) - 500) = 4 * b - 500 := by rw [w64_id (n := 4 * b) (by omega) (by omega), w64_id (by omega) (by omega)]
 simp only [e3, List.mem_cons, List.not_mem_nil, or_false] at h2
 simp only
 omega
end
section
open Go
def addT (t : List Nod) (x : Nod) : List Nod × Int × Bool := if validT t = true ∧ t.length ≠ 12 ∧ validT (t ++ [x]) = true then (t ++ [x], (t.length : Int), true) else ([], -1, false)
theorem NL.snoc {t : List Nod} (h : NL t) (hl : t.length ≤ 1000000000) {x : Nod} (hx : x.name.length ≤ 1000000000000) : NL (t ++ [x]) := by
 refine ⟨by simp; omega, fun y hy => ?_⟩
 rcases List.mem_append.1 hy with h1 | h1
 ·exact h.2 y h1
 ·rw [List.mem_singleton.1 h1]; exact hx
theorem specAdd_ex {t : List Nod} (hn : NL t) (hl : t.length ≤ 1000000) (p : Int) {s : Str} (hs : s.length ≤ 1000000000000) (v : Int) : Ex (fun n => spec_AddNode n t p s v) (· = addT t ⟨p, s, v⟩) := by
 unfold spec_AddNode
 refine Ex.be (specTree_ex hn (by omega)) ?_
 refine Ex.ite (fun h => Ex.ret ?_) (fun h => ?_)
 ·simp only [Bool.or_eq_true, decide_eq_true_eq] at h
  rw [addT, if_neg]
  rintro ⟨h1, h2, _⟩
  rw [h1] at h
  rcases h with h | h
  ·cases h
  ·omega
 ·simp only [Bool.or_eq_false_iff, decide_eq_false_iff_not] at h
  have h1 := notF h.1
  rw [view_all, List.nil_append]
  refine Ex.guard ⟨rfl, rfl, by simp; omega⟩ (Ex.guard ⟨rfl, rfl, by simp; omega⟩ ?_)
  rw [show (([(⟨p, s, v⟩ : Nod)].drop 0).take [(⟨p, s, v⟩ : Nod)].length) = [(⟨p, s, v⟩ : Nod)] from rfl]
  refine Ex.be (specTree_ex (hn.snoc (by omega) hs) (by simp; omega)) ?_
  refine Ex.ite (fun h2 => Ex.ret ?_) (fun h2 => Ex.ret ?_)
  ·rw [addT, if_neg]
   rintro ⟨_, _, h3⟩
   rw [h3] at h2; cases h2
  ·rw [addT, if_pos ⟨h1, by omega, notF h2⟩]
theorem of_ex {x1 : List Int} {k2 : Nat} (h : Rd x1 k2) {i : Int} {l : List Str} (h0 : 0 ≤ i) (h1 : i ≤ 1000000000) (hl : l.length ≤ 1000000000) (hp : 1 ≤ l.length) :
  Ex (fun _ => spec_reader_of x1 k2 i l) (fun r => r.1 = i + 1 ∧ r.2 ∈ l) := by
 unfold spec_reader_of
 refine Ex.bind (pick_ex h h0 h1 (by omega) (by omega)) (fun r hr => ?_)
 refine Ex.guard ⟨hr.1, hr.2⟩ ?_
 exact Ex.ret ⟨w64_id (by omega) (by omega), getD_mem (by omega)⟩
theorem someName_ex {x1 : List Int} {k2 : Nat} (h : Rd x1 k2) {i : Int} (h0 : 0 ≤ i) (h1 : i ≤ 900000000) : Ex (fun _ => spec_someName x1 k2 i) (fun r => r.1 = i + 1 ∧ r.2.length ≤ 5) := by
 unfold spec_someName
 refine Ex.bind (of_ex h h0 (by omega) (by simp) (by simp)) ?_
 rintro ⟨a, s⟩ ⟨e, hs⟩
 refine Ex.ret ⟨e, ?_⟩
 simp only [List.mem_cons, List.not_mem_nil, or_false] at hs
 rcases hs with rfl | rfl | rfl | rfl | rfl | rfl <;> simp
/-- a drawn tree -/
structure GT (t : List Nod) : Prop where
 lo : 1 ≤ t.length
 hi : t.length ≤ 12
 nm : ∀ x ∈ t, x.name.length ≤ 5
theorem GT.nl {t : List Nod} (h : GT t) : NL t := ⟨by have := h.hi; omega, fun x hx => by have := h.nm x hx; omega⟩
theorem addT_GT {t : List Nod} (h : GT t) {x : Nod} (hx : x.name.length ≤ 5) : GT (if (addT t x).2.2 = true then (addT t x).1 else t) := by
 rw [addT]
 split
 ·rename_i hc
  rw [if_pos rfl]
  refine ⟨by simp, ?_, fun y hy => ?_⟩
  ·have := hc.2.2
   simp only [validT, Bool.and_eq_true, decide_eq_true_eq] at this
   exact this.1.2
  ·rcases List.mem_append.1 hy with h1 | h1
   ·exact h.nm y h1
   ·rw [List.mem_singleton.1 h1]; exact hx
 ·rw [if_neg (by simp)]; exact h
theorem someTree_loop {x1 : List Int} {k2 : Nat} (h : Rd x1 k2) : ∀ (m : Nat) (i : Int) (t : List Nod), 0 ≤ i → i + 5 * m ≤ 800000000 → GT t →
  Ex (fun n => spec_someTree_L1 k2 x1 n i t (m : Int)) (fun r => i ≤ r.1 ∧ r.1 ≤ i + 5 * m ∧ GT r.2)
 | 0, i, t, h0, h1, ht => by
  refine Ex.succ ?_
  simp only [spec_someTree_L1]
  exact Ex.no rfl (Ex.ret ⟨Int.le_refl _, by omega, ht⟩)
 | m + 1, i, t, h0, h1, ht => by
  refine Ex.succ ?_
  simp only [spec_someTree_L1]
  have hlo := ht.lo
  have hhi := ht.hi
  refine Ex.yes (decide_eq_true (by omega)) ?_
  refine Ex.bind (pick_ex h h0 (by omega) (by omega) (by omega)) (fun a ha => ?_)
  rw [w64_id (n := i + 1) (by omega) (by omega)]
  refine Ex.bind (someName_ex h (by omega) (by omega)) ?_
  rintro ⟨j, s⟩ ⟨hj, hs⟩
  simp only at hj hs ⊢
  subst hj
  refine Ex.bind (someValue_ex h (by omega) (by omega)) ?_
  rintro ⟨j, v⟩ ⟨hj, hv⟩
  simp only at hj hv ⊢
  subst hj
  refine Ex.be (specAdd_ex ht.nl (by omega) _ (by omega) _) ?_
  have hg := addT_GT ht (x := ⟨a, s, v⟩) hs
  generalize addT t ⟨a, s, v⟩ = r at hg
  obtain ⟨t', p, b⟩ := r
  simp only at hg ⊢
  refine Ex.be (a := if b = true then t' else t) ?_ ?_
  ·cases b with
   | true => exact Ex.yes rfl (Ex.ret rfl)
   | false => exact Ex.no rfl (Ex.ret rfl)
  ·have e : w64 (((m + 1 : Nat) : Int) - 1) = (m : Int) := by rw [w64_id (by omega) (by omega)]; omega
   rw [e]
   refine Ex.mono (someTree_loop h m _ _ (by omega) (by omega) hg) ?_
   rintro r ⟨h2, h3, h4⟩
   exact ⟨by omega, by omega, h4⟩
theorem someTree_ex {x1 : List Int} {k2 : Nat} (h : Rd x1 k2) {i : Int} (h0 : 0 ≤ i) (h1 : i ≤ 700000000) : Ex (fun n => spec_someTree n x1 k2 i) (fun r => i ≤ r.1 ∧ r.1 ≤ i + 100 ∧ GT r.2) := by
 unfold spec_someTree
 refine Ex.bind (someValue_ex h h0 (by omega)) ?_
 rintro ⟨j, v⟩ ⟨hj, hv⟩
 simp only at hj hv ⊢
 subst hj
 refine Ex.bind (one_ex h (by omega) (by omega) (by simp) (by simp)) ?_
 rintro ⟨j, c⟩ ⟨hj, hc⟩
 simp only at hj hc ⊢
 subst hj
 simp only [List.mem_cons, List.not_mem_nil, or_false] at hc
 obtain ⟨m, rfl, hm⟩ : ∃ m : Nat, c = (m : Int) ∧ m ≤ 16 := ⟨c.toNat, by omega, by omega⟩
 refine Ex.bind (someTree_loop h m _ _ (by omega) (by omega) ⟨by simp, by simp, by simp⟩) ?_
 rintro ⟨j, t⟩ ⟨h2, h3, h4⟩
 simp only at h2 h3 h4 ⊢
 exact Ex.ret ⟨by simp only; omega, by simp only; omega, h4⟩
/-- a drawn row of nodes and a window on it -/
structure GR (x : List Nod) (k l : Nat) : Prop where
 hi : x.length ≤ 13
 nm : ∀ y ∈ x, y.name.length ≤ 5
 vw : k + l ≤ x.length
theorem GR.len {x : List Nod} {k l : Nat} (h : GR x k l) : ((x.drop k).take l).length ≤ 13 := by
 have := h.hi; simp; omega
theorem GR.names {x : List Nod} {k l : Nat} (h : GR x k l) : ∀ y ∈ (x.drop k).take l, y.name.length ≤ 5 := fun y hy => h.nm y (List.mem_of_mem_drop (List.mem_of_mem_take hy))
theorem GR.nl {x : List Nod} {k l : Nat} (h : GR x k l) : NL ((x.drop k).take l) := ⟨by have := h.len; omega, fun y hy => by have := h.names y hy; omega⟩
theorem GT.set {t : List Nod} (h : GT t) {i : Nat} {x : Nod} (hx : x.name.length ≤ 5) : GR (t.set i x) 0 (t.set i x).length := by
 refine ⟨by have := h.hi; simp; omega, fun y hy => ?_, by omega⟩
 rcases List.mem_or_eq_of_mem_set hy with h1 | rfl
 ·exact h.nm y h1
 ·exact hx
theorem anyTree_loop {x1 : List Int} {k2 : Nat} {j : Int} : ∀ (m : Nat) (t : List Nod), t.length + m = 13 → (∀ y ∈ t, y.name.length ≤ 5) →
  Ex (fun n => spec_anyTree_L1 k2 j x1 n t) (fun r => r.length ≤ 13 ∧ ∀ y ∈ r, y.name.length ≤ 5)
 | 0, t, h1, h2 => by
  refine Ex.succ ?_
  simp only [spec_anyTree_L1]
  exact Ex.no (decide_eq_false (by omega)) (Ex.ret ⟨by omega, h2⟩)
 | m + 1, t, h1, h2 => by
  refine Ex.succ ?_
  simp only [spec_anyTree_L1]
  refine Ex.yes (decide_eq_true (by omega)) (Ex.guard (by simp; omega) ?_)
  refine anyTree_loop m _ (by simp; omega) (fun y hy => ?_)
  rcases List.mem_append.1 hy with h3 | h3
  ·exact h2 y h3
  ·rw [List.mem_singleton.1 h3]; simp
theorem anyTree_ex {x1 : List Int} {k2 : Nat} (h : Rd x1 k2) {i : Int} (h0 : 0 ≤ i) (h1 : i ≤ 600000000) :
  Ex (fun n => spec_anyTree n x1 k2 i) (fun r => (i ≤ r.1 ∧ r.1 ≤ i + 200) ∧ GR r.2.1 r.2.2.1 r.2.2.2) := by
 unfold spec_anyTree
 refine Ex.bind (someTree_ex h h0 (by omega)) ?_
 rintro ⟨j, t⟩ ⟨h2, h3, ht⟩
 simp only at h2 h3 ht ⊢
 have hlo := ht.lo
 have hhi := ht.hi
 have hnm := ht.nm
 refine Ex.bind (pick_ex h (by omega) (by omega) (by omega) (by omega)) (fun p hp => ?_)
 rw [w64_id (n := j + 1) (by omega) (by omega)]
 refine Ex.bind (pick_ex h (by omega) (by omega) (by omega) (by omega)) (fun c hc => ?_)
 rw [w64_id (n := j + 1 + 1) (by omega) (by omega)]
 have hpn : (t.getD p.toNat dnod).name.length ≤ 5 := hnm _ (getD_mem (by omega))
 refine Ex.bind (P := fun r => (i ≤ r.1 ∧ r.1 ≤ i + 200) ∧ GR r.2.1 r.2.2.1 r.2.2.2) ?_ (fun r hr => Ex.ret hr)
 refine Ex.ite (fun _ => ?_) (fun _ => ?_)
 ·refine Ex.bind (pick_ex h (by omega) (by omega) (by omega) (by omega)) (fun q hq => ?_)
  refine Ex.guard ⟨hp.1, hp.2⟩ (Ex.ret ⟨?_, ht.set hpn⟩)
  simp only
  rw [w64_id (by omega) (by omega)]; omega
 ·refine Ex.bind (P := fun r => (i ≤ r.1 ∧ r.1 ≤ i + 200) ∧ GR r.2.1 r.2.2.1 r.2.2.2) ?_ (fun r hr => Ex.ret hr)
  refine Ex.ite (fun _ => ?_) (fun _ => ?_)
  ·refine Ex.bind (of_ex h (by omega) (by omega) (by simp) (by simp)) ?_
   rintro ⟨q, s⟩ ⟨hq, hs⟩
   simp only at hq hs ⊢
   refine Ex.guard ⟨hp.1, hp.2⟩ (Ex.ret ⟨by simp only; omega, ht.set ?_⟩)
   simp only [List.mem_cons, List.not_mem_nil, or_false] at hs
   rcases hs with rfl | rfl | rfl | rfl <;> simp
  ·refine Ex.bind (P := fun r => (i ≤ r.1 ∧ r.1 ≤ i + 200) ∧ GR r.2.1 r.2.2.1 r.2.2.2) ?_ (fun r hr => Ex.ret hr)
   refine Ex.ite (fun _ => ?_) (fun _ => ?_)
   ·refine Ex.bind (one_ex h (by omega) (by omega) (by simp) (by simp)) ?_
    rintro ⟨q, s⟩ ⟨hq, hs⟩
    simp only at hq hs ⊢
    exact Ex.guard ⟨hp.1, hp.2⟩ (Ex.ret ⟨by simp only; omega, ht.set hpn⟩)
   ·refine Ex.bind (P := fun r => GR r.1 r.2.1 r.2.2) ?_ (fun r hr => Ex.ret ⟨by simp only; omega, hr⟩)
    refine Ex.ite (fun _ => Ex.guard (by omega) (Ex.ret ⟨by simp only; omega, hnm, by simp only; omega⟩)) (fun _ => ?_)
    refine Ex.bind (P := fun r => r.length ≤ 13 ∧ ∀ y ∈ r, y.name.length ≤ 5) ?_ (fun r hr => Ex.ret ⟨hr.1, hr.2, by simp⟩)
    refine Ex.ite (fun _ => ?_) (fun _ => Ex.ret ⟨by omega, hnm⟩)
    exact Ex.bind (anyTree_loop (13 - t.length) t (by omega) hnm) (fun r hr => Ex.ret hr)
end
section
open Go
set_option linter.unusedVariables false
theorem VT.nl {t : List Nod} (h : VT t) : NL t := by
 have hhi := h.hi
 refine ⟨by omega, fun x hx => ?_⟩
 obtain ⟨i, hi, rfl⟩ := List.mem_iff_getElem.1 hx
 have e2 : t[i].name = nmo t i := by rw [nmo, List.getD_eq_getElem?_getD, List.getElem?_eq_getElem hi]; rfl
 rw [e2]
 rcases Nat.eq_zero_or_pos i with rfl | h0
 ·rw [h.rn]; simp
 ·have := name_len (h.nam i h0 hi); omega
theorem VT.le {t : List Nod} (h : VT t) : t.length ≤ 400000000 := by have := h.hi; omega
def pairO (o : Option (List Nod)) : List Nod × Bool := match o with
 | some u => (u, true)
 | none => ([], false)
theorem getD_app {α : Type} {a b : List α} {d : α} (j : Nat) : (a ++ b).getD (a.length + j) d = b.getD j d := by
 rw [List.getD_eq_getElem?_getD, List.getElem?_append_right (by omega), List.getD_eq_getElem?_getD]
 congr 2; omega
theorem addT_fits {t : List Nod} (h : VT t) {x : Nod} : addT t x = if validT (t ++ [x]) = true then (t ++ [x], (t.length : Int), true) else ([], -1, false) := by
 rw [addT]
 by_cases hv : validT (t ++ [x]) = true
 ·have := (validT_iff.1 hv).hi
  simp at this
  rw [if_pos ⟨validT_iff.2 h, by omega, hv⟩, if_pos hv]
 ·rw [if_neg (fun h => hv h.2.2), if_neg hv]
theorem pth_nohead {s : Str} (hs : (47 : UInt8) ∉ s) : pth s = none := by
 cases s with
 | nil => rfl
 | cons c r => rw [pth, if_neg (by rintro rfl; simp at hs)]
/-- the node that a further path asks for -/
theorem addP_up {t : List Nod} (h : VT t) {a b : Str} {v : Int} (hb : (47 : UInt8) ∉ b) (hn : resO t (a ++ 47 :: b) = none) :
  addP t (a ++ 47 :: b) v = if validT (t ++ [⟨if a = [] then 0 else res t a, b, v⟩]) = true ∧ 0 ≤ res (t ++ [⟨if a = [] then 0 else res t a, b, v⟩]) (a ++ 47 :: b) then some (t ++ [⟨if a = [] then 0 else res t a, b, v⟩]) else none := by
 have up : ∀ (p : Nat), p < t.length → a = fm 47 (np t p) → (if a = [] then (0 : Int) else res t a) = (p : Int) := by
  intro p hp e
  by_cases ha : a = []
  ·rw [if_pos ha]
   have : np t p = [] := by
    cases hx : np t p with
    | nil => rfl
    | cons s l => rw [hx, fm_cons, ha] at e; cases e
   rw [(np_nil h hp).1 this]; rfl
  ·rw [if_neg ha]
   have : a = ptx (np t p) := by rw [ptx, if_neg (fun h => ha (by rw [e, h]; rfl)), e]
   rw [this, res, resO_np h hp]; rfl
 cases e : addP t (a ++ 47 :: b) v with
 | some u =>
  obtain ⟨p, n, rfl, f, hs⟩ := (addP_iff h).1 e
  have hp : p < t.length := f.p1
  rw [ptx_snoc] at hs
  obtain ⟨rfl, rfl⟩ := last_uniq hb (name_no f.nam).1 hs
  rw [up p hp rfl]
  have h' := (fits_iff h).2 f
  have hr : resO (t ++ [⟨(p : Int), b, v⟩]) (fm 47 (np t p) ++ 47 :: b) = some t.length := by
   rw [resO_iff h']
   refine ⟨by simp, ?_⟩
   rw [app_np_last f.p0 f.p1, ← ptx_snoc]; rfl
  have hr2 : 0 ≤ res (t ++ [⟨(p : Int), b, v⟩]) (fm 47 (np t p) ++ 47 :: b) := by rw [res, hr]; simp [oi]
  rw [if_pos ⟨validT_iff.2 h', hr2⟩]
 | none =>
  rw [eq_comm, if_neg]
  rintro ⟨h1, h2⟩
  have h' := validT_iff.1 h1
  have f := (fits_iff h).1 h'
  rw [res] at h2
  cases e2 : resO (t ++ [⟨if a = [] then 0 else res t a, b, v⟩]) (a ++ 47 :: b) with
  | none => rw [e2] at h2; simp [oi] at h2
  | some k =>
   obtain ⟨k1, k2⟩ := (resO_iff h').1 e2
   have hk : k = t.length := by
    rcases Nat.lt_or_ge k t.length with h3 | h3
    ·rw [app_np h3] at k2
     rw [(resO_iff h).2 ⟨h3, k2⟩] at hn; cases hn
    ·simp at k1; omega
   subst hk
   rw [app_np_last f.p0 f.p1] at k2
   have hp0 := f.p0
   have := (addP_iff h (s := a ++ 47 :: b) (v := v) (u := t ++ [⟨if a = [] then 0 else res t a, b, v⟩])).2 ⟨(if a = [] then (0 : Int) else res t a).toNat, b, by rw [Int.toNat_of_nonneg hp0], by rw [Int.toNat_of_nonneg hp0]; exact f, k2.symm⟩
   rw [this] at e; cases e
end
section
open Go
set_option linter.unusedVariables false
theorem clone_nod {t : List Nod} (h : t.length ≤ 1000000000000) : slices_Clone_Node t = some t := by
 unfold slices_Clone_Node
 rw [guardO_pos (by omega)]
theorem implAdd_ex {t : List Nod} (h : VT t) (x : Nod) : Ex (fun n => impl_AddNode n t x.parent x.name x.value) (· = addT t x) := by
 have hhi := h.hi
 unfold impl_AddNode
 refine Ex.be (implTree_ex t) ?_
 rw [validT_iff.2 h, addT_fits h]
 refine Ex.no rfl (Ex.bc (clone_nod (by omega)) (Ex.guard ⟨rfl, rfl, by simp; omega⟩ ?_))
 rw [show (([(⟨x.parent, x.name, x.value⟩ : Nod)].drop 0).take [(⟨x.parent, x.name, x.value⟩ : Nod)].length) = [x] from rfl]
 refine Ex.be (implTree_ex _) (Ex.ite (fun hb => Ex.ret ?_) (fun hb => Ex.ret ?_))
 ·rw [if_neg (by rw [notT hb]; simp)]
 ·rw [if_pos (notF hb)]
theorem lastIdx_some {a b : Str} (hb : (47 : UInt8) ∉ b) (hl : (a ++ 47 :: b).length ≤ 1000000000000) : Ex (fun n => strings_LastIndexByte n (a ++ 47 :: b) 47) (· = (a.length : Int)) := by
 have hlen : (a ++ 47 :: b).length = a.length + 1 + b.length := by simp; omega
 have hat : ∀ j, j < b.length → (a ++ 47 :: b).getD (a.length + 1 + j) 0 ≠ 47 := by
  intro j hj e
  rw [show a.length + 1 + j = a.length + (1 + j) by omega, getD_app, show 1 + j = j + 1 by omega, List.getD_cons_succ] at e
  exact hb (e ▸ getD_mem hj)
 have h0 : (a ++ 47 :: b).getD a.length 0 = 47 := by
  have := getD_app (a := a) (b := 47 :: b) (d := (0 : UInt8)) 0
  rw [Nat.add_zero] at this; rw [this]; rfl
 have key : ∀ m, m ≤ b.length → Ex (fun n => bytealg_LastIndexByteString_L1 (a ++ 47 :: b) 47 n ((a.length + m : Nat) : Int)) (· = .inl (a.length : Int)) := by
  intro m
  induction m with
  | zero =>
   intro _
   rw [Nat.add_zero]
   refine Ex.succ ?_
   simp only [bytealg_LastIndexByteString_L1, Int.toNat_natCast]
   exact Ex.yes (decide_eq_true (by omega)) (Ex.guard (by omega) (Ex.yes (decide_eq_true (by rw [h0]; rfl)) (Ex.ret rfl)))
  | succ m ih =>
   intro hm
   refine Ex.succ ?_
   simp only [bytealg_LastIndexByteString_L1, Int.toNat_natCast]
   have h1 := hat m (by omega)
   rw [show a.length + 1 + m = a.length + (m + 1) by omega] at h1
   refine Ex.yes (decide_eq_true (by omega)) (Ex.guard (by omega) (Ex.no (decide_eq_false (fun e => h1 ?_)) ?_))
   ·apply UInt8.toNat_inj.1
    rw [show (47 : UInt8).toNat = 47 from rfl]
    omega
   ·have e : w64 (((a.length + (m + 1) : Nat) : Int) - 1) = ((a.length + m : Nat) : Int) := by rw [w64_id (by omega) (by omega)]; omega
    rw [e]
    exact ih (by omega)
 unfold strings_LastIndexByte bytealg_LastIndexByteString
 have e : w64 (((a ++ 47 :: b).length : Int) - 1) = ((a.length + b.length : Nat) : Int) := by rw [w64_id (by omega) (by omega)]; omega
 rw [e]
 exact Ex.be (Ex.be (key b.length (Nat.le_refl _)) (Ex.ret rfl)) (Ex.ret rfl)
theorem lastIdx_none {s : Str} (h : (47 : UInt8) ∉ s) (hl : s.length ≤ 1000000000000) : Ex (fun n => strings_LastIndexByte n s 47) (· = -1) := by
 have key : ∀ m : Nat, m ≤ s.length → Ex (fun n => bytealg_LastIndexByteString_L1 s 47 n ((m : Int) - 1)) (· = .inr ()) := by
  intro m
  induction m with
  | zero => intro _; refine Ex.succ ?_; simp only [bytealg_LastIndexByteString_L1]; exact Ex.no (by decide) (Ex.ret rfl)
  | succ m ih =>
   intro hm
   rw [show ((m + 1 : Nat) : Int) - 1 = (m : Int) by omega]
   refine Ex.succ ?_
   simp only [bytealg_LastIndexByteString_L1, Int.toNat_natCast]
   have h1 : s.getD m 0 ≠ 47 := fun e => h (e ▸ getD_mem hm)
   refine Ex.yes (decide_eq_true (by omega)) (Ex.guard (by omega) (Ex.no (decide_eq_false (fun e => h1 ?_)) ?_))
   ·apply UInt8.toNat_inj.1
    rw [show (47 : UInt8).toNat = 47 from rfl]
    omega
   ·rw [w64_id (by omega) (by omega)]
    exact ih (by omega)
 unfold strings_LastIndexByte bytealg_LastIndexByteString
 rw [w64_id (by omega) (by omega)]
 exact Ex.be (Ex.be (key s.length (Nat.le_refl _)) (Ex.ret rfl)) (Ex.ret rfl)
/-- the further node has the path -/
theorem last_path {t : List Nod} {x : Nod} (h : VT t) (h' : VT (t ++ [x])) {s : Str} (hn : resO t s = none) : 0 ≤ res (t ++ [x]) s ↔ pathT (t ++ [x]) (t.length : Int) = s := by
 have f := (fits_iff h).1 h'
 rw [pathT_of h' (by simp)]
 rw [res]
 cases e : resO (t ++ [x]) s with
 | none =>
  simp only [oi]
  constructor
  ·intro h1; omega
  ·intro e2; exact absurd e2 ((resO_none h').1 e t.length (by simp))
 | some k =>
  obtain ⟨k1, k2⟩ := (resO_iff h').1 e
  have hk : k = t.length := by
   rcases Nat.lt_or_ge k t.length with h3 | h3
   ·rw [app_np h3] at k2
    rw [(resO_iff h).2 ⟨h3, k2⟩] at hn; cases hn
   ·simp at k1; omega
  subst hk
  simp only [oi]
  exact ⟨fun _ => k2, fun _ => by omega⟩
theorem implAddPath_ex {t : List Nod} (h : VT t) {s : Str} (hs : s.length ≤ 1000000000000) (hn : resO t s = none) (v : Int) : Ex (fun n => impl_addPath n t s v) (· = pairO (addP t s v)) := by
 have hhi := h.hi
 unfold impl_addPath
 have fin : ∀ (x : Nod), Ex (fun n => bindO (impl_AddNode n t x.parent x.name x.value) fun (x31, i32, b33) => bindO (iteO (!b33) (some true) (bindO (impl_PathText n x31 i32) fun s41 => some (!decide (s41 = s)))) fun b38 => iteO b38 (some (([] : List Nod), false)) (some (x31, true))) (· = pairO (if validT (t ++ [x]) = true ∧ 0 ≤ res (t ++ [x]) s then some (t ++ [x]) else none)) := by
  intro x
  refine Ex.be (implAdd_ex h x) ?_
  rw [addT_fits h]
  by_cases hv : validT (t ++ [x]) = true
  ·rw [if_pos hv]
   have h' := validT_iff.1 hv
   refine Ex.be (a := !decide (pathT (t ++ [x]) (t.length : Int) = s)) (Ex.no rfl (Ex.be (implPathText_ex (by have := h'.hi; omega) _) (Ex.ret rfl))) ?_
   refine Ex.ite (fun hb => Ex.ret ?_) (fun hb => Ex.ret ?_)
   ·rw [if_neg (fun h2 => by have := (last_path h h' hn).1 h2.2; rw [decide_eq_true this] at hb; cases hb)]; rfl
   ·rw [if_pos ⟨hv, (last_path h h' hn).2 (by simpa using hb)⟩]; rfl
  ·rw [if_neg hv, if_neg (fun h => hv h.1)]
   exact Ex.be (a := true) (Ex.yes rfl (Ex.ret rfl)) (Ex.yes rfl (Ex.ret rfl))
 rcases last_at 47 s with h1 | ⟨a, b, rfl, h2⟩
 ·have e1 : addP t s v = none := by rw [addP, pth_nohead h1]
  rw [e1]
  have hu : Ex (fun n => impl_upperNode n t s) (· = -1) := by
   unfold impl_upperNode
   exact Ex.be (lastIdx_none h1 hs) (Ex.yes (by decide) (Ex.ret rfl))
  refine Ex.be hu (Ex.be (lastIdx_none h1 hs) ?_)
  have e2 : w64 (-1 + 1) = 0 := by decide
  rw [e2]
  refine Ex.guard (by omega) ?_
  refine Ex.mono (fin ⟨-1, s.drop (0 : Int).toNat, v⟩) (fun r hr => ?_)
  rw [hr, if_neg]
  rintro ⟨h3, _⟩
  have := ((fits_iff h).1 (validT_iff.1 h3)).p0
  simp at this
 ·have hu : Ex (fun n => impl_upperNode n t (a ++ 47 :: b)) (· = if a = [] then 0 else res t a) := by
   unfold impl_upperNode
   refine Ex.be (lastIdx_some h2 hs) (Ex.no (decide_eq_false (by omega)) ?_)
   by_cases ha : a = []
   ·rw [if_pos ha]; exact Ex.yes (by rw [ha]; rfl) (Ex.ret rfl)
   ·rw [if_neg ha]
    have : 0 < a.length := List.length_pos_iff.2 ha
    simp only [List.length_append, List.length_cons] at hs
    refine Ex.no (decide_eq_false (by omega)) (Ex.guard (by simp; omega) ?_)
    rw [Int.toNat_natCast, List.take_left' rfl]
    have e := implRes_ex (t := t) (s := a) (by omega)
    rw [if_pos (validT_iff.2 h)] at e
    exact Ex.be e (Ex.ret rfl)
  refine Ex.be hu (Ex.be (lastIdx_some h2 hs) ?_)
  have hlen : (a ++ 47 :: b).length = a.length + 1 + b.length := by simp; omega
  rw [w64_succ (by omega)]
  refine Ex.guard (by omega) ?_
  have ed : (a ++ 47 :: b).drop ((a.length + 1 : Nat) : Int).toNat = b := by
   rw [Int.toNat_natCast]
   have e : a ++ 47 :: b = (a ++ [47]) ++ b := by simp
   rw [e]; exact List.drop_left' (by simp)
  rw [ed, addP_up h h2 hn]
  exact fin ⟨if a = [] then 0 else res t a, b, v⟩
end
section
open Go
set_option linter.unusedVariables false
theorem VT_pre {t : List Nod} {x : Nod} (h : VT (t ++ [x])) (hl : 1 ≤ t.length) : VT t := by
 have hlen : (t ++ [x]).length = t.length + 1 := by simp
 have hhi := h.hi
 refine ⟨hl, by omega, fun i hi => ?_, ?_, ?_, fun i h0 hi => ?_, fun i h0 hi => ?_, fun i j h0 hij hj => ?_, fun i hi => ?_⟩
 ·have := h.val i (by omega); rwa [va, app_at hi] at this
 ·have := h.rp; rwa [pa, app_at hl] at this
 ·have := h.rn; rwa [nmo, app_at hl] at this
 ·have := h.par i h0 (by omega); rwa [pa, app_at hi] at this
 ·have := h.nam i h0 (by omega); rwa [nmo, app_at hi] at this
 ·have := h.sib i j h0 hij (by omega)
  rwa [pa, pa, nmo, nmo, app_at hj, app_at (show i < t.length by omega)] at this
 ·have := h.dep i (by omega)
  rwa [← np_len, app_np hi, np_len] at this
end
section
open Go
set_option linter.unusedVariables false
theorem take_snoc {t : List Nod} {k : Nat} (hk : k < t.length) : t.take (k + 1) = t.take k ++ [t.getD k dnod] := by
 have : t[k]? = some (t.getD k dnod) := by rw [List.getD_eq_getElem?_getD, List.getElem?_eq_getElem hk]; rfl
 rw [List.take_add_one, this]; rfl
theorem VT_take {t : List Nod} (h : VT t) : ∀ m k, k + m = t.length → 1 ≤ k → VT (t.take k)
 | 0, k, hk, _ => by rw [List.take_of_length_le (by omega)]; exact h
 | m + 1, k, hk, h1 => by
  have := VT_take h m (k + 1) (by omega) (by omega)
  rw [take_snoc (by omega)] at this
  exact VT_pre this (by simp; omega)
theorem np_take {t : List Nod} {k i : Nat} (hk : k ≤ t.length) (hi : i < k) : np (t.take k) i = np t i := by
 have hg : ∀ j, j < k → (t.take k).getD j dnod = t.getD j dnod := fun j hj => by
  rw [List.getD_eq_getElem?_getD, List.getD_eq_getElem?_getD, List.getElem?_take, if_pos hj]
 exact np_congr (n := k) (fun j hj => by rw [pa, pa, hg j hj]) (fun j hj => by rw [nmo, nmo, hg j hj]) i hi
theorem take_new {t : List Nod} (h : VT t) {k : Nat} (h0 : 0 < k) (hk : k < t.length) : resO (t.take k) (ptx (np t k)) = none := by
 have hv := VT_take h (t.length - k) k (by omega) h0
 refine (resO_none hv).2 fun i hi e => ?_
 simp only [List.length_take] at hi
 have hi : i < k := by omega
 rw [np_take (by omega) hi] at e
 have := np_inj h i (by omega) k hk (ptx_inj (np_names h i (by omega)) (np_names h k hk) e)
 omega
theorem np_upT {t : List Nod} (h : VT t) {k : Nat} (h0 : 0 < k) (hk : k < t.length) : np t k = np t (pa t k).toNat ++ [nmo t k] := by
 have hp := h.par k h0 hk
 have e : np (t.take (k + 1)) k = np t k := np_take (by omega) (by omega)
 have hl : (t.take k).length = k := by simp; omega
 have := app_np_last (t := t.take k) (x := t.getD k dnod) hp.1 (by rw [hl]; exact hp.2)
 rw [hl, ← take_snoc hk, e] at this
 rw [this, show (t.getD k dnod).parent.toNat = (pa t k).toNat from rfl, np_take (by omega) hp.2]; rfl
theorem take_add {t : List Nod} (h : VT t) {k : Nat} (h0 : 0 < k) (hk : k < t.length) : addP (t.take k) (ptx (np t k)) (va t k) = some (t.take (k + 1)) := by
 have hv := VT_take h (t.length - k) k (by omega) h0
 have hv' := VT_take h (t.length - (k + 1)) (k + 1) (by omega) (by omega)
 have hp := h.par k h0 hk
 have ex : t.getD k dnod = ⟨((pa t k).toNat : Int), nmo t k, va t k⟩ := by
  have : ((pa t k).toNat : Int) = pa t k := by omega
  rw [this]; rfl
 rw [take_snoc hk, ex] at hv' ⊢
 refine (addP_iff hv).2 ⟨(pa t k).toNat, nmo t k, rfl, (fits_iff hv).1 hv', ?_⟩
 rw [np_take (by omega) hp.2, np_upT h h0 hk]
theorem implAdd_any {t : List Nod} (hl : t.length ≤ 1000000000000) (x : Nod) :
  Ex (fun n => impl_AddNode n t x.parent x.name x.value) (· = if validT t = true ∧ validT (t ++ [x]) = true then (t ++ [x], (t.length : Int), true) else ([], -1, false)) := by
 unfold impl_AddNode
 refine Ex.be (implTree_ex t) ?_
 cases hv : validT t with
 | false => exact Ex.yes rfl (Ex.ret (by simp))
 | true =>
  refine Ex.no rfl (Ex.bc (clone_nod hl) (Ex.guard ⟨rfl, rfl, by simp; omega⟩ ?_))
  rw [show (([(⟨x.parent, x.name, x.value⟩ : Nod)].drop 0).take [(⟨x.parent, x.name, x.value⟩ : Nod)].length) = [x] from rfl]
  refine Ex.be (implTree_ex _) (Ex.ite (fun hb => Ex.ret ?_) (fun hb => Ex.ret ?_))
  ·rw [if_neg (by rw [notT hb]; simp)]
  ·rw [if_pos ⟨rfl, notF hb⟩]
theorem lastIdx_any {s : Str} (hs : s.length ≤ 1000000000000) : Ex (fun n => strings_LastIndexByte n s 47) (fun r => -1 ≤ r ∧ r < s.length) := by
 rcases last_at 47 s with h1 | ⟨a, b, rfl, h2⟩
 ·exact Ex.mono (lastIdx_none h1 hs) (fun r hr => by subst hr; omega)
 ·exact Ex.mono (lastIdx_some h2 hs) (fun r hr => by subst hr; simp; omega)
theorem upper_any {t : List Nod} {s : Str} (hs : s.length ≤ 1000000000000) : Ex (fun n => impl_upperNode n t s) (fun _ => True) := by
 unfold impl_upperNode
 refine Ex.bind (lastIdx_any hs) (fun r hr => Ex.ite (fun _ => Ex.ret trivial) (fun h1 => Ex.ite (fun _ => Ex.ret trivial) (fun h2 => ?_)))
 have := of_decide_eq_false h1
 exact Ex.guard (by omega) (Ex.bind (implRes_ex (by simp; omega)) (fun _ _ => Ex.ret trivial))
theorem implAddPath_all {t : List Nod} (hl : t.length ≤ 1000000000000) {s : Str} (hs : s.length ≤ 1000000000000) (v : Int) :
  Ex (fun n => impl_addPath n t s v) (· = pairO (if validT t = true ∧ resO t s = none then addP t s v else none)) := by
 by_cases hc : validT t = true ∧ resO t s = none
 ·rw [if_pos hc]
  exact implAddPath_ex (validT_iff.1 hc.1) hs hc.2 v
 ·rw [if_neg hc]
  unfold impl_addPath
  refine Ex.bind (upper_any hs) (fun p _ => Ex.bind (lastIdx_any hs) (fun k hk => ?_))
  rw [w64_id (n := k + 1) (by omega) (by omega)]
  refine Ex.guard (by omega) (Ex.be (implAdd_any hl ⟨p, s.drop (k + 1).toNat, v⟩) ?_)
  generalize (⟨p, s.drop (k + 1).toNat, v⟩ : Nod) = x
  by_cases hv : validT t = true ∧ validT (t ++ [x]) = true
  ·rw [if_pos hv]
   have h := validT_iff.1 hv.1
   have h' := validT_iff.1 hv.2
   have hne : pathT (t ++ [x]) (t.length : Int) ≠ s := by
    rw [pathT_of h' (by simp)]
    intro e
    cases hr : resO t s with
    | none => exact hc ⟨hv.1, hr⟩
    | some j =>
     obtain ⟨j1, j2⟩ := (resO_iff h).1 hr
     rw [← j2, ← app_np (x := x) j1] at e
     have := np_inj h' _ (by simp) j (by simp; omega) (ptx_inj (np_names h' _ (by simp)) (np_names h' j (by simp; omega)) e)
     omega
   refine Ex.be (a := true) (Ex.no rfl (Ex.be (implPathText_ex (by have := h'.hi; omega) _) (Ex.ret ?_))) (Ex.yes rfl (Ex.ret rfl))
   rw [decide_eq_false hne]; rfl
  ·rw [if_neg hv]
   exact Ex.be (a := true) (Ex.yes rfl (Ex.ret rfl)) (Ex.yes rfl (Ex.ret rfl))
theorem splitK_ok (sep : Str) : ∀ (m : Nat) (s : Str), (Lib.splitK sep 0 m s).length ≤ m + 1 ∧ ∀ p ∈ Lib.splitK sep 0 m s, p.length ≤ s.length
 | 0, s => by simp [Lib.splitK]
 | m + 1, s => by
  rw [Lib.splitK]
  split
  ·simp
  ·have ih := splitK_ok sep m (s.drop ((Lib.index s sep).toNat + sep.length))
   refine ⟨by simp only [List.length_cons]; omega, fun p hp => ?_⟩
   rcases List.mem_cons.1 hp with rfl | h
   ·simp; omega
   ·have := ih.2 p h
    simp at this ⊢
    omega
theorem splitN_ex {s : Str} (hs : s.length ≤ 1000000000) : strings_SplitN s [59, 32] 13 = some (Lib.splitN s [59, 32] 13) := by
 unfold strings_SplitN
 rw [guardO_pos ⟨by omega, by decide, by decide, by decide⟩]; rfl
theorem atoi_some {s : Str} (hs : s.length ≤ 1000000000) : ∃ r, strconv_Atoi s = some r := by
 unfold strconv_Atoi
 rw [guardO_pos (by omega)]
 rcases Lib.atoiAll s with v | _ | _ <;> exact ⟨_, rfl⟩
theorem atoi_at {v : Int} (h0 : -1000 ≤ v) (h1 : v ≤ 1000) : strconv_Atoi (Lib.itoa v) = some (v, false) := by
 unfold strconv_Atoi
 have := itoa_len h0 h1
 rw [guardO_pos (by omega), atoi_itoa (by omega) (by omega)]
theorem cut_any {c : UInt8} {s : Str} (hs : s.length ≤ 1000000000) : ∃ a b ok, strings_Cut s [c] = some (a, b, ok) ∧ a.length ≤ s.length ∧ b.length ≤ s.length := by
 rcases cut_at c s with h | ⟨a, b, rfl, h⟩
 ·exact ⟨_, _, _, cut_none h, Nat.le_refl _, by simp⟩
 ·exact ⟨_, _, _, cut_some h (by omega), by simp, by simp; omega⟩
/-- what a text of a tree is read as -/
noncomputable def pT (s : Str) : List Nod × Bool := open Classical in if h : ∃ t, VT t ∧ fmtT t = s then (h.choose, true) else ([], false)
theorem implParse_yes {t : List Nod} (h : VT t) : Ex (fun n => impl_ParseTree n (fmtT t)) (· = (t, true)) := by
 have hlo := h.lo
 have hhi := h.hi
 have hfl : (fmtT t).length ≤ 400 := by have := sep_len h (Nat.le_refl _); rw [fmtT]; omega
 unfold impl_ParseTree
 refine Ex.bc (splitN_ex (by omega)) ?_
 rw [splitN_fmt h]
 have hxl : ((List.range t.length).map (pcs t)).length = t.length := by simp
 have hx : ∀ k, k < t.length → ((List.range t.length).map (pcs t)).getD k [] = pcs t k := fun k hk => by
  rw [List.getD_eq_getElem?_getD, List.getElem?_map, List.getElem?_range hk]; rfl
 generalize (List.range t.length).map (pcs t) = xs at hxl hx
 refine Ex.be (a := .inr t) ?_ ?_
 ·refine up xs.length (fun k (x : List Nod) => x = t.take k) (f := fun n x i => impl_ParseTree_L1 (fmtT t) xs n x i) ?_ ?_ 0 [] (Nat.zero_le _) rfl
  ·rintro k _ hk rfl next
   have hk' : k < t.length := by omega
   simp only [impl_ParseTree_L1, Int.toNat_natCast]
   refine Ex.yes (decide_eq_true (by omega)) (Ex.guard (by omega) ?_)
   rw [hx k hk', pcs]
   have hpl := ptx_len h hk'
   have hv := h.val k hk'
   have hil := itoa_len hv.1 hv.2
   have hsp : (32 : UInt8) ∉ ptx (np t k) := ptx_no (np_names h k hk') (.inl (by decide)) (by decide)
   refine Ex.bc (cut_some hsp (by simp; omega)) (Ex.bc (atoi_at hv.1 hv.2) (Ex.no rfl (Ex.be (a := .inl (t.take (k + 1))) ?_ ?_)))
   ·refine Ex.ite (fun hb => Ex.ret ?_) (fun hb => ?_)
    ·have h0 : k = 0 := by have := of_decide_eq_true hb; omega
     subst h0
     have h1 := h.rp
     have h2 := h.rn
     rw [take_snoc hk', List.take_zero, List.nil_append]
     have : t.getD 0 dnod = ⟨pa t 0, nmo t 0, va t 0⟩ := rfl
     rw [this, h1, h2]
    ·have h0 : 0 < k := by have := of_decide_eq_false hb; omega
     refine Ex.be (implAddPath_all (by simp; omega) (by show (ptx (np t k)).length ≤ _; omega) _) ?_
     rw [if_pos ⟨validT_iff.2 (VT_take h (t.length - k) k (by omega) h0), take_new h h0 hk'⟩, take_add h h0 hk']
     exact Ex.no rfl (Ex.ret rfl)
   ·rw [w64_succ (by omega)]
    exact next _ rfl
  ·rintro _ rfl
   simp only [impl_ParseTree_L1]
   exact Ex.no (decide_eq_false (by omega)) (Ex.ret (by rw [List.take_of_length_le (by omega)]))
 ·refine Ex.be (implTree_ex t) ?_
  rw [validT_iff.2 h]
  refine Ex.be (a := false) (Ex.no rfl (Ex.be (implFormat_ex t) (Ex.ret ?_))) (Ex.no rfl (Ex.ret rfl))
  rw [fmtR, if_pos (validT_iff.2 h)]
  simp
theorem implParse_no {s : Str} (hs : s.length ≤ 1000000000) (hn : ∀ t, VT t → fmtT t ≠ s) : Ex (fun n => impl_ParseTree n s) (· = ([], false)) := by
 unfold impl_ParseTree
 refine Ex.bc (splitN_ex hs) ?_
 have hok := splitK_ok [59, 32] (min 13 (s.length + 1) - 1) s
 rw [show Lib.splitK [59, 32] 0 (min 13 (s.length + 1) - 1) s = Lib.splitN s [59, 32] 13 from rfl] at hok
 generalize Lib.splitN s [59, 32] 13 = xs at hok
 refine Ex.bind (P := fun _ => True) ?_ ?_
 ·refine up xs.length (fun k (x : List Nod) => x.length ≤ k) (f := fun n x i => impl_ParseTree_L1 s xs n x i) ?_ ?_ 0 [] (Nat.zero_le _) (by simp)
  ·rintro k x hk hxl next
   simp only [impl_ParseTree_L1, Int.toNat_natCast]
   refine Ex.yes (decide_eq_true (by omega)) (Ex.guard (by omega) ?_)
   have hp := hok.2 _ (getD_mem (d := []) hk)
   obtain ⟨a, b, ok, e1, ha, hb⟩ := cut_any (c := 32) (s := xs.getD k []) (by omega)
   obtain ⟨⟨v, er⟩, e2⟩ := atoi_some (s := b) (by omega)
   refine Ex.bc e1 (Ex.bc e2 (Ex.ite (fun _ => Ex.ret trivial) (fun _ => ?_)))
   refine Ex.bind (P := fun r => match r with | .inl y => y.length ≤ k + 1 | .inr _ => True) ?_ ?_
   ·refine Ex.ite (fun hb => Ex.ret (by simp)) (fun hb => ?_)
    refine Ex.be (implAddPath_all (by omega) (by show a.length ≤ _; omega) v) ?_
    have hr : (pairO (if validT x = true ∧ resO x a = none then addP x a v else none)).1.length ≤ k + 1 := by
     split
     ·rename_i hc
      cases e : addP x a v with
      | none => simp [pairO]
      | some u =>
       obtain ⟨p, n, rfl, _, _⟩ := (addP_iff (validT_iff.1 hc.1)).1 e
       simp [pairO]; omega
     ·simp [pairO]
    generalize pairO (if validT x = true ∧ resO x a = none then addP x a v else none) = r at hr
    obtain ⟨y, q⟩ := r
    exact Ex.ite (fun _ => Ex.ret trivial) (fun _ => Ex.ret hr)
   ·rintro (y | u) hy
    ·rw [w64_succ (by omega)]
     exact next y hy
    ·exact Ex.ret trivial
  ·intro x hx
   simp only [impl_ParseTree_L1]
   exact Ex.no (decide_eq_false (by omega)) (Ex.ret trivial)
 ·rintro (u | x) _
  ·exact Ex.ret rfl
  ·refine Ex.be (implTree_ex x) ?_
   refine Ex.be (a := true) ?_ (Ex.yes rfl (Ex.ret rfl))
   refine Ex.ite (fun _ => Ex.ret rfl) (fun hb => Ex.be (implFormat_ex x) (Ex.ret ?_))
   have hv : validT x = true := notF hb
   rw [fmtR, if_pos hv, decide_eq_false (hn x (validT_iff.1 hv))]; rfl
theorem implParse_ex {s : Str} (hs : s.length ≤ 1000000000) : Ex (fun n => impl_ParseTree n s) (· = pT s) := by
 unfold pT
 split
 ·rename_i h
  have := implParse_yes h.choose_spec.1
  rw [h.choose_spec.2] at this
  exact this
 ·rename_i h
  exact implParse_no hs (fun t ht e => h ⟨t, ht, e⟩)
theorem pT_some {s : Str} (e : (pT s).2 = true) : VT (pT s).1 ∧ fmtT (pT s).1 = s := by
 unfold pT at e ⊢
 split
 ·rename_i h; exact h.choose_spec
 ·rename_i h; rw [dif_neg h] at e; cases e
theorem pT_none {s : Str} (e : (pT s).2 = false) : pT s = ([], false) ∧ ∀ t, VT t → fmtT t ≠ s := by
 unfold pT at e ⊢
 split
 ·rename_i h; rw [dif_pos h] at e; cases e
 ·rename_i h; exact ⟨rfl, fun t ht e2 => h ⟨t, ht, e2⟩⟩
end
section
open Go
set_option linter.unusedVariables false
/-- the loop that looks for the last slash -/
theorem specCut_some {a b : Str} (hb : (47 : UInt8) ∉ b) (hl : (a ++ 47 :: b).length ≤ 1000000000000) : Ex (fun n => spec_cut n (a ++ 47 :: b)) (· = (if a = [] then [47] else a, b)) := by
 have hlen : (a ++ 47 :: b).length = a.length + 1 + b.length := by simp; omega
 have hat : ∀ j, j < b.length → (a ++ 47 :: b).getD (a.length + 1 + j) 0 ≠ 47 := by
  intro j hj e
  rw [show a.length + 1 + j = a.length + (1 + j) by omega, getD_app, show 1 + j = j + 1 by omega, List.getD_cons_succ] at e
  exact hb (e ▸ getD_mem hj)
 have h0 : (a ++ 47 :: b).getD a.length 0 = 47 := by
  have := getD_app (a := a) (b := 47 :: b) (d := (0 : UInt8)) 0
  rw [Nat.add_zero] at this; rw [this]; rfl
 have key : ∀ m, m ≤ b.length → Ex (fun n => spec_cut_L1 (a ++ 47 :: b) n ((a.length + m : Nat) : Int)) (· = if a = [] then .inr () else .inl (a, b)) := by
  intro m
  induction m with
  | zero =>
   intro _
   rw [Nat.add_zero]
   refine Ex.succ ?_
   simp only [spec_cut_L1, Int.toNat_natCast]
   cases ha : a with
   | nil => exact Ex.no (by simp) (Ex.ret rfl)
   | cons x y =>
    rw [← ha]
    have hpos : 0 < a.length := by rw [ha]; simp
    rw [w64_succ (by omega), if_neg (by rw [ha]; simp)]
    refine Ex.yes (decide_eq_true (by omega)) (Ex.guard (by omega) (Ex.yes (decide_eq_true (by rw [h0]; rfl)) (Ex.guard (by omega) (Ex.guard (by omega) (Ex.ret ?_)))))
    rw [Int.toNat_natCast]
    congr 2
    ·simp
    ·have e : a ++ 47 :: b = (a ++ [47]) ++ b := by simp
     rw [e]; exact List.drop_left' (by simp)
  | succ m ih =>
   intro hm
   refine Ex.succ ?_
   simp only [spec_cut_L1, Int.toNat_natCast]
   have h1 := hat m (by omega)
   rw [show a.length + 1 + m = a.length + (m + 1) by omega] at h1
   refine Ex.yes (decide_eq_true (by omega)) (Ex.guard (by omega) (Ex.no (decide_eq_false (fun e => h1 ?_)) ?_))
   ·apply UInt8.toNat_inj.1
    rw [show (47 : UInt8).toNat = 47 from rfl]
    omega
   ·have e : w64 (((a.length + (m + 1) : Nat) : Int) - 1) = ((a.length + m : Nat) : Int) := by rw [w64_id (by omega) (by omega)]; omega
    rw [e]
    exact ih (by omega)
 unfold spec_cut
 have e : w64 (((a ++ 47 :: b).length : Int) - 1) = ((a.length + b.length : Nat) : Int) := by rw [w64_id (by omega) (by omega)]; omega
 rw [e]
 refine Ex.be (key b.length (Nat.le_refl _)) ?_
 cases ha : a with
 | nil =>
  rw [if_pos rfl, if_pos rfl]
  exact Ex.no (by simp; omega) (Ex.guard (by simp; omega) (Ex.ret rfl))
 | cons x y => rw [if_neg (by simp), if_neg (by simp)]; exact Ex.ret rfl
theorem specCut_none {s : Str} (h : (47 : UInt8) ∉ s) (hl : s.length ≤ 1000000000000) : Ex (fun n => spec_cut n s) (fun r => r.1.length ≤ 1000000000000 ∧ r.2.length ≤ 1000000000000) := by
 have key : ∀ m : Nat, m < s.length → Ex (fun n => spec_cut_L1 s n (m : Int)) (· = .inr ()) := by
  intro m
  induction m with
  | zero => intro _; refine Ex.succ ?_; simp only [spec_cut_L1]; exact Ex.no (by decide) (Ex.ret rfl)
  | succ m ih =>
   intro hm
   refine Ex.succ ?_
   simp only [spec_cut_L1, Int.toNat_natCast]
   have h1 : s.getD (m + 1) 0 ≠ 47 := fun e => h (e ▸ getD_mem hm)
   refine Ex.yes (decide_eq_true (by omega)) (Ex.guard (by omega) (Ex.no (decide_eq_false (fun e => h1 ?_)) ?_))
   ·apply UInt8.toNat_inj.1
    rw [show (47 : UInt8).toNat = 47 from rfl]
    omega
   ·have e : w64 (((m + 1 : Nat) : Int) - 1) = (m : Int) := by rw [w64_id (by omega) (by omega)]; omega
    rw [e]
    exact ih (by omega)
 unfold spec_cut
 cases s with
 | nil =>
  refine Ex.be (a := .inr ()) ?_ ?_
  ·refine Ex.succ ?_
   simp only [spec_cut_L1]
   exact Ex.no (by decide) (Ex.ret rfl)
  ·refine Ex.yes rfl (Ex.ret ⟨?_, ?_⟩)
   ·simp
   ·simp
 | cons x y =>
  simp only [List.length_cons] at hl
  have e : w64 (((x :: y : Str).length : Int) - 1) = ((y.length : Nat) : Int) := by rw [w64_id (by simp <;> omega) (by simp; omega)]; simp
  rw [e]
  exact Ex.be (key y.length (by simp)) (Ex.no (by simp; omega) (Ex.guard (by simp; omega) (Ex.ret ⟨by simp, by simp; omega⟩)))
end
section
open Go
set_option linter.unusedVariables false
theorem specSplit_ex {s : Str} (hs : s.length ≤ 1000000000) (c : UInt8) {ci : Int} (hc : ci = (c.toNat : Int)) : Ex (fun n => spec_splitAt n s ci) (· = spl c s) := by
 subst hc
 unfold spec_splitAt
 refine Ex.bind (P := fun r => ∃ f : Nat, r.2 = (f : Int) ∧ f ≤ s.length ∧ r.1.length ≤ s.length ∧ r.1 ++ [s.drop f] = spl c s) ?_ ?_
 ·refine up s.length (fun k (r : List Str × Int) => ∃ f : Nat, r.2 = (f : Int) ∧ f ≤ k ∧ r.1.length ≤ k ∧ c ∉ (s.take k).drop f ∧ r.1 ++ spl c (s.drop f) = spl c s) (f := fun n r i => spec_splitAt_L1 s (c.toNat : Int) n r.1 r.2 i) ?_ ?_ 0 ([], 0) (Nat.zero_le _) ⟨0, rfl, Nat.le_refl _, by simp, by simp, rfl⟩
  ·rintro k ⟨x, _⟩ hk ⟨f, rfl, hf, hxl, hno, he⟩ next
   simp only at hxl he
   simp only [spec_splitAt_L1, Int.toNat_natCast]
   refine Ex.yes (decide_eq_true (by omega)) (Ex.guard (by omega) ?_)
   have hst : s.drop f = (s.take k).drop f ++ s.getD k 0 :: s.drop (k + 1) := by
    have h1 : s = s.take k ++ s.getD k 0 :: s.drop (k + 1) := by
     have := List.take_append_drop k s
     rw [drop_at 0 hk] at this
     exact this.symm
    have h2 : f ≤ (s.take k).length := by simp; omega
    calc s.drop f = (s.take k ++ s.getD k 0 :: s.drop (k + 1)).drop f := by rw [← h1]
     _ = _ := List.drop_append_of_le_length h2
   have htk : (s.take (k + 1)).drop f = (s.take k).drop f ++ [s.getD k 0] := by
    have h1 : s[k]? = some (s.getD k 0) := by rw [List.getD_eq_getElem?_getD, List.getElem?_eq_getElem hk]; rfl
    rw [List.take_add_one, h1, Option.toList, List.drop_append_of_le_length (by simp; omega)]
   by_cases hb : s.getD k 0 = c
   ·refine Ex.be (a := (x ++ [(s.take k).drop f], ((k + 1 : Nat) : Int))) (Ex.yes (decide_eq_true (by rw [hb])) (Ex.guard (by omega) (Ex.guard (by simp; omega) (Ex.ret ?_)))) ?_
    ·rw [w64_succ (by omega)]; rfl
    ·simp only
     rw [w64_succ (by omega)]
     refine next (_, _) ⟨k + 1, rfl, Nat.le_refl _, by simp; omega, by simp, ?_⟩
     rw [hst, hb, spl_at hno] at he
     rw [List.append_assoc]; exact he
   ·refine Ex.be (a := (x, (f : Int))) (Ex.no (decide_eq_false (fun e => hb (UInt8.toNat_inj.1 (by omega)))) (Ex.ret rfl)) ?_
    simp only
    rw [w64_succ (by omega)]
    refine next (_, _) ⟨f, rfl, by omega, by simp only; omega, ?_, he⟩
    rw [htk]
    simp only [List.mem_append, List.mem_singleton, not_or]
    exact ⟨hno, fun e => hb e.symm⟩
  ·rintro ⟨x, _⟩ ⟨f, rfl, hf, hxl, hno, he⟩
   simp only at hxl he
   simp only [spec_splitAt_L1]
   refine Ex.no (decide_eq_false (by omega)) (Ex.ret ⟨f, rfl, hf, hxl, ?_⟩)
   rw [List.take_length] at hno
   rw [spl_none hno] at he
   exact he
 ·rintro ⟨x, _⟩ ⟨f, rfl, hf, hxl, he⟩
  simp only at hxl he ⊢
  rw [Int.toNat_natCast]
  exact Ex.guard (by omega) (Ex.guard (by simp; omega) (Ex.ret (by rw [← he]; simp)))
/-- the number with a numeral of at most five bytes -/
def pI (s : Str) : Int × Bool := match Lib.atoiAll s with
 | .ok v => if Lib.itoa v = s ∧ s.length ≤ 5 then (v, true) else (0, false)
 | _ => (0, false)
theorem pI_some {s : Str} {v : Int} (h : pI s = (v, true)) : Lib.atoiAll s = .ok v ∧ Lib.itoa v = s ∧ s.length ≤ 5 := by
 unfold pI at h
 split at h
 ·rename_i u hu
  split at h
  ·rename_i h2
   cases h
   exact ⟨hu, h2⟩
  ·cases h
 ·cases h
theorem pI_none {s : Str} (h : ∀ v, Lib.itoa v = s → s.length ≤ 5 → False) : pI s = (0, false) := by
 unfold pI
 split
 ·rename_i u hu
  rw [if_neg (fun h2 => h u h2.1 h2.2)]
 ·rfl
theorem pI_itoa {v : Int} (h0 : -1000000 ≤ v) (h1 : v ≤ 1000000) (hl : (Lib.itoa v).length ≤ 5) : pI (Lib.itoa v) = (v, true) := by
 unfold pI
 rw [atoi_itoa h0 h1]
 show (if Lib.itoa v = Lib.itoa v ∧ (Lib.itoa v).length ≤ 5 then (v, true) else (0, false)) = _
 rw [if_pos ⟨rfl, hl⟩]
/-- the digits of a numeral -/
def dgs (s : Str) : Str := if s.head? = some 45 then s.drop 1 else s
theorem itoa_pos {v : Int} {k : Nat} (hk : k < (Lib.itoa v).length) : (48 ≤ ((Lib.itoa v).getD k 0).toNat ∧ ((Lib.itoa v).getD k 0).toNat ≤ 57) ∨ (k = 0 ∧ ((Lib.itoa v).getD k 0).toNat = 45) := by
 unfold Lib.itoa at hk ⊢
 split
 ·rename_i h
  rw [if_pos h] at hk
  cases k with
  | zero => exact .inr ⟨rfl, rfl⟩
  | succ k =>
   left
   have : k < (Lib.decDigits v.natAbs).length := by simpa using hk
   rw [List.getD_cons_succ]
   exact digits_ok _ _ (getD_mem this)
 ·rename_i h
  rw [if_neg h] at hk
  exact .inl (digits_ok _ _ (getD_mem hk))
theorem atoi_dgs {s : Str} {v u : Int} (h : Lib.atoiAll s = .ok v) (hu : Lib.parseUint10 0 (dgs s) = .ok u.toNat) (hu0 : 0 ≤ u) (h43 : s.head? ≠ some 43) : v = if s.head? = some 45 then -u else u := by
 cases s with
 | nil => cases h
 | cons c r =>
  by_cases hc : c = 45
  ·subst hc
   rw [Lib.atoiAll_minus] at h
   simp only [dgs, List.head?_cons, if_true, List.drop_succ_cons, List.drop_zero] at hu ⊢
   rw [Lib.parseMag] at h
   split at h
   ·cases h
   ·rw [hu] at h
    simp only [Lib.signed] at h
    split at h
    ·cases h
    ·injection h with h
     omega
  ·have hn : ¬ ((c :: r).head? = some 45) := by simpa using hc
   have h45 : c.toNat ≠ 45 := fun e => hc (UInt8.toNat_inj.1 e)
   have h43' : c.toNat ≠ 43 := fun e => h43 (by rw [List.head?_cons, UInt8.toNat_inj.1 (show c.toNat = (43 : UInt8).toNat from e)])
   rw [Lib.atoiAll_plain c r h43' h45] at h
   rw [dgs, if_neg hn] at hu
   rw [if_neg hn]
   rw [Lib.parseMag, if_neg (by simp), hu] at h
   simp only [Lib.signless] at h
   split at h
   ·cases h
   ·injection h with h
    omega
theorem pu_snoc {l : Str} {c : UInt8} {u : Nat} (h : Lib.parseUint10 0 l = .ok u) (hc : 48 ≤ c.toNat ∧ c.toNat ≤ 57) (hu : u ≤ 1000000000) : Lib.parseUint10 0 (l ++ [c]) = .ok (u * 10 + (c.toNat - 48)) := by
 rw [pu_app l [c] 0 u h]
 simp only [Lib.parseUint10]
 rw [if_pos hc, if_neg (by omega), if_neg (by omega)]
theorem specInt_ex (s : Str) : Ex (fun n => spec_parseInt n s) (· = pI s) := by
 unfold spec_parseInt
 by_cases h5 : 5 < s.length
 ·refine Ex.be (a := .inr 0) ?_ ?_
  ·refine Ex.succ ?_
   simp only [spec_parseInt_L1]
   exact Ex.no (by rw [decide_eq_false (p := ((s.length : Nat) : Int) ≤ 5) (by omega), Bool.and_false]) (Ex.ret rfl)
  ·have hp : pI s = (0, false) := pI_none (fun v _ h => by omega)
   have e0 : w64 (0 - 0) = 0 := by decide
   refine Ex.bind (P := fun _ => True) (Ex.ite (fun hb => Ex.guard (by omega) (Ex.ret trivial)) (fun _ => Ex.ret trivial)) (fun b _ => ?_)
   refine Ex.be (a := 0) (Ex.ite (fun _ => Ex.ret e0) (fun _ => Ex.ret rfl)) ?_
   refine Ex.be (a := true) (Ex.ite (fun _ => Ex.ret rfl) (fun _ => Ex.yes (decide_eq_true (by omega)) (Ex.ret rfl))) (Ex.yes rfl (Ex.ret hp.symm))
 ·refine Ex.bind (P := fun v => match v with | .inl _ => pI s = (0, false) | .inr r => 0 ≤ r ∧ r ≤ 99999 ∧ Lib.parseUint10 0 (dgs s) = .ok r.toNat ∧ s.head? ≠ some 43) ?_ ?_
  ·have hpow : ∀ k : Nat, k < 5 → (10 : Int) ^ (k + 1) ≤ 100000 ∧ (10 : Int) ^ (k + 1) = 10 * 10 ^ k := by
    intro k hk
    have : k = 0 ∨ k = 1 ∨ k = 2 ∨ k = 3 ∨ k = 4 := by omega
    rcases this with rfl | rfl | rfl | rfl | rfl <;> decide
   have hdg : ∀ k, k ≤ s.length → dgs (s.take k) = (if s.head? = some 45 then (s.take k).drop 1 else s.take k) := by
    intro k hk
    cases s with
    | nil => simp [dgs]
    | cons c r =>
     cases k with
     | zero => simp [dgs]
     | succ k => simp [dgs]
   refine up s.length (fun k (r : Int) => 0 ≤ r ∧ r < 10 ^ k ∧ Lib.parseUint10 0 (if s.head? = some 45 then (s.take k).drop 1 else s.take k) = .ok r.toNat ∧ (0 < k → s.head? ≠ some 43)) (f := fun n r i => spec_parseInt_L1 s n r i) ?_ ?_ 0 0 (Nat.zero_le _) ⟨by omega, by decide, by simp [Lib.parseUint10], fun h => by omega⟩
   ·rintro k r hk ⟨h0, h1, h2, h3⟩ next
    obtain ⟨hp1, hp2⟩ := hpow k (by omega)
    have hst : s.take (k + 1) = s.take k ++ [s.getD k 0] := by
     have h1 : s[k]? = some (s.getD k 0) := by rw [List.getD_eq_getElem?_getD, List.getElem?_eq_getElem hk]; rfl
     rw [List.take_add_one, h1]; rfl
    have hb256 : (s.getD k 0).toNat < 256 := (s.getD k 0).toNat_lt
    simp only [spec_parseInt_L1, Int.toNat_natCast]
    refine Ex.yes (by rw [decide_eq_true (by omega), decide_eq_true (by omega)]; rfl) (Ex.guard (by omega) ?_)
    rw [w64_id (n := ((s.getD k 0).toNat : Int)) (by omega) (by omega), w64_id (n := 10 * r) (by omega) (by omega), w64_id (n := 10 * r + ((s.getD k 0).toNat : Int)) (by omega) (by omega), w64_id (n := 10 * r + ((s.getD k 0).toNat : Int) - 48) (by omega) (by omega), w64_succ (by omega)]
    by_cases hd : 48 ≤ (s.getD k 0).toNat ∧ (s.getD k 0).toNat ≤ 57
    ·refine Ex.be (a := .inl (10 * r + ((s.getD k 0).toNat : Int) - 48)) (Ex.yes ?_ (Ex.guard (by omega) (Ex.ret rfl))) ?_
     ·unfold spec_inRange
      rw [decide_eq_true (by omega), decide_eq_true (by omega)]; rfl
     refine next _ ⟨by omega, by omega, ?_, fun _ => ?_⟩
     ·have e : (10 * r + ((s.getD k 0).toNat : Int) - 48).toNat = r.toNat * 10 + ((s.getD k 0).toNat - 48) := by omega
      rw [e]
      split
      ·rename_i h45
       rw [if_pos h45] at h2
       have hk0 : 0 < k := by
        rcases Nat.eq_zero_or_pos k with h | h
        ·subst h
         exfalso
         cases s with
         | nil => cases h45
         | cons c r' =>
          cases h45
          have : (((45 : UInt8) :: r').getD 0 0).toNat = 45 := rfl
          omega
        ·exact h
       rw [hst, List.drop_append_of_le_length (by simp; omega)]
       exact pu_snoc h2 hd (by omega)
      ·rename_i h45
       rw [if_neg h45] at h2
       rw [hst]
       exact pu_snoc h2 hd (by omega)
     ·rcases Nat.eq_zero_or_pos k with h | h
      ·subst h
       cases s with
       | nil => simp
       | cons c r' =>
        intro e
        cases e
        have : (((43 : UInt8) :: r').getD 0 0).toNat = 43 := rfl
        omega
      ·exact h3 h
    ·refine Ex.be (a := if k = 0 ∧ (s.getD k 0).toNat = 45 then .inl r else .inr ()) (Ex.no ?_ (Ex.be (a := !decide (k = 0 ∧ (s.getD k 0).toNat = 45)) ?_ ?_)) ?_
     ·unfold spec_inRange
      by_cases h48 : 48 ≤ (s.getD k 0).toNat
      ·rw [decide_eq_false (p := ((s.getD k 0).toNat : Int) ≤ 57) (by omega), Bool.and_false]
      ·rw [decide_eq_false (p := (48 : Int) ≤ ((s.getD k 0).toNat : Int)) (by omega), Bool.false_and]
     ·refine Ex.ite (fun hb => Ex.ret ?_) (fun hb => Ex.guard (by omega) (Ex.ret ?_))
      ·have := of_decide_eq_true hb
       rw [decide_eq_false (by omega)]; rfl
      ·have := of_decide_eq_false hb
       congr 1
       rw [decide_eq_decide]
       omega
     ·by_cases hz : k = 0 ∧ (s.getD k 0).toNat = 45
      ·rw [if_pos hz]
       exact Ex.no (by simp only [decide_eq_true hz]; rfl) (Ex.ret rfl)
      ·rw [if_neg hz]
       exact Ex.yes (by simp only [decide_eq_false hz]; rfl) (Ex.ret rfl)
     ·by_cases hz : k = 0 ∧ (s.getD k 0).toNat = 45
      ·rw [if_pos hz]
       obtain ⟨rfl, hz⟩ := hz
       have hh : s.head? = some 45 := by
        cases s with
        | nil => simp at hk
        | cons c r' =>
         have : c = 45 := UInt8.toNat_inj.1 hz
         rw [this]; rfl
       refine next _ ⟨h0, by omega, ?_, fun _ => by rw [hh]; simp⟩
       rw [if_pos hh] at h2 ⊢
       rw [hst]
       simpa using h2
      ·rw [if_neg hz]
       refine Ex.ret (pI_none fun v hv _ => ?_)
       subst hv
       rcases itoa_pos hk with h | h
       ·exact hd h
       ·exact hz h
   ·rintro r ⟨h0, h1, h2, h3⟩
    simp only [spec_parseInt_L1]
    refine Ex.no (by rw [decide_eq_false (by omega)]; rfl) (Ex.ret ⟨h0, ?_, ?_, ?_⟩)
    ·rcases Nat.eq_zero_or_pos s.length with h | h
     ·rw [h] at h1; omega
     ·obtain ⟨m, hm⟩ : ∃ m, s.length = m + 1 := ⟨s.length - 1, by omega⟩
      have := (hpow m (by omega)).1
      rw [hm] at h1; omega
    ·rw [List.take_length] at h2
     exact h2
    ·rcases Nat.eq_zero_or_pos s.length with h | h
     ·rw [List.eq_nil_of_length_eq_zero h]; simp
     ·exact h3 h
  ·rintro (u | r) hr
   ·exact Ex.ret hr.symm
   ·obtain ⟨h0, h1, h2, h3⟩ := hr
    refine Ex.be (a := decide (s.head? = some 45)) ?_ ?_
    ·refine Ex.ite (fun hb => Ex.guard (by have := of_decide_eq_true hb; omega) (Ex.ret ?_)) (fun hb => Ex.ret ?_)
     ·cases s with
      | nil => simp at hb
      | cons c r' =>
       rw [decide_eq_decide]
       constructor
       ·intro e
        have : c = 45 := UInt8.toNat_inj.1 (by have e : (((c :: r').getD 0 0).toNat : Int) = 45 := e; have e2 : (c.toNat : Int) = 45 := e; show c.toNat = 45; omega)
        rw [this]; rfl
       ·intro e
        cases e; rfl
     ·have hl := of_decide_eq_false hb
      have : s = [] := List.eq_nil_of_length_eq_zero (by omega)
      subst this; rfl
    ·refine Ex.be (a := if s.head? = some 45 then -r else r) ?_ ?_
     ·refine Ex.ite (fun hb => Ex.ret ?_) (fun hb => Ex.ret ?_)
      ·rw [if_pos (of_decide_eq_true hb), w64_id (by omega) (by omega)]; omega
      ·rw [if_neg (of_decide_eq_false hb)]
     ·have hb0 : -99999 ≤ (if s.head? = some 45 then -r else r) ∧ (if s.head? = some 45 then -r else r) ≤ 99999 := by split <;> omega
      have hv : ∀ v, pI s = (v, true) → v = (if s.head? = some 45 then -r else r) := fun v hv => atoi_dgs (pI_some hv).1 h2 h0 h3
      generalize (if s.head? = some 45 then -r else r) = m at hb0 hv
      refine Ex.be (a := !decide (s ≠ [] ∧ Lib.itoa m = s)) ?_ ?_
      ·refine Ex.ite (fun hb => Ex.ret ?_) (fun hb => ?_)
       ·have : s = [] := List.eq_nil_of_length_eq_zero (by have := of_decide_eq_true hb; omega)
        subst this; rfl
       ·have hne : s ≠ [] := fun e => of_decide_eq_false hb (by rw [e]; rfl)
        refine Ex.no (decide_eq_false (by omega)) (Ex.be (decimal_ex (by omega) (by omega)) (Ex.ret ?_))
        congr 1
        rw [decide_eq_decide]
        exact ⟨fun h => ⟨hne, h⟩, fun h => h.2⟩
      ·by_cases hc : s ≠ [] ∧ Lib.itoa m = s
       ·refine Ex.no (by rw [decide_eq_true hc]; rfl) (Ex.ret ?_)
        have := pI_itoa (v := m) (by omega) (by omega) (by rw [hc.2]; omega)
        rw [hc.2] at this
        exact this.symm
       ·refine Ex.yes (by rw [decide_eq_false hc]; rfl) (Ex.ret ?_)
        cases hp : pI s with
        | mk v q =>
         cases q with
         | true =>
          exfalso
          have h6 := pI_some hp
          have := hv v hp
          subst this
          exact hc ⟨fun e => itoa_ne v (by rw [h6.2.1, e]), h6.2.1⟩
         | false =>
          unfold pI at hp
          split at hp
          ·split at hp
           ·cases hp
           ·exact hp
          ·exact hp
end
section
open Go
set_option linter.unusedVariables false
theorem spl_lens (c : UInt8) : ∀ (s : Str), (spl c s).length ≤ s.length + 1 ∧ ∀ p ∈ spl c s, p.length ≤ s.length
 | [] => by simp [spl]
 | x :: s => by
  have ih := spl_lens c s
  rw [spl]
  split
  ·refine ⟨by simp; omega, fun p hp => ?_⟩
   rcases List.mem_cons.1 hp with rfl | h
   ·simp
   ·have := ih.2 p h; simp; omega
  ·split
   ·simp
   ·rename_i a r e
    rw [e] at ih
    refine ⟨by have := ih.1; simp at this ⊢; omega, fun p hp => ?_⟩
    rcases List.mem_cons.1 hp with rfl | h
    ·have := ih.2 a (by simp); simp; omega
    ·have := ih.2 p (by simp [h]); simp; omega
theorem spl_two {a b : Str} (ha : (32 : UInt8) ∉ a) (hb : (32 : UInt8) ∉ b) : spl 32 (a ++ 32 :: b) = [a, b] := by rw [spl_at ha, spl_none hb]
theorem specParse_yes {t : List Nod} (h : VT t) : Ex (fun n => spec_ParseTree n (fmtT t)) (· = (t, true)) := by
 have hlo := h.lo
 have hhi := h.hi
 have hfl : (fmtT t).length ≤ 400 := by have := sep_len h (Nat.le_refl _); rw [fmtT]; omega
 unfold spec_ParseTree
 refine Ex.be (specSplit_ex (by omega) 59 rfl) ?_
 rw [spl_fmt h]
 have hxl : ((List.range t.length).map fun i => if 0 < i then 32 :: pcs t i else pcs t i).length = t.length := by simp
 have hx : ∀ k, k < t.length → ((List.range t.length).map fun i => if 0 < i then 32 :: pcs t i else pcs t i).getD k [] = if 0 < k then 32 :: pcs t k else pcs t k := fun k hk => by
  rw [List.getD_eq_getElem?_getD, List.getElem?_map, List.getElem?_range hk]; rfl
 generalize ((List.range t.length).map fun i => if 0 < i then 32 :: pcs t i else pcs t i) = xs at hxl hx
 refine Ex.no (decide_eq_false (by omega)) ?_
 refine Ex.be (a := .inr t) ?_ ?_
 ·refine up xs.length (fun k (x : List Nod) => x = t.take k) (f := fun n x i => spec_ParseTree_L1 (fmtT t) xs n x i) ?_ ?_ 0 [] (Nat.zero_le _) rfl
  ·rintro k _ hk rfl next
   have hk' : k < t.length := by omega
   have hpl := ptx_len h hk'
   have hv := h.val k hk'
   have hil := itoa_len hv.1 hv.2
   have hsp : (32 : UInt8) ∉ ptx (np t k) := ptx_no (np_names h k hk') (.inl (by decide)) (by decide)
   have hi32 : (32 : UInt8) ∉ Lib.itoa (va t k) := itoa_no (by decide) (.inl (by decide))
   simp only [spec_ParseTree_L1, Int.toNat_natCast, hx k hk']
   refine Ex.yes (decide_eq_true (by omega)) (Ex.guard (by omega) (Ex.be (a := .inr (pcs t k)) ?_ ?_))
   ·refine Ex.ite (fun hb => ?_) (fun hb => Ex.ret ?_)
    ·have h0 : 0 < k := by have := of_decide_eq_true hb; omega
     rw [if_pos h0]
     refine Ex.be (a := false) (Ex.no (by simp; omega) (Ex.guard (by simp) (Ex.ret rfl))) (Ex.no rfl (Ex.guard (by simp; omega) (Ex.ret rfl)))
    ·rw [if_neg (by have := of_decide_eq_false hb; omega)]
   ·refine Ex.be (specSplit_ex (by rw [pcs]; simp; omega) 32 rfl) ?_
    rw [pcs, spl_two hsp hi32]
    have hpi := pI_itoa (v := va t k) (by omega) (by omega) hil
    refine Ex.no rfl (Ex.guard (by simp) (Ex.be (specInt_ex _) ?_))
    rw [show ([ptx (np t k), Lib.itoa (va t k)] : List Str).getD 1 [] = Lib.itoa (va t k) from rfl, hpi]
    have hx2 : (t.take k) ++ [(⟨pa t k, nmo t k, va t k⟩ : Nod)] = t.take (k + 1) := (take_snoc hk').symm
    refine Ex.be (a := (pa t k, nmo t k)) ?_ ?_
    ·refine Ex.ite (fun hb => ?_) (fun hb => Ex.ret ?_)
     ·have h0 : 0 < k := by have := of_decide_eq_true hb; omega
      have hp := h.par k h0 hk'
      have hn := h.nam k h0 hk'
      have hvk := VT_take h (t.length - k) k (by omega) h0
      have e1 : ptx (np t k) = fm 47 (np t (pa t k).toNat) ++ 47 :: nmo t k := by rw [np_upT h h0 hk', ptx_snoc]
      have e2 : (if fm 47 (np t (pa t k).toNat) = [] then ([47] : Str) else fm 47 (np t (pa t k).toNat)) = ptx (np t (pa t k).toNat) := by
       rw [ptx]
       cases np t (pa t k).toNat with
       | nil => rfl
       | cons a l => rw [if_neg (by rw [fm_cons]; simp), if_neg (by simp)]
      refine Ex.guard (by simp) ?_
      rw [show ([ptx (np t k), Lib.itoa (va t k)] : List Str).getD 0 [] = ptx (np t k) from rfl, e1]
      refine Ex.be (specCut_some (name_no hn).1 (by rw [← e1]; omega)) ?_
      rw [e2]
      refine Ex.be (specRes_ex hvk _) (Ex.ret ?_)
      have hl : (t.take k).length = k := by simp; omega
      have : resO (t.take k) (ptx (np t (pa t k).toNat)) = some (pa t k).toNat := (resO_iff hvk).2 ⟨by omega, by rw [np_take (by omega) hp.2]⟩
      rw [res, this]
      simp only [oi]
      congr 1
      omega
     ·have h0 : k = 0 := by have := of_decide_eq_false hb; omega
      subst h0
      rw [h.rp, h.rn]
    ·simp only
     have hvt := VT_take h (t.length - (k + 1)) (k + 1) (by omega) (by omega)
     rw [show (([(⟨pa t k, nmo t k, va t k⟩ : Nod)].drop 0).take [(⟨pa t k, nmo t k, va t k⟩ : Nod)].length) = [(⟨pa t k, nmo t k, va t k⟩ : Nod)] from rfl, hx2]
     refine Ex.guard (by simp; omega) (Ex.be (a := false) (Ex.no rfl (Ex.be (specTree_ex hvt.nl hvt.le) (Ex.ret ?_))) (Ex.no rfl ?_))
     ·rw [validT_iff.2 hvt]; rfl
     ·rw [w64_succ (by omega)]
      exact next _ rfl
  ·rintro _ rfl
   simp only [spec_ParseTree_L1]
   exact Ex.no (decide_eq_false (by omega)) (Ex.ret (by rw [List.take_of_length_le (by omega)]))
 ·exact Ex.be (specFmt_ex h) (Ex.no (by simp) (Ex.ret rfl))
theorem specParse_no {s : Str} (hs : s.length ≤ 100000000) (hn : ∀ t, VT t → fmtT t ≠ s) : Ex (fun n => spec_ParseTree n s) (· = ([], false)) := by
 unfold spec_ParseTree
 refine Ex.be (specSplit_ex (by omega) 59 rfl) ?_
 have hok := spl_lens 59 s
 have hne := spl_ne 59 s
 generalize spl 59 s = xs at hok hne
 refine Ex.ite (fun _ => Ex.ret rfl) (fun _ => ?_)
 have hpos : 0 < xs.length := List.length_pos_iff.2 hne
 refine Ex.bind (P := fun v => match v with | .inl _ => True | .inr x => VT x) ?_ ?_
 ·refine up xs.length (fun k (x : List Nod) => (k = 0 ∧ x = []) ∨ (0 < k ∧ VT x)) (f := fun n x i => spec_ParseTree_L1 s xs n x i) ?_ ?_ 0 [] (Nat.zero_le _) (.inl ⟨rfl, rfl⟩)
  ·rintro k x hk hxk next
   have hxl : x.length ≤ 12 ∧ NL x := by
    rcases hxk with ⟨_, rfl⟩ | ⟨_, h⟩
    ·exact ⟨by simp, by simp [NL]⟩
    ·exact ⟨h.hi, h.nl⟩
   have hp := hok.2 _ (getD_mem (d := []) hk)
   simp only [spec_ParseTree_L1, Int.toNat_natCast]
   refine Ex.yes (decide_eq_true (by omega)) (Ex.guard (by omega) ?_)
   refine Ex.bind (P := fun v => match v with | .inl _ => True | .inr q => q.length ≤ s.length) ?_ ?_
   ·refine Ex.ite (fun hb => ?_) (fun hb => Ex.ret hp)
    refine Ex.bind (P := fun b => b = false → 1 ≤ (xs.getD k []).length) (Ex.ite (fun _ => Ex.ret (fun h => by cases h)) (fun hb2 => ?_)) (fun b hb3 => Ex.ite (fun _ => Ex.ret trivial) (fun hb4 => ?_))
    ·have := of_decide_eq_false hb2
     exact Ex.guard (by omega) (Ex.ret (fun _ => by omega))
    ·have := hb3 hb4
     exact Ex.guard (by omega) (Ex.ret (by show (List.drop 1 (xs.getD k [])).length ≤ _; rw [List.length_drop]; omega))
   ·rintro (u | q) hq
    ·exact Ex.ret trivial
    ·simp only at hq ⊢
     refine Ex.be (specSplit_ex (by omega) 32 rfl) ?_
     have hw := spl_lens 32 q
     generalize spl 32 q = w at hw
     refine Ex.ite (fun _ => Ex.ret trivial) (fun hb => ?_)
     have hw2 : w.length = 2 := by have := of_decide_eq_true (notF hb); omega
     refine Ex.guard (by omega) (Ex.be (specInt_ex _) ?_)
     generalize pI (w.getD 1 []) = r
     obtain ⟨v, okv⟩ := r
     simp only
     have hw0 := hw.2 _ (getD_mem (d := []) (show 0 < w.length by omega))
     refine Ex.bind (P := fun r => r.2.length ≤ 1000000000000) ?_ ?_
     ·refine Ex.ite (fun hb => ?_) (fun _ => Ex.ret (by simp))
      have h0 : 0 < k := by have := of_decide_eq_true hb; omega
      have hvx : VT x := by
       rcases hxk with ⟨h, _⟩ | ⟨_, h⟩
       ·omega
       ·exact h
      refine Ex.guard (by omega) ?_
      generalize w.getD 0 [] = z at hw0
      refine Ex.bind (P := fun r => r.2.length ≤ 1000000000000) ?_ ?_
      ·rcases last_at 47 z with h1 | ⟨a, b, rfl, h2⟩
       ·exact Ex.mono (specCut_none h1 (by omega)) (fun r hr => hr.2)
       ·refine Ex.mono (specCut_some h2 (by omega)) (fun r hr => ?_)
        subst hr
        simp only [List.length_append, List.length_cons] at hw0 ⊢
        omega
      ·rintro ⟨a, b⟩ hb
       simp only at hb ⊢
       exact Ex.be (specRes_ex hvx _) (Ex.ret hb)
     ·rintro ⟨a, b⟩ hb
      simp only at hb ⊢
      rw [show (([(⟨a, b, v⟩ : Nod)].drop 0).take [(⟨a, b, v⟩ : Nod)].length) = [(⟨a, b, v⟩ : Nod)] from rfl]
      have hnl : NL (x ++ [⟨a, b, v⟩]) := hxl.2.snoc (by omega) hb
      refine Ex.guard (by simp; omega) ?_
      refine Ex.bind (P := fun c => c = false → validT (x ++ [⟨a, b, v⟩]) = true) ?_ ?_
      ·exact Ex.ite (fun _ => Ex.ret (fun h => by cases h)) (fun _ => Ex.be (specTree_ex hnl (by simp; omega)) (Ex.ret (fun h => notF h)))
      ·intro c hc
       refine Ex.ite (fun _ => Ex.ret trivial) (fun hb2 => ?_)
       rw [w64_succ (by omega)]
       exact next _ (.inr ⟨by omega, validT_iff.1 (hc hb2)⟩)
  ·intro x hx
   simp only [spec_ParseTree_L1]
   refine Ex.no (decide_eq_false (by omega)) (Ex.ret ?_)
   rcases hx with ⟨h, _⟩ | ⟨_, h⟩
   ·omega
   ·exact h
 ·rintro (u | x) hx
  ·exact Ex.ret rfl
  ·refine Ex.be (specFmt_ex hx) (Ex.yes ?_ (Ex.ret rfl))
   rw [decide_eq_false (hn x hx)]; rfl
theorem specParse_ex {s : Str} (hs : s.length ≤ 100000000) : Ex (fun n => spec_ParseTree n s) (· = pT s) := by
 cases hp : (pT s).2 with
 | true =>
  obtain ⟨h1, h2⟩ := pT_some hp
  have := specParse_yes h1
  rw [h2] at this
  refine Ex.mono this (fun r hr => ?_)
  rw [hr, ← hp]
 | false =>
  obtain ⟨h1, h2⟩ := pT_none hp
  rw [h1]
  exact specParse_no hs h2
theorem pT_len (s : Str) : (pT s).1.length ≤ 12 := by
 cases hp : (pT s).2 with
 | true => exact (pT_some hp).1.hi
 | false => rw [(pT_none hp).1]; simp
theorem equalN_ex {xs : List Nod} (h : xs.length ≤ 10000000) : Ex (fun n => laws_equalNodes n xs xs) (· = true) := by
 unfold laws_equalNodes
 refine Ex.no (by simp) (Ex.be (a := .inr ()) ?_ ?_)
 rotate_left
 ·exact Ex.ret rfl
 refine skip_loop xs.length (f := fun n i => laws_equalNodes_L1 xs xs n i) ?_ ?_
 ·intro k hk r hr
  simp only [laws_equalNodes_L1, Int.toNat_natCast]
  rw [w64_succ (by omega)]
  exact Ex.yes (decide_eq_true (by omega)) (Ex.guard (by omega) (Ex.guard (by omega) (Ex.no (by simp) hr)))
 ·simp only [laws_equalNodes_L1]
  exact Ex.no (decide_eq_false (by omega)) (Ex.ret rfl)
end
section
open Go
set_option linter.unusedVariables false
theorem mutate_ex {x1 : List Int} {k2 : Nat} (h : Rd x1 k2) {i : Int} (h0 : 0 ≤ i) (h1 : i ≤ 900000000) {s : Str} (hs : s.length ≤ 100000) :
  Ex (fun _ => spec_mutate x1 k2 i s) (fun r => i ≤ r.1 ∧ r.1 ≤ i + 3 ∧ r.2.length ≤ s.length + 2) := by
 unfold spec_mutate
 rw [w64_id (n := ((s.length : Nat) : Int) + 1) (by omega) (by omega), w64_id (n := i + 1) (by omega) (by omega), w64_id (n := i + 1 + 1) (by omega) (by omega)]
 refine Ex.bind (pick_ex h h0 (by omega) (by omega) (by omega)) (fun a ha => ?_)
 refine Ex.bind (pick_ex h (by omega) (by omega) (by omega) (by omega)) (fun b hb => ?_)
 rw [w64_id (n := a + 1) (by omega) (by omega)]
 refine Ex.bind (P := fun v => match v with | .inl r => i ≤ r.1 ∧ r.1 ≤ i + 3 ∧ r.2.length ≤ s.length + 2 | .inr _ => True) ?_ ?_
 ·refine Ex.ite (fun _ => ?_) (fun _ => ?_)
  ·refine Ex.ite (fun hlt => ?_) (fun _ => Ex.ret trivial)
   have hlt := of_decide_eq_true hlt
   refine Ex.guard (by omega) (Ex.bind (of_ex h (by omega) (by omega) (by simp) (by simp)) ?_)
   rintro ⟨j, c⟩ ⟨e1, e2⟩
   simp only at e1 e2 ⊢
   have hc : c.length = 1 := by
    simp only [List.mem_cons, List.not_mem_nil, or_false] at e2
    rcases e2 with rfl | rfl | rfl | rfl | rfl | rfl | rfl | rfl <;> rfl
   refine Ex.guard (by simp; omega) (Ex.guard (by omega) (Ex.guard (by simp; omega) (Ex.ret ⟨by omega, by omega, ?_⟩)))
   simp only [List.length_append, List.length_take, List.length_drop]
   omega
  ·refine Ex.ite (fun _ => Ex.guard (by omega) (Ex.ret ⟨by omega, by omega, by simp; omega⟩)) (fun _ => ?_)
   refine Ex.ite (fun _ => ?_) (fun _ => Ex.ret trivial)
   refine Ex.bind (of_ex h (by omega) (by omega) (by simp) (by simp)) ?_
   rintro ⟨j, c⟩ ⟨e1, e2⟩
   simp only at e1 e2 ⊢
   have hc : c.length ≤ 2 := by
    simp only [List.mem_cons, List.not_mem_nil, or_false] at e2
    rcases e2 with rfl | rfl | rfl | rfl | rfl | rfl <;> simp
   exact Ex.guard (by omega) (Ex.ret ⟨by omega, by omega, by simp; omega⟩)
 ·rintro (⟨j, c⟩ | u) hr
  ·exact Ex.ret hr
  ·exact Ex.ret ⟨by omega, by omega, by simp⟩
theorem fmtR_len (t : List Nod) : (fmtR t).length ≤ 400 := by
 unfold fmtR
 split
 ·rename_i hv
  have h := validT_iff.1 hv
  have := sep_len h (Nat.le_refl _)
  have := h.hi
  rw [fmtT]; omega
 ·simp
theorem drawParse_ex {x0 : List Int} (hl : x0.length ≤ 1048576) (h0 : ∀ x ∈ x0, RC.wf .u8 x) : Ex (fun n => spec_DrawParseTree n x0) (fun s => s.length ≤ 1000) := by
 unfold spec_DrawParseTree
 refine Ex.bind (newReader_ex (u8_wf h0) (by omega)) (fun k hk => ?_)
 refine Ex.bind (anyTree_ex hk (Int.le_refl 0) (by omega)) ?_
 rintro ⟨i, x, a, b⟩ ⟨h1, h2⟩
 simp only at h1 h2 ⊢
 have l1 := h2.len
 refine Ex.be (specFormat_ex h2.nl (by omega)) ?_
 have hf := fmtR_len ((x.drop a).take b)
 generalize fmtR ((x.drop a).take b) = s at hf
 refine Ex.bind (pick_ex hk (by omega) (by omega) (by omega) (by omega)) (fun c hc => ?_)
 rw [w64_id (n := i + 1) (by omega) (by omega)]
 refine Ex.bind (P := fun s : Str => s.length ≤ 1000) (Ex.ite (fun _ => ?_) (fun _ => Ex.ret (by omega))) (fun r hr => Ex.ret hr)
 refine Ex.bind (mutate_ex hk (by omega) (by omega) (by omega)) ?_
 rintro ⟨j, r⟩ ⟨_, _, hr⟩
 simp only at hr ⊢
 exact Ex.ret (by omega)
theorem law_FnTreeCanonical (x0 : List Int) (h0 : x0.length ≤ 9223372036854775807 ∧ ∀ x ∈ x0, RC.wf .u8 x) : ∃ n, laws_FnTreeCanonical n x0 = some true := by
 refine Ex.get ?_
 unfold laws_FnTreeCanonical
 refine Ex.code rfl (fun hl => ?_)
 refine Ex.bind (drawParse_ex hl h0.2) (fun s hs => ?_)
 have h12 := pT_len s
 have i := implParse_ex (s := s) (by omega)
 have sx := specParse_ex (s := s) (by omega)
 have hb : (pT s).2 = true → VT (pT s).1 ∧ fmtT (pT s).1 = s := pT_some
 obtain ⟨t, b, hp⟩ : ∃ t b, pT s = (t, b) := ⟨_, _, rfl⟩
 rw [hp] at i sx h12 hb
 simp only at h12 hb
 refine Ex.be i (Ex.be sx ?_)
 simp only
 refine Ex.be (equalN_ex (by omega)) (Ex.no (by simp) (Ex.be (a := true) ?_ (Ex.ret rfl)))
 cases b with
 | false => exact Ex.yes rfl (Ex.ret rfl)
 | true =>
  obtain ⟨h1, h2⟩ := hb rfl
  refine Ex.no rfl (Ex.be (implFormat_ex t) ?_)
  rw [fmtR, if_pos (validT_iff.2 h1)]
  refine Ex.yes (decide_eq_true h2) (Ex.be (implTree_ex t) (Ex.ret ?_))
  exact validT_iff.2 h1
end
end Go.Proofs.YtghdgncfcfdlfaaGreatDoor
