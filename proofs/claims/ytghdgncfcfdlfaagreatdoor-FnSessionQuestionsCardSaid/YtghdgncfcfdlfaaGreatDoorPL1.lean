/- Plain facts for the law FnSessionQuestions. Conditions: none. -/
import Derived.Test.YtghdgncfcfdlfaaGreatDoorTLx
import Derived.Test.YtghdgncfcfdlfaaGreatDoorTLzb
import Derived.Lib.ItoaNum
import Derived.Lib.Split
import Derived.Lib.IndexLaws
import Derived.Lib.AtoiAllCases
import Derived.KernelRfl
import Derived.Test.YtghdgncfcfdlfaaGreatDoorTT
namespace Go.Proofs.YtghdgncfcfdlfaaGreatDoor
section
open Go
theorem w64_id {n : Int} (h1 : -9223372036854775808 ≤ n) (h2 : n ≤ 9223372036854775807) : w64 n = n := by
 show IntKind.i64.wrap n = n
 unfold IntKind.wrap
 simp [IntKind.bits, IntKind.signed]
 omega
theorem w64_succ {k : Nat} (h : k < 1099511627776) : w64 ((k : Int) + 1) = ((k + 1 : Nat) : Int) := by
 rw [w64_id (by omega) (by omega)]; omega
end
section
open Go
/-- with enough fuel f comes to something that P holds of -/
def Ex {α : Type} (f : Nat → Option α) (P : α → Prop) : Prop := ∃ r, P r ∧ ∃ N, ∀ n, N ≤ n → f n = some r
theorem Ex.ret {α : Type} {P : α → Prop} {r : α} (h : P r) : Ex (fun _ => some r) P := ⟨r, h, 0, fun _ _ => rfl⟩
theorem Ex.const {α : Type} {P : α → Prop} {x : Option α} {r : α} (e : x = some r) (h : P r) : Ex (fun _ => x) P := ⟨r, h, 0, fun _ _ => e⟩
theorem Ex.mono {α : Type} {f : Nat → Option α} {P Q : α → Prop} (h : Ex f P) (k : ∀ r, P r → Q r) : Ex f Q := by
 obtain ⟨r, h1, h2⟩ := h; exact ⟨r, k r h1, h2⟩
theorem Ex.bind {α β : Type} {f : Nat → Option α} {g : Nat → α → Option β} {P : α → Prop} {Q : β → Prop} (h : Ex f P) (k : ∀ a, P a → Ex (fun n => g n a) Q) : Ex (fun n => bindO (f n) (g n)) Q := by
 obtain ⟨a, h1, N, h2⟩ := h
 obtain ⟨r, k1, M, k2⟩ := k a h1
 refine ⟨r, k1, max N M, fun n hn => ?_⟩
 show bindO (f n) (g n) = some r
 rw [h2 n (by omega)]
 exact k2 n (by omega)
/-- a call that comes to one value -/
theorem Ex.be {α β : Type} {f : Nat → Option α} {g : Nat → α → Option β} {a : α} {Q : β → Prop} (h : Ex f (· = a)) (k : Ex (fun n => g n a) Q) : Ex (fun n => bindO (f n) (g n)) Q := Ex.bind h (fun b hb => by subst hb; exact k)
/-- a call without fuel that comes to one value -/
theorem Ex.bc {α β : Type} {x : Option α} {g : Nat → α → Option β} {a : α} {Q : β → Prop} (h : x = some a) (k : Ex (fun n => g n a) Q) : Ex (fun n => bindO x (g n)) Q := by subst h; exact k
theorem Ex.guard {α : Type} {c : Prop} [Decidable c] {f : Nat → Option α} {P : α → Prop} (h : c) (k : Ex f P) : Ex (fun n => guardO c (f n)) P := by
 have : (fun n => guardO c (f n)) = f := by funext n; exact guardO_pos h
 rw [this]; exact k
theorem Ex.ite {α : Type} {b : Bool} {f g : Nat → Option α} {P : α → Prop} (h1 : b = true → Ex f P) (h2 : b = false → Ex g P) : Ex (fun n => iteO b (f n) (g n)) P := by
 cases b with
 | true => exact h1 rfl
 | false => exact h2 rfl
theorem Ex.yes {α : Type} {b : Bool} {f g : Nat → Option α} {P : α → Prop} (h : b = true) (k : Ex f P) : Ex (fun n => iteO b (f n) (g n)) P := by subst h; exact k
theorem Ex.no {α : Type} {b : Bool} {f g : Nat → Option α} {P : α → Prop} (h : b = false) (k : Ex g P) : Ex (fun n => iteO b (f n) (g n)) P := by subst h; exact k
theorem Ex.succ {α : Type} {f : Nat → Option α} {P : α → Prop} (h : Ex (fun n => f (n + 1)) P) : Ex f P := by
 obtain ⟨r, h1, N, h2⟩ := h
 refine ⟨r, h1, N + 1, fun n hn => ?_⟩
 obtain ⟨m, rfl⟩ : ∃ m, n = m + 1 := ⟨n - 1, by omega⟩
 exact h2 m (by omega)
theorem Ex.get {α : Type} {f : Nat → Option α} {r : α} (h : Ex f (· = r)) : ∃ n, f n = some r := by
 obtain ⟨a, rfl, N, h⟩ := h; exact ⟨N, h N (Nat.le_refl _)⟩
theorem u8_wf {xs : List Int} (h : ∀ x ∈ xs, RC.wf .u8 x) : ∀ x ∈ xs, 0 ≤ x ∧ x ≤ 255 := by
 intro x hx
 obtain ⟨n, h1, h2, h3⟩ := (h x hx).1
 cases h1
 exact ⟨h2, h3⟩
theorem getD_mem {α : Type} {xs : List α} {k : Nat} {d : α} (h : k < xs.length) : xs.getD k d ∈ xs := by
 rw [List.getD_eq_getElem?_getD, List.getElem?_eq_getElem h]; exact List.getElem_mem h
theorem view_all {α : Type} (xs : List α) : (xs.drop 0).take xs.length = xs := by simp
/-- a loop that looks for an element -/
theorem any_loop {ρ α : Type} (xs : List ρ) (d : ρ) (q : ρ → Bool) {f : Nat → Int → Option α} {A B : α}
  (h1 : ∀ k : Nat, k < xs.length → q (xs.getD k d) = true → Ex (fun n => f (n + 1) (k : Int)) (· = A))
  (h2 : ∀ k : Nat, k < xs.length → q (xs.getD k d) = false → ∀ r, Ex (fun n => f n ((k + 1 : Nat) : Int)) (· = r) → Ex (fun n => f (n + 1) (k : Int)) (· = r))
  (h3 : Ex (fun n => f (n + 1) (xs.length : Int)) (· = B)) : Ex (fun n => f n 0) (· = if xs.any q = true then A else B) := by
 have key : ∀ (m k : Nat), k + m = xs.length → Ex (fun n => f n (k : Int)) (· = if (xs.drop k).any q = true then A else B) := by
  intro m
  induction m with
  | zero =>
   intro k hk
   obtain rfl : k = xs.length := by omega
   rw [List.drop_length]
   exact Ex.succ h3
  | succ m ih =>
   intro k hk
   have hlt : k < xs.length := by omega
   have e : xs.drop k = xs.getD k d :: xs.drop (k + 1) := by
    rw [List.drop_eq_getElem_cons hlt, List.getD_eq_getElem?_getD, List.getElem?_eq_getElem hlt]; rfl
   rw [e, List.any_cons]
   refine Ex.succ ?_
   cases hq : q (xs.getD k d) with
   | true => exact h1 k hlt hq
   | false =>
    rw [Bool.false_or]
    exact h2 k hlt hq _ (ih (k + 1) (by omega))
 have := key xs.length 0 (by omega)
 rw [List.drop_zero] at this
 exact this
theorem Ex.code {f : Nat → Option Bool} {x1 : List Int} {P : Bool → Prop} (ht : P true) (h : x1.length ≤ 1048576 → Ex f P) : Ex (fun n => iteO (decide (1048576 < ((x1.length : Nat) : Int))) (some true) (f n)) P := by
 refine Ex.ite (fun _ => Ex.ret ht) (fun hb => h ?_)
 have := of_decide_eq_false hb
 omega
end
section
open Go
/-- a loop with a state: what holds ahead of each round -/
theorem up {σ α : Type} (len : Nat) (inv : Nat → σ → Prop) {f : Nat → σ → Int → Option α} {Q : α → Prop}
  (h1 : ∀ (k : Nat) (s : σ), k < len → inv k s → (∀ s', inv (k + 1) s' → Ex (fun n => f n s' ((k + 1 : Nat) : Int)) Q) → Ex (fun n => f (n + 1) s (k : Int)) Q)
  (h2 : ∀ s, inv len s → Ex (fun n => f (n + 1) s (len : Int)) Q) (k : Nat) (s : σ) (hk : k ≤ len) (hi : inv k s) : Ex (fun n => f n s (k : Int)) Q := by
 have key : ∀ (m k : Nat) (s : σ), k + m = len → inv k s → Ex (fun n => f n s (k : Int)) Q := by
  intro m
  induction m with
  | zero =>
   intro k s hk hs
   obtain rfl : k = len := by omega
   exact Ex.succ (h2 s hs)
  | succ m ih =>
   intro k s hk hs
   exact Ex.succ (h1 k s (by omega) hs (fun s' hs' => ih (k + 1) s' (by omega) hs'))
 exact key (len - k) k s (by omega) hi
/-- the same without a state -/
theorem upU {α : Type} (len : Nat) (inv : Nat → Prop) {f : Nat → Int → Option α} {Q : α → Prop}
  (h1 : ∀ (k : Nat), k < len → inv k → (inv (k + 1) → Ex (fun n => f n ((k + 1 : Nat) : Int)) Q) → Ex (fun n => f (n + 1) (k : Int)) Q)
  (h2 : inv len → Ex (fun n => f (n + 1) (len : Int)) Q) (k : Nat) (hk : k ≤ len) (hi : inv k) : Ex (fun n => f n (k : Int)) Q :=
 up (σ := Unit) len (fun k _ => inv k) (f := fun n _ i => f n i) (fun k _ hk hi h => h1 k hk hi (fun h' => h () h')) (fun _ h => h2 h) k () hk hi
theorem notT {b : Bool} (h : (!b) = true) : b = false := by cases b; rfl; cases h
theorem notF {b : Bool} (h : (!b) = false) : b = true := by cases b; cases h; rfl
theorem drop_at {α : Type} {xs : List α} {k : Nat} (d : α) (h : k < xs.length) : xs.drop k = xs.getD k d :: xs.drop (k + 1) := by
 rw [List.drop_eq_getElem_cons h, List.getD_eq_getElem?_getD, List.getElem?_eq_getElem h]; rfl
def ch (b : UInt8) : Bool := decide (97 ≤ b.toNat) && decide (b.toNat ≤ 122)
def nameOk (s : Str) : Bool := (decide (1 ≤ s.length) && decide (s.length ≤ 4)) && s.all ch
theorem all_split {α : Type} (p : α → Bool) {xs : List α} {k : Nat} (d : α) (h : k < xs.length) : (xs.drop k).all p = (p (xs.getD k d) && (xs.drop (k + 1)).all p) := by
 rw [drop_at d h, List.all_cons]
/-- same parent, same name -/
def sib (p : Int) (s : Str) (x : Nod) : Bool := decide (x.parent = p) && decide (x.name = s)
/-- the place of the first -/
def firstAt {α : Type} (q : α → Bool) : List α → Nat → Int
 | [], _ => -1
 | x :: l, k => if q x = true then (k : Int) else firstAt q l (k + 1)
theorem firstAt_iff {α : Type} (q : α → Bool) : ∀ (l : List α) (k : Nat), (0 ≤ firstAt q l k) ↔ l.any q = true
 | [], k => by simp [firstAt]
 | x :: l, k => by
  rw [firstAt, List.any_cons]
  cases q x with
  | true => simp
  | false => simpa using firstAt_iff q l (k + 1)
def NL (t : List Nod) : Prop := t.length ≤ 1000000000000 ∧ ∀ x ∈ t, x.name.length ≤ 1000000000000
/-- how deep a node lies -/
def dp (t : List Nod) (i : Nat) : Nat :=
 if h : 0 ≤ (t.getD i dnod).parent ∧ (t.getD i dnod).parent.toNat < i then dp t (t.getD i dnod).parent.toNat + 1 else 0
termination_by i
decreasing_by exact h.2
def rv (n : Int) : Bool := decide (-1000 ≤ n) && decide (n ≤ 1000)
def nodeOk (t : List Nod) (i : Nat) : Bool :=
 rv (t.getD i dnod).value && (if i = 0 then decide ((t.getD i dnod).parent = -1) && decide ((t.getD i dnod).name = [])
  else (decide (0 ≤ (t.getD i dnod).parent) && decide ((t.getD i dnod).parent ≤ (i : Int) - 1)) && (nameOk (t.getD i dnod).name && (!(t.take i).any (sib (t.getD i dnod).parent (t.getD i dnod).name) && decide (dp t i ≤ 4))))
def validT (t : List Nod) : Bool := (decide (1 ≤ t.length) && decide (t.length ≤ 12)) && (List.range t.length).all (nodeOk t)
/-- where the parent lies -/
def PO (t : List Nod) (j : Nat) : Prop := if j = 0 then (t.getD j dnod).parent = -1 else 0 ≤ (t.getD j dnod).parent ∧ (t.getD j dnod).parent.toNat < j
theorem nodeOk_PO {t : List Nod} {j : Nat} (h : nodeOk t j = true) : PO t j := by
 unfold PO
 simp only [nodeOk, Bool.and_eq_true] at h
 split
 ·rename_i h0
  rw [if_pos h0] at h
  simpa using (Bool.and_eq_true_iff.1 h.2).1
 ·rename_i h0
  rw [if_neg h0] at h
  simp only [Bool.and_eq_true, decide_eq_true_eq] at h
  omega
theorem dp_le {t : List Nod} : ∀ i, dp t i ≤ i := by
 intro i
 induction i using Nat.strongRecOn with
 | ind i ih =>
  rw [dp]
  split
  ·rename_i h; have := ih _ h.2; omega
  ·omega
def okTo (t : List Nod) (k : Nat) : Prop := ∀ j, j < k → nodeOk t j = true
theorem no_root {t : List Nod} (h0 : PO t 0) {p : Int} (hp : 0 ≤ p) (s : Str) {i : Nat} (hi : 0 < i) (hlt : i < t.length) : (firstAt (sib p s) ((t.take i).drop 1) 1 < 0) ↔ (t.take i).any (sib p s) = false := by
 rw [PO, if_pos rfl] at h0
 have e : t.take i = t.getD 0 dnod :: (t.take i).drop 1 := by
  have := drop_at (xs := t.take i) (k := 0) dnod (by simp; omega)
  rw [List.drop_zero] at this
  rw [this]
  congr 1
  rw [List.getD_eq_getElem?_getD, List.getElem?_take_of_lt hi, List.getD_eq_getElem?_getD]
 have h := firstAt_iff (sib p s) ((t.take i).drop 1) 1
 have h2 : (t.take i).any (sib p s) = ((t.take i).drop 1).any (sib p s) := by
  conv => lhs; rw [e]
  rw [List.any_cons]
  have : sib p s (t.getD 0 dnod) = false := by rw [sib, decide_eq_false (by omega)]; rfl
  rw [this, Bool.false_or]
 rw [h2, ← Bool.not_eq_true, ← h]; omega
theorem all_range {n : Nat} {p : Nat → Bool} : (List.range n).all p = true ↔ ∀ j, j < n → p j = true := by
 simp [List.all_eq_true]
theorem all_range_false {n : Nat} {p : Nat → Bool} {k : Nat} (hk : k < n) (h : p k = false) : (List.range n).all p = false := by
 rw [Bool.eq_false_iff]; intro h'; rw [all_range.1 h' k hk] at h; cases h
theorem getD_set' {α : Type} {xs : List α} {i : Nat} {x d : α} (h : i < xs.length) (j : Nat) : (xs.set i x).getD j d = if i = j then x else xs.getD j d := by
 rw [List.getD_eq_getElem?_getD, List.getElem?_set]
 split
 ·rfl
 ·rw [List.getD_eq_getElem?_getD]
end
section
open Go
set_option linter.unusedVariables false
def pa (t : List Nod) (i : Nat) : Int := (t.getD i dnod).parent
def nmo (t : List Nod) (i : Nat) : Str := (t.getD i dnod).name
def va (t : List Nod) (i : Nat) : Int := (t.getD i dnod).value
structure VT (t : List Nod) : Prop where
 lo : 1 ≤ t.length
 hi : t.length ≤ 12
 val : ∀ i, i < t.length → -1000 ≤ va t i ∧ va t i ≤ 1000
 rp : pa t 0 = -1
 rn : nmo t 0 = []
 par : ∀ i, 0 < i → i < t.length → 0 ≤ pa t i ∧ (pa t i).toNat < i
 nam : ∀ i, 0 < i → i < t.length → nameOk (nmo t i) = true
 sib : ∀ i j, 0 < i → i < j → j < t.length → pa t i = pa t j → nmo t i ≠ nmo t j
 dep : ∀ i, i < t.length → dp t i ≤ 4
theorem take_any {t : List Nod} {i : Nat} {q : Nod → Bool} (hi : i ≤ t.length) : (t.take i).any q = true ↔ ∃ j, j < i ∧ q (t.getD j dnod) = true := by
 rw [List.any_eq_true]
 constructor
 ·rintro ⟨x, hx, hq⟩
  obtain ⟨j, hj, rfl⟩ := List.mem_iff_getElem.1 hx
  have hj' : j < i := by simp at hj; omega
  refine ⟨j, hj', ?_⟩
  rw [List.getElem_take] at hq
  rwa [List.getD_eq_getElem?_getD, List.getElem?_eq_getElem (by omega)]
 ·rintro ⟨j, hj, hq⟩
  refine ⟨t.getD j dnod, ?_, hq⟩
  rw [List.getD_eq_getElem?_getD, List.getElem?_eq_getElem (by omega : j < t.length)]
  show t[j] ∈ t.take i
  rw [List.mem_take_iff_getElem]
  exact ⟨j, by omega, rfl⟩
theorem validT_iff {t : List Nod} : validT t = true ↔ VT t := by
 constructor
 ·intro h
  simp only [validT, Bool.and_eq_true, decide_eq_true_eq] at h
  obtain ⟨⟨h1, h2⟩, h3⟩ := h
  have h3 := all_range.1 h3
  have h4 : ∀ i, 0 < i → i < t.length → rv (va t i) = true ∧ (0 ≤ pa t i ∧ pa t i ≤ (i : Int) - 1) ∧ nameOk (nmo t i) = true ∧ (t.take i).any (Go.Proofs.YtghdgncfcfdlfaaGreatDoor.sib (pa t i) (nmo t i)) = false ∧ dp t i ≤ 4 := by
   intro i h0 hi
   have := h3 i hi
   rw [nodeOk, if_neg (by omega)] at this
   simp only [Bool.and_eq_true, decide_eq_true_eq] at this
   exact ⟨this.1, this.2.1, this.2.2.1, notT this.2.2.2.1, this.2.2.2.2⟩
  have h5 := h3 0 (by omega)
  rw [nodeOk, if_pos rfl] at h5
  simp only [Bool.and_eq_true, decide_eq_true_eq] at h5
  have hr : ∀ i, i < t.length → rv (va t i) = true := by
   intro i hi
   rcases Nat.eq_zero_or_pos i with rfl | h0
   ·exact h5.1
   ·exact (h4 i h0 hi).1
  refine ⟨h1, h2, fun i hi => ?_, h5.2.1, h5.2.2, fun i h0 hi => ?_, fun i h0 hi => (h4 i h0 hi).2.2.1, fun i j h0 hij hj e1 e2 => ?_, fun i hi => ?_⟩
  ·have := hr i hi
   simp only [rv, Bool.and_eq_true, decide_eq_true_eq] at this
   exact this
  ·have := (h4 i h0 hi).2.1; omega
  ·have := (h4 j (by omega) hj).2.2.2.1
   rw [← Bool.not_eq_true, take_any (by omega)] at this
   refine this ⟨i, hij, ?_⟩
   simp only [Go.Proofs.YtghdgncfcfdlfaaGreatDoor.sib, Bool.and_eq_true, decide_eq_true_eq]
   exact ⟨e1, e2⟩
  ·rcases Nat.eq_zero_or_pos i with rfl | h0
   ·rw [dp, dif_neg (by have := h5.2.1; omega)]; omega
   ·exact (h4 i h0 hi).2.2.2.2
 ·intro h
  have := h.lo
  have := h.hi
  simp only [validT, Bool.and_eq_true, decide_eq_true_eq]
  refine ⟨⟨by omega, by omega⟩, all_range.2 fun i hi => ?_⟩
  have hv : rv (t.getD i dnod).value = true := by
   have := h.val i hi
   simp only [rv, Bool.and_eq_true, decide_eq_true_eq]
   exact this
  rw [nodeOk, hv, Bool.true_and]
  split
  ·rename_i e
   subst e
   have := h.rp
   have := h.rn
   simp only [Bool.and_eq_true, decide_eq_true_eq]
   exact ⟨h.rp, h.rn⟩
  ·rename_i e
   have h1 := h.par i (by omega) hi
   simp only [pa] at h1
   simp only [Bool.and_eq_true, decide_eq_true_eq]
   refine ⟨by omega, h.nam i (by omega) hi, ?_, h.dep i hi⟩
   rw [Bool.not_eq_true', ← Bool.not_eq_true, take_any (by omega)]
   rintro ⟨j, hj, hq⟩
   simp only [Go.Proofs.YtghdgncfcfdlfaaGreatDoor.sib, Bool.and_eq_true, decide_eq_true_eq] at hq
   rcases Nat.eq_zero_or_pos j with rfl | h0
   ·have := h.rp; simp only [pa] at this; omega
   ·exact h.sib j i h0 hj hi hq.1 hq.2
/-- the names on the way to a node -/
def np (t : List Nod) (i : Nat) : List Str :=
 if h : 0 ≤ (t.getD i dnod).parent ∧ (t.getD i dnod).parent.toNat < i then np t (t.getD i dnod).parent.toNat ++ [(t.getD i dnod).name] else []
termination_by i
decreasing_by exact h.2
/-- the nodes on the way to a node -/
def ix (t : List Nod) (i : Nat) : List Nat :=
 if h : 0 ≤ (t.getD i dnod).parent ∧ (t.getD i dnod).parent.toNat < i then ix t (t.getD i dnod).parent.toNat ++ [i] else [i]
termination_by i
decreasing_by exact h.2
theorem np_ix {t : List Nod} : ∀ i, (ix t i).map (nmo t) = nmo t ((ix t i).headD 0) :: np t i ∧ (ix t i).length = dp t i + 1 := by
 intro i
 induction i using Nat.strongRecOn with
 | ind i ih =>
  rw [ix, np, dp]
  split
  ·rename_i h
   obtain ⟨h1, h2⟩ := ih _ h.2
   refine ⟨?_, by rw [List.length_append, h2]; rfl⟩
   rw [List.map_append, h1, List.cons_append]
   have : (ix t (t.getD i dnod).parent.toNat ++ [i]).headD 0 = (ix t (t.getD i dnod).parent.toNat).headD 0 := by
    cases hx : ix t (t.getD i dnod).parent.toNat with
    | nil => rw [hx] at h2; simp at h2
    | cons a l => rfl
   rw [this]
   rfl
  ·exact ⟨rfl, rfl⟩
variable {t : List Nod}
theorem np_zero (h : VT t) : np t 0 = [] := by
 rw [np, dif_neg (by omega)]
theorem np_pos (h : VT t) {i : Nat} (h0 : 0 < i) (hi : i < t.length) : np t i = np t (pa t i).toNat ++ [nmo t i] := by
 have := h.par i h0 hi
 simp only [pa] at this
 rw [np, dif_pos this]; rfl
theorem dp_pos (h : VT t) {i : Nat} (h0 : 0 < i) (hi : i < t.length) : dp t i = dp t (pa t i).toNat + 1 := by
 have := h.par i h0 hi
 simp only [pa] at this
 rw [dp, dif_pos this]; rfl
theorem ix_pos (h : VT t) {i : Nat} (h0 : 0 < i) (hi : i < t.length) : ix t i = ix t (pa t i).toNat ++ [i] := by
 have := h.par i h0 hi
 simp only [pa] at this
 rw [ix, dif_pos this]; rfl
theorem np_len : ∀ i, (np t i).length = dp t i := by
 intro i
 induction i using Nat.strongRecOn with
 | ind i ih =>
  rw [np, dp]
  split
  ·rename_i h; rw [List.length_append, ih _ h.2]; rfl
  ·rfl
theorem np_inj (h : VT t) : ∀ i, i < t.length → ∀ j, j < t.length → np t i = np t j → i = j := by
 intro i
 induction i using Nat.strongRecOn with
 | ind i ih =>
  intro hi j hj e
  rcases Nat.eq_zero_or_pos i with rfl | hi0
  ·rcases Nat.eq_zero_or_pos j with rfl | hj0
   ·rfl
   ·rw [np_zero h, np_pos h hj0 hj] at e; simp at e
  ·rcases Nat.eq_zero_or_pos j with rfl | hj0
   ·rw [np_zero h, np_pos h hi0 hi] at e; simp at e
   ·rw [np_pos h hi0 hi, np_pos h hj0 hj] at e
    have e1 := List.append_inj' e rfl
    have e2 : nmo t i = nmo t j := by simpa using e1.2
    have p1 := h.par i hi0 hi
    have p2 := h.par j hj0 hj
    have e3 := ih _ p1.2 (by omega) _ (by omega) e1.1
    have e4 : pa t i = pa t j := by omega
    rcases Nat.lt_trichotomy i j with hlt | rfl | hlt
    ·exact absurd e2 (h.sib i j hi0 hlt hj e4)
    ·rfl
    ·exact absurd e2.symm (h.sib j i hj0 hlt hi e4.symm)
theorem np_names (h : VT t) : ∀ i, i < t.length → ∀ s ∈ np t i, nameOk s = true := by
 intro i
 induction i using Nat.strongRecOn with
 | ind i ih =>
  intro hi s hs
  rcases Nat.eq_zero_or_pos i with rfl | hi0
  ·rw [np_zero h] at hs; cases hs
  ·rw [np_pos h hi0 hi] at hs
   rcases List.mem_append.1 hs with h1 | h1
   ·have := h.par i hi0 hi
    exact ih _ this.2 (by omega) s h1
   ·rw [List.mem_singleton.1 h1]; exact h.nam i hi0 hi
/-- what is above lies in the tree -/
theorem np_up (h : VT t) : ∀ i, i < t.length → ∀ l l', np t i = l ++ l' → ∃ k, k ≤ i ∧ np t k = l := by
 intro i
 induction i using Nat.strongRecOn with
 | ind i ih =>
  intro hi l l' e
  rcases List.eq_nil_or_concat l' with rfl | ⟨m, x, rfl⟩
  ·exact ⟨i, Nat.le_refl _, by simpa using e⟩
  ·rcases Nat.eq_zero_or_pos i with rfl | hi0
   ·rw [np_zero h] at e; simp at e
   ·rw [np_pos h hi0 hi, List.concat_eq_append, ← List.append_assoc] at e
    have e1 := List.append_inj' e rfl
    have p1 := h.par i hi0 hi
    obtain ⟨k, k1, k2⟩ := ih _ p1.2 (by omega) l m e1.1
    exact ⟨k, by omega, k2⟩
/-- the node with names above it -/
def loo (t : List Nod) (l : List Str) : Option Nat := (List.range t.length).find? fun i => decide (np t i = l)
theorem loo_iff (h : VT t) {l : List Str} {i : Nat} : loo t l = some i ↔ i < t.length ∧ np t i = l := by
 unfold loo
 constructor
 ·intro e
  have h1 := List.find?_some e
  have h2 := List.mem_of_find?_eq_some e
  exact ⟨by simpa using h2, by simpa using h1⟩
 ·rintro ⟨h1, h2⟩
  cases e : (List.range t.length).find? fun i => decide (np t i = l) with
  | none =>
   rw [List.find?_eq_none] at e
   exact absurd (decide_eq_true h2) (e i (by simpa using h1))
  | some j =>
   have h3 := List.find?_some e
   have h4 := List.mem_of_find?_eq_some e
   rw [np_inj h j (by simpa using h4) i h1 (by rw [h2]; simpa using h3)]
theorem loo_none {l : List Str} : loo t l = none ↔ ∀ i, i < t.length → np t i ≠ l := by
 unfold loo
 rw [List.find?_eq_none]
 constructor
 ·intro h i hi e
  exact h i (by simpa using hi) (by simpa using e)
 ·intro h i hi
  have := h i (by simpa using hi)
  simpa using this
theorem loo_np (h : VT t) {i : Nat} (hi : i < t.length) : loo t (np t i) = some i := (loo_iff h).2 ⟨hi, rfl⟩
theorem firstAt_spec {α : Type} (q : α → Bool) (d : α) : ∀ (l : List α) (k : Nat), (firstAt q l k = -1 ∧ ∀ j, j < l.length → q (l.getD j d) = false) ∨ ∃ j, j < l.length ∧ firstAt q l k = ((k + j : Nat) : Int) ∧ q (l.getD j d) = true ∧ ∀ i, i < j → q (l.getD i d) = false
 | [], k => .inl ⟨rfl, fun j hj => by simp at hj⟩
 | x :: l, k => by
  rw [firstAt]
  cases hq : q x with
  | true => exact .inr ⟨0, by simp, by simp, by simpa using hq, fun i hi => by omega⟩
  | false =>
   rw [if_neg (by simp)]
   rcases firstAt_spec q d l (k + 1) with ⟨h1, h2⟩ | ⟨j, h1, h2, h3, h4⟩
   ·refine .inl ⟨h1, fun j hj => ?_⟩
    cases j with
    | zero => simpa using hq
    | succ j => simpa using h2 j (by simpa using hj)
   ·refine .inr ⟨j + 1, by simpa using h1, by rw [h2]; omega, by simpa using h3, fun i hi => ?_⟩
    cases i with
    | zero => simpa using hq
    | succ i => simpa using h4 i (by omega)
/-- going down by names -/
def desc (t : List Nod) : Int → List Str → Int
 | a, [] => a
 | a, n :: ns => if firstAt (sib a n) t 0 < 0 then -1 else desc t (firstAt (sib a n) t 0) ns
theorem kid_spec (h : VT t) {a : Nat} {n : Str} (ha : a < t.length) : (firstAt (sib a n) t 0 = -1 ∧ loo t (np t a ++ [n]) = none) ∨ ∃ k, k < t.length ∧ firstAt (sib a n) t 0 = (k : Int) ∧ np t k = np t a ++ [n] := by
 rcases firstAt_spec (sib a n) dnod t 0 with ⟨h1, h2⟩ | ⟨j, h1, h2, h3, h4⟩
 ·refine .inl ⟨h1, loo_none.2 fun i hi e => ?_⟩
  rcases Nat.eq_zero_or_pos i with rfl | hi0
  ·rw [np_zero h] at e; simp at e
  ·rw [np_pos h hi0 hi] at e
   have e1 := List.append_inj' e rfl
   have p1 := h.par i hi0 hi
   have e2 := np_inj h _ (by omega) _ ha e1.1
   have := h2 i hi
   rw [sib, decide_eq_true (show (t.getD i dnod).parent = (a : Int) from (by omega : pa t i = (a : Int))), decide_eq_true (by have := e1.2; simp at this; exact this)] at this
   simp at this
 ·rw [Nat.zero_add] at h2
  refine .inr ⟨j, h1, h2, ?_⟩
  simp only [sib, Bool.and_eq_true, decide_eq_true_eq] at h3
  have hj : 0 < j := by
   rcases Nat.eq_zero_or_pos j with rfl | hj0
   ·have := h.rp; rw [pa] at this; omega
   ·exact hj0
  rw [np_pos h hj h1]
  have e : (pa t j).toNat = a := by rw [pa]; omega
  rw [e]; congr 2; exact h3.2
theorem desc_spec (h : VT t) : ∀ (ns : List Str) (a : Nat), a < t.length → desc t a ns = (match loo t (np t a ++ ns) with | some k => (k : Int) | none => -1)
 | [], a, ha => by
  rw [List.append_nil, loo_np h ha]; rfl
 | n :: ns, a, ha => by
  rw [desc]
  rcases kid_spec h (n := n) ha with ⟨h1, h2⟩ | ⟨k, h1, h2, h3⟩
  ·rw [h1, if_pos (by omega)]
   have : loo t (np t a ++ n :: ns) = none := by
    rw [loo_none]
    intro i hi e
    have e' : np t i = (np t a ++ [n]) ++ ns := by rw [e]; simp
    obtain ⟨k, hk, hk2⟩ := np_up h i hi _ _ e'
    exact loo_none.1 h2 k (by omega) hk2
   rw [this]
  ·rw [h2, if_neg (by omega), desc_spec h ns k h1, h3, List.append_assoc]; rfl
end
section
open Go
set_option linter.unusedVariables false
/-- a text cut at every byte of a kind -/
def spl (c : UInt8) : Str → List Str
 | [] => [[]]
 | x :: s => if x = c then [] :: spl c s else match spl c s with
  | [] => [[x]]
  | h :: r => (x :: h) :: r
theorem spl_ne (c : UInt8) (s : Str) : spl c s ≠ [] := by
 cases s with
 | nil => simp [spl]
 | cons x s =>
  rw [spl]
  split
  ·simp
  ·split <;> simp
theorem spl_none {c : UInt8} : ∀ {a : Str}, c ∉ a → spl c a = [a]
 | [], _ => rfl
 | x :: a, h => by
  rw [spl, if_neg (by rintro rfl; simp at h), spl_none (by simp at h; exact h.2)]
theorem spl_at {c : UInt8} {b : Str} : ∀ {a : Str}, c ∉ a → spl c (a ++ c :: b) = a :: spl c b
 | [], _ => by rw [List.nil_append, spl, if_pos rfl]
 | x :: a, h => by
  rw [List.cons_append, spl, if_neg (by rintro rfl; simp at h), spl_at (by simp at h; exact h.2)]
/-- the first place of a byte -/
theorem cut_at (c : UInt8) : ∀ (s : Str), c ∉ s ∨ ∃ a b, s = a ++ c :: b ∧ c ∉ a
 | [] => .inl (by simp)
 | x :: s => by
  by_cases h : x = c
  ·subst h; exact .inr ⟨[], s, rfl, by simp⟩
  ·rcases cut_at c s with h1 | ⟨a, b, rfl, h1⟩
   ·exact .inl (by simp only [List.mem_cons, not_or]; exact ⟨Ne.symm h, h1⟩)
   ·exact .inr ⟨x :: a, b, rfl, by simp only [List.mem_cons, not_or]; exact ⟨Ne.symm h, h1⟩⟩
/-- texts put together, each behind a byte -/
def fm (c : UInt8) (l : List Str) : Str := l.flatMap fun s => c :: s
theorem fm_nil (c : UInt8) : fm c [] = [] := rfl
theorem fm_cons (c : UInt8) (s : Str) (l : List Str) : fm c (s :: l) = c :: (s ++ fm c l) := by simp [fm]
theorem fm_app (c : UInt8) (l l' : List Str) : fm c (l ++ l') = fm c l ++ fm c l' := by simp [fm]
theorem fm_spl (c : UInt8) : ∀ (s : Str), fm c (spl c s) = c :: s
 | [] => rfl
 | x :: s => by
  rw [spl]
  split
  ·rename_i h; rw [fm_cons, fm_spl c s, h]; rfl
  ·cases hx : spl c s with
   | nil => exact absurd hx (spl_ne c s)
   | cons h r =>
    have := fm_spl c s
    rw [hx, fm_cons] at this
    simp only [fm_cons, List.cons_append]
    rw [List.cons.injEq] at this
    rw [this.2]
theorem spl_fm {c : UInt8} : ∀ {l : List Str} {s : Str}, (∀ x ∈ s :: l, c ∉ x) → spl c (s ++ fm c l) = s :: l
 | [], s, h => by rw [fm_nil, List.append_nil, spl_none (h s (by simp))]
 | x :: l, s, h => by
  rw [fm_cons, spl_at (h s (by simp)), spl_fm (fun y hy => h y (by simp at hy ⊢; exact .inr hy))]
/-- the text of a path -/
def ptx (l : List Str) : Str := if l = [] then [47] else fm 47 l
/-- the path of a text -/
def pth : Str → Option (List Str)
 | [] => none
 | c :: r => if c = 47 then (if r = [] then some [] else some (spl 47 r)) else none
theorem ptx_pth {s : Str} {l : List Str} (h : pth s = some l) : ptx l = s := by
 cases s with
 | nil => cases h
 | cons c r =>
  rw [pth] at h
  split at h
  ·rename_i hc
   split at h
   ·rename_i hr; cases h; rw [hc, hr]; rfl
   ·rename_i hr
    cases h
    rw [ptx, if_neg (spl_ne _ _), fm_spl, hc]
  ·cases h
theorem name_no {s : Str} (h : nameOk s = true) : (47 : UInt8) ∉ s ∧ s ≠ [] := by
 simp only [nameOk, Bool.and_eq_true, decide_eq_true_eq, List.all_eq_true] at h
 refine ⟨fun h' => ?_, fun h' => ?_⟩
 ·have := h.2 47 h'
  exact absurd this (by decide)
 ·rw [h'] at h; simp at h
theorem pth_ptx {l : List Str} (h : ∀ s ∈ l, nameOk s = true) : pth (ptx l) = some l := by
 cases l with
 | nil => rfl
 | cons s l =>
  rw [ptx, if_neg (by simp), fm_cons, pth, if_pos rfl, if_neg (by
   have := (name_no (h s (by simp))).2
   cases s with
   | nil => exact absurd rfl this
   | cons a b => simp)]
  rw [spl_fm (fun x hx => (name_no (h x hx)).1)]
/-- the node with a path -/
def resO (t : List Nod) (s : Str) : Option Nat := (pth s).bind (loo t)
def oi : Option Nat → Int
 | some k => (k : Int)
 | none => -1
def res (t : List Nod) (s : Str) : Int := oi (resO t s)
variable {t : List Nod}
theorem resO_iff (h : VT t) {s : Str} {k : Nat} : resO t s = some k ↔ k < t.length ∧ ptx (np t k) = s := by
 unfold resO
 constructor
 ·intro e
  cases hp : pth s with
  | none => rw [hp] at e; cases e
  | some l =>
   rw [hp] at e
   obtain ⟨h1, h2⟩ := (loo_iff h).1 e
   exact ⟨h1, by rw [h2]; exact ptx_pth hp⟩
 ·rintro ⟨h1, rfl⟩
  rw [pth_ptx (np_names h k h1)]
  exact loo_np h h1
theorem resO_np (h : VT t) {k : Nat} (hk : k < t.length) : resO t (ptx (np t k)) = some k := (resO_iff h).2 ⟨hk, rfl⟩
theorem resO_none {s : Str} (h : VT t) : resO t s = none ↔ ∀ i, i < t.length → ptx (np t i) ≠ s := by
 constructor
 ·intro e i hi e'
  rw [(resO_iff h).2 ⟨hi, e'⟩] at e; cases e
 ·intro h'
  cases e : resO t s with
  | none => rfl
  | some k => obtain ⟨h1, h2⟩ := (resO_iff h).1 e; exact absurd h2 (h' k h1)
/-- the first node with a path -/
theorem res_first (h : VT t) (s : Str) : firstAt (fun i => decide (ptx (np t i) = s)) (List.range t.length) 0 = res t s := by
 rcases firstAt_spec (fun i => decide (ptx (np t i) = s)) 0 (List.range t.length) 0 with ⟨h1, h2⟩ | ⟨j, h1, h2, h3, _⟩
 ·rw [h1, res, (resO_none h).2 (fun i hi e => ?_)]; rfl
  have := h2 i (by simpa using hi)
  rw [List.getD_eq_getElem?_getD, List.getElem?_range hi] at this
  simp at this; exact this e
 ·have hj : j < t.length := by simpa using h1
  rw [List.getD_eq_getElem?_getD, List.getElem?_range hj] at h3
  rw [h2, res, (resO_iff h).2 ⟨hj, by simpa using h3⟩, Nat.zero_add]; rfl
/-- going down by the parts of a text -/
theorem res_desc (h : VT t) {c : UInt8} {r : Str} : res t (c :: r) = if c = 47 then (if r = [] then 0 else desc t 0 (spl 47 r)) else -1 := by
 have hlo := h.lo
 rw [res, resO, pth]
 split
 ·split
  ·show oi (loo t []) = 0
   rw [(loo_iff h).2 ⟨hlo, np_zero h⟩]; rfl
  ·show oi (loo t (spl 47 r)) = _
   have := desc_spec h (spl 47 r) 0 hlo
   rw [np_zero h, List.nil_append] at this
   rw [show ((0 : Nat) : Int) = 0 from rfl] at this
   rw [this]
   cases loo t (spl 47 r) <;> rfl
 ·rfl
theorem res_nil : res t [] = -1 := rfl
end
section
open Go
set_option linter.unusedVariables false
theorem u8wrap {x : Int} (h0 : 0 ≤ x) (h1 : x < 256) : IntKind.u8.wrap x = x := by
 unfold IntKind.wrap
 simp [IntKind.bits, IntKind.signed]
 omega
theorem dig_small {u : Nat} (h : u < 10) : Lib.decDigits u = [UInt8.ofNat (48 + u)] := by rw [Lib.decDigits, dif_pos h]
theorem dig_big {u : Nat} (h : ¬ u < 10) : Lib.decDigits u = Lib.decDigits (u / 10) ++ [UInt8.ofNat (48 + u % 10)] := by rw [Lib.decDigits, dif_neg h]
theorem ofNat_digit {u : Nat} (h : u < 10) : (UInt8.ofNat (48 + u)).toNat = 48 + u := by
 rw [UInt8.toNat_ofNat']; omega
theorem digits_ok : ∀ (u : Nat), ∀ b ∈ Lib.decDigits u, 48 ≤ b.toNat ∧ b.toNat ≤ 57 := by
 intro u
 induction u using Nat.strongRecOn with
 | ind u ih =>
  intro b hb
  by_cases h : u < 10
  ·rw [dig_small h, List.mem_singleton] at hb
   rw [hb, ofNat_digit h]; omega
  ·rw [dig_big h] at hb
   rcases List.mem_append.1 hb with h1 | h1
   ·exact ih _ (by omega) b h1
   ·rw [List.mem_singleton.1 h1, ofNat_digit (by omega)]; omega
theorem digits_ne (u : Nat) : Lib.decDigits u ≠ [] := by
 by_cases h : u < 10
 ·rw [dig_small h]; simp
 ·rw [dig_big h]; simp
theorem digits_len : ∀ (k u : Nat), u < 10 ^ (k + 1) → (Lib.decDigits u).length ≤ k + 1
 | 0, u, h => by rw [dig_small (by simpa using h)]; simp
 | k + 1, u, h => by
  by_cases h1 : u < 10
  ·rw [dig_small h1]; simp
  ·rw [dig_big h1, List.length_append]
   have := digits_len k (u / 10) (by rw [Nat.pow_succ] at h; omega)
   simp; omega
theorem itoa_ne (n : Int) : Lib.itoa n ≠ [] := by
 unfold Lib.itoa
 split
 ·simp
 ·exact digits_ne _
theorem itoa_len {n : Int} (h0 : -1000 ≤ n) (h1 : n ≤ 1000) : (Lib.itoa n).length ≤ 5 := by
 unfold Lib.itoa
 split
 ·have := digits_len 3 n.natAbs (by omega)
  simp; omega
 ·have := digits_len 3 n.toNat (by omega)
  omega
/-- parts with a semicolon and a space between two of them -/
def sepk (f : Nat → Str) : Nat → Str
 | 0 => []
 | k + 1 => sepk f k ++ (if 0 < k then [59, 32] else []) ++ f k
theorem sepk_len {f : Nat → Str} {B : Nat} : ∀ {k : Nat}, (∀ j, j < k → (f j).length ≤ B) → (sepk f k).length ≤ (B + 2) * k
 | 0, _ => by simp [sepk]
 | k + 1, h => by
  have h1 := sepk_len (f := f) (B := B) (k := k) (fun j hj => h j (by omega))
  have h2 := h k (by omega)
  rw [sepk, List.length_append, List.length_append, Nat.mul_succ]
  split <;> simp <;> omega
/-- a part of the text of a tree -/
def pcs (t : List Nod) (i : Nat) : Str := ptx (np t i) ++ 32 :: Lib.itoa (va t i)
def fmtT (t : List Nod) : Str := sepk (pcs t) t.length
end
section
open Go
theorem implName_ex (s : Str) : Ex (fun n => impl_isName n s) (· = nameOk s) := by
 unfold impl_isName
 cases hw : impl_within ((s.length : Nat) : Int) 1 4 with
 | false =>
  refine Ex.yes rfl (Ex.ret ?_)
  simp only [impl_within, Bool.and_eq_false_iff, decide_eq_false_iff_not] at hw
  rw [eq_comm, Bool.eq_false_iff]
  intro h
  simp only [nameOk, Bool.and_eq_true, decide_eq_true_eq] at h
  omega
 | true =>
  simp only [impl_within, Bool.and_eq_true, decide_eq_true_eq] at hw
  have e : nameOk s = s.all ch := by
   simp only [nameOk]
   rw [decide_eq_true (by omega), decide_eq_true (by omega)]; simp
  refine Ex.no rfl ?_
  refine Ex.be (a := if s.all ch = true then .inr () else .inl ()) ?_ ?_
  ·refine upU s.length (fun k => (s.drop k).all ch = s.all ch) ?_ ?_ 0 (Nat.zero_le _) (by simp)
   ·intro k hk hi next
    simp only [impl_isName_L1, Int.toNat_natCast]
    rw [all_split ch 0 hk] at hi
    refine Ex.yes (decide_eq_true (by omega)) (Ex.guard (by omega) ?_)
    refine Ex.be (a := !ch (s.getD k 0)) ?_ ?_
    ·refine Ex.ite (fun h => Ex.ret ?_) (fun h => Ex.guard (by omega) (Ex.ret ?_))
     ·have := of_decide_eq_true h
      rw [ch, decide_eq_false (by omega)]; rfl
     ·have := of_decide_eq_false h
      rw [ch, decide_eq_true (p := 97 ≤ _) (by omega), Bool.true_and]
      rcases Nat.lt_or_ge 122 (s.getD k 0).toNat with h | h
      ·rw [decide_eq_true (by omega), decide_eq_false (by omega)]; rfl
      ·rw [decide_eq_false (by omega), decide_eq_true (by omega)]; rfl
    ·cases hc : ch (s.getD k 0) with
     | false =>
      rw [hc, Bool.false_and] at hi
      refine Ex.yes rfl (Ex.ret ?_)
      rw [← hi]; rfl
     | true =>
      rw [hc, Bool.true_and] at hi
      rw [w64_succ (by omega)]
      exact Ex.no rfl (next hi)
   ·intro hi
    simp only [impl_isName_L1]
    refine Ex.no (decide_eq_false (by omega)) (Ex.ret ?_)
    rw [← hi]; simp
  ·rw [e]
   cases s.all ch with
   | true => exact Ex.ret rfl
   | false => exact Ex.ret rfl
theorem specName_ex {s : Str} (hs : s.length ≤ 1000000000000) : Ex (fun n => spec_validName n s) (· = nameOk s) := by
 unfold spec_validName
 refine Ex.be (a := if s.all ch = true then .inr () else .inl ()) ?_ ?_
 ·refine upU s.length (fun k => (s.drop k).all ch = s.all ch) ?_ ?_ 0 (Nat.zero_le _) (by simp)
  ·intro k hk hi next
   simp only [spec_validName_L1, Int.toNat_natCast]
   rw [all_split ch 0 hk] at hi
   refine Ex.yes (decide_eq_true (by omega)) (Ex.guard (by omega) ?_)
   have hlt := UInt8.toNat_lt (s.getD k 0)
   have e : spec_inRange (w64 ((s.getD k 0).toNat : Int)) 97 122 = ch (s.getD k 0) := by
    rw [w64_id (by omega) (by omega), spec_inRange, ch, Bool.eq_iff_iff]
    simp only [Bool.and_eq_true, decide_eq_true_eq]; omega
   rw [e]
   cases hc : ch (s.getD k 0) with
   | false =>
    rw [hc, Bool.false_and] at hi
    refine Ex.yes rfl (Ex.ret ?_)
    rw [← hi]; rfl
   | true =>
    rw [hc, Bool.true_and] at hi
    rw [w64_succ (by omega)]
    exact Ex.no rfl (next hi)
  ·intro hi
   simp only [spec_validName_L1]
   refine Ex.no (decide_eq_false (by omega)) (Ex.ret ?_)
   rw [← hi]; simp
 ·have e : spec_inRange ((s.length : Nat) : Int) 1 4 = (decide (1 ≤ s.length) && decide (s.length ≤ 4)) := by
   rw [spec_inRange, Bool.eq_iff_iff]
   simp only [Bool.and_eq_true, decide_eq_true_eq]; omega
  rw [nameOk, e]
  cases s.all ch with
  | true => exact Ex.ret (by simp)
  | false => exact Ex.ret (by simp)
theorem implKid_ex {l : List Nod} (hl : l.length ≤ 1000000000000) (p : Int) (s : Str) : Ex (fun n => impl_kidIn n l p s) (· = firstAt (sib p s) l 0) := by
 unfold impl_kidIn
 refine Ex.bind (P := fun v => (match v with | .inl i => i | .inr _ => -1) = firstAt (sib p s) l 0) ?_ ?_
 ·refine upU l.length (fun k => firstAt (sib p s) (l.drop k) k = firstAt (sib p s) l 0) ?_ ?_ 0 (Nat.zero_le _) rfl
  ·intro k hk hi next
   simp only [impl_kidIn_L1, Int.toNat_natCast]
   rw [drop_at dnod hk, firstAt] at hi
   refine Ex.yes (decide_eq_true (by omega)) (Ex.guard (by omega) ?_)
   refine Ex.ite (fun h => Ex.ret ?_) (fun h => ?_)
   ·have h : sib p s (l.getD k dnod) = true := h
    rw [if_pos h] at hi; exact hi
   ·have h : sib p s (l.getD k dnod) = false := h
    rw [if_neg (by rw [h]; simp)] at hi
    rw [w64_succ (by omega)]
    exact next hi
  ·intro hi
   simp only [impl_kidIn_L1]
   refine Ex.no (decide_eq_false (by omega)) (Ex.ret ?_)
   rw [List.drop_length, firstAt] at hi; exact hi
 ·intro v hv
  rcases v with i | u
  ·exact Ex.ret hv
  ·exact Ex.ret hv
theorem specKid_ex {l : List Nod} (hl : l.length ≤ 1000000000000) (p : Int) (s : Str) : Ex (fun n => spec_kid n l p s) (· = firstAt (sib p s) (l.drop 1) 1) := by
 unfold spec_kid
 refine Ex.bind (P := fun v => (match v with | .inl i => i | .inr _ => -1) = firstAt (sib p s) (l.drop 1) 1) ?_ ?_
 ·rcases Nat.eq_zero_or_pos l.length with hz | hz
  ·have : l = [] := List.eq_nil_of_length_eq_zero hz
   subst this
   refine Ex.succ ?_
   simp only [spec_kid_L1]
   exact Ex.no rfl (Ex.ret rfl)
  ·refine upU l.length (fun k => firstAt (sib p s) (l.drop k) k = firstAt (sib p s) (l.drop 1) 1) ?_ ?_ 1 hz rfl
   ·intro k hk hi next
    simp only [spec_kid_L1, Int.toNat_natCast]
    rw [drop_at dnod hk, firstAt] at hi
    refine Ex.yes (decide_eq_true (by omega)) (Ex.guard (by omega) ?_)
    refine Ex.be (a := sib p s (l.getD k dnod)) (Ex.ite (fun h => Ex.guard (by omega) (Ex.ret ?_)) (fun h => Ex.ret ?_)) ?_
    ·rw [sib, h]; simp
    ·rw [sib, h]; simp
    ·cases h : sib p s (l.getD k dnod) with
     | true => rw [if_pos h] at hi; exact Ex.yes rfl (Ex.ret hi)
     | false =>
      rw [if_neg (by rw [h]; simp)] at hi
      rw [w64_succ (by omega)]
      exact Ex.no rfl (next hi)
   ·intro hi
    simp only [spec_kid_L1]
    refine Ex.no (decide_eq_false (by omega)) (Ex.ret ?_)
    rw [List.drop_length, firstAt] at hi; exact hi
 ·intro v hv
  rcases v with i | u
  ·exact Ex.ret hv
  ·exact Ex.ret hv
theorem depth_loop {t : List Nod} (hl : t.length ≤ 1000000000) : ∀ (i : Nat) (d : Int), i < t.length → (∀ j, j ≤ i → PO t j) → 0 ≤ d → d + i ≤ 1000000000 →
  Ex (fun n => spec_depth_L1 t n (i : Int) d) (· = d + (dp t i : Nat)) := by
 intro i
 induction i using Nat.strongRecOn with
 | ind i ih =>
  intro d hi hp hd hdi
  refine Ex.succ ?_
  simp only [spec_depth_L1, Int.toNat_natCast]
  have hpi := hp i (Nat.le_refl _)
  refine Ex.guard (by omega) ?_
  rcases Nat.eq_zero_or_pos i with hz | hz
  ·have e : (t.getD i dnod).parent = -1 := by rw [PO, if_pos hz] at hpi; exact hpi
   refine Ex.no (decide_eq_false (by omega)) (Ex.ret ?_)
   rw [dp, dif_neg (by omega)]; simp
  ·rw [PO, if_neg (by omega)] at hpi
   refine Ex.yes (decide_eq_true hpi.1) (Ex.guard (by omega) ?_)
   rw [w64_id (by omega) (by omega)]
   have := ih (t.getD i dnod).parent.toNat hpi.2 (d + 1) (by omega) (fun j hj => hp j (by omega)) (by omega) (by omega)
   rw [Int.toNat_of_nonneg hpi.1] at this
   refine Ex.mono this ?_
   intro r hr
   rw [hr, dp.eq_1 t i, dif_pos hpi]; omega
theorem depth_ex {t : List Nod} (hl : t.length ≤ 400000000) {i : Nat} (hi : i < t.length) (hp : ∀ j, j ≤ i → PO t j) : Ex (fun n => spec_depth n t (i : Int)) (· = (dp t i : Nat)) := by
 unfold spec_depth
 refine Ex.be (depth_loop (by omega) i 0 hi hp (Int.le_refl 0) (by omega)) (Ex.ret (by simp))
theorem specNode_ex {t : List Nod} (hn : NL t) (hl : t.length ≤ 400000000) {i : Nat} (hi : i < t.length) (ho : okTo t i) : Ex (fun n => spec_validNode n t (i : Int)) (· = nodeOk t i) := by
 unfold spec_validNode
 simp only [Int.toNat_natCast]
 refine Ex.guard (by omega) ?_
 have e : spec_inRange (t.getD i dnod).value (-1000) 1000 = rv (t.getD i dnod).value := rfl
 rw [e, nodeOk]
 cases hr : rv (t.getD i dnod).value with
 | false => exact Ex.yes rfl (Ex.ret rfl)
 | true =>
  refine Ex.no rfl ?_
  rw [Bool.true_and]
  rcases Nat.eq_zero_or_pos i with hz | hz
  ·refine Ex.yes (decide_eq_true (by omega)) (Ex.guard (by omega) (Ex.be (a := decide ((t.getD i dnod).parent = -1) && decide ((t.getD i dnod).name = [])) ?_ (Ex.ret ?_)))
   ·refine Ex.ite (fun h => Ex.guard (by omega) (Ex.ret ?_)) (fun h => Ex.ret ?_)
    ·rw [h]; rfl
    ·rw [h]; rfl
   ·rw [if_pos hz]
  ·refine Ex.no (decide_eq_false (by omega)) (Ex.guard (by omega) ?_)
   rw [w64_id (by omega) (by omega), if_neg (by omega)]
   refine Ex.bind (P := fun r => r = _) ?_ (fun r hr => Ex.ret hr)
   have e2 : spec_inRange (t.getD i dnod).parent 0 ((i : Int) - 1) = (decide (0 ≤ (t.getD i dnod).parent) && decide ((t.getD i dnod).parent ≤ (i : Int) - 1)) := rfl
   rw [e2]
   refine Ex.ite (fun h => ?_) (fun h => ?_)
   ·rw [h, Bool.true_and]
    simp only [Bool.and_eq_true, decide_eq_true_eq] at h
    refine Ex.guard (by omega) (Ex.be (specName_ex (hn.2 _ (getD_mem hi))) ?_)
    refine Ex.ite (fun h1 => ?_) (fun h1 => ?_)
    ·rw [h1, Bool.true_and]
     refine Ex.guard (by omega) (Ex.guard (by omega) (Ex.guard (by omega) ?_))
     rw [List.drop_zero]
     refine Ex.be (specKid_ex (by simp; omega) _ _) ?_
     have h3 := no_root (nodeOk_PO (ho 0 hz)) h.1 (t.getD i dnod).name hz hi
     refine Ex.ite (fun h4 => ?_) (fun h4 => ?_)
     ·rw [h3.1 (of_decide_eq_true h4)]
      refine Ex.be (depth_ex hl hi (fun j hj => ?_)) (Ex.ret (by simp; omega))
      rcases Nat.eq_or_lt_of_le hj with rfl | hj
      ·rw [PO, if_neg (by omega)]; omega
      ·exact nodeOk_PO (ho j hj)
     ·have := of_decide_eq_false h4
      have h5 : (t.take i).any (sib (t.getD i dnod).parent (t.getD i dnod).name) = true := by
       rw [← Bool.not_eq_false]; exact fun h => this (h3.2 h)
      rw [h5]; exact Ex.ret rfl
    ·rw [h1]; exact Ex.ret rfl
   ·rw [h]; exact Ex.ret rfl
theorem specTree_ex {t : List Nod} (hn : NL t) (hl : t.length ≤ 400000000) : Ex (fun n => spec_validTree n t) (· = validT t) := by
 unfold spec_validTree
 refine Ex.be (a := if (List.range t.length).all (nodeOk t) = true then .inr () else .inl ()) ?_ ?_
 ·refine upU t.length (fun k => okTo t k) ?_ ?_ 0 (Nat.zero_le _) (fun j hj => by omega)
  ·intro k hk hi next
   simp only [spec_validTree_L1]
   refine Ex.yes (decide_eq_true (by omega)) (Ex.be (specNode_ex hn hl hk hi) ?_)
   cases h : nodeOk t k with
   | false =>
    refine Ex.yes rfl (Ex.ret ?_)
    rw [all_range_false hk h]; rfl
   | true =>
    rw [w64_succ (by omega)]
    refine Ex.no rfl (next (fun j hj => ?_))
    rcases Nat.eq_or_lt_of_le (Nat.le_of_lt_succ hj) with rfl | h1
    ·exact h
    ·exact hi j h1
  ·intro hi
   simp only [spec_validTree_L1]
   refine Ex.no (decide_eq_false (by omega)) (Ex.ret ?_)
   rw [all_range.2 hi]; rfl
 ·have e : spec_inRange ((t.length : Nat) : Int) 1 12 = (decide (1 ≤ t.length) && decide (t.length ≤ 12)) := by
   rw [spec_inRange, Bool.eq_iff_iff]
   simp only [Bool.and_eq_true, decide_eq_true_eq]; omega
  rw [validT, e]
  cases (List.range t.length).all (nodeOk t) with
  | true => exact Ex.ret (by simp)
  | false => exact Ex.ret (by simp)
theorem implTree_ex (t : List Nod) : Ex (fun n => impl_ValidTree n t) (· = validT t) := by
 unfold impl_ValidTree
 refine Ex.ite (fun h => Ex.ret ?_) (fun h => ?_)
 ·simp only [Bool.or_eq_true, decide_eq_true_eq] at h
  rw [eq_comm, Bool.eq_false_iff]
  intro h'
  simp only [validT, Bool.and_eq_true, decide_eq_true_eq] at h'
  omega
 ·simp only [Bool.or_eq_false_iff, decide_eq_false_iff_not] at h
  have hl : 1 ≤ t.length ∧ t.length ≤ 12 := by omega
  refine Ex.guard (by omega) ?_
  have hbad : (decide ((t.getD 0 dnod).parent = -1) && decide ((t.getD 0 dnod).name = [])) = false → validT t = false := by
   intro hf
   rw [Bool.eq_false_iff]
   intro h'
   simp only [validT, Bool.and_eq_true] at h'
   have := all_range.1 h'.2 0 (by omega)
   rw [nodeOk, if_pos rfl, hf, Bool.and_false] at this
   cases this
  refine Ex.be (a := !(decide ((t.getD 0 dnod).parent = -1) && decide ((t.getD 0 dnod).name = []))) ?_ ?_
  ·cases hp : decide ((t.getD 0 dnod).parent = -1) with
   | true => exact Ex.no rfl (Ex.guard (by omega) (Ex.ret rfl))
   | false => exact Ex.yes rfl (Ex.ret rfl)
  ·refine Ex.ite (fun hb => Ex.ret ?_) (fun hb => ?_)
   ·rw [hbad (notT hb)]
   ·have hroot : (decide ((t.getD 0 dnod).parent = -1) && decide ((t.getD 0 dnod).name = [])) = true := notF hb
    have e : validT t = (List.range t.length).all (nodeOk t) := by
     rw [validT, decide_eq_true hl.1, decide_eq_true hl.2]; simp
    refine Ex.guard (by omega) ?_
    refine Ex.be (a := if (List.range t.length).all (nodeOk t) = true then .inr () else .inl ()) ?_ ?_
    ·refine up t.length (fun k (ds : List Int) => ds.length = t.length ∧ okTo t k ∧ ∀ j, j < t.length → (j < k ∨ j = 0) → ds.getD j 0 = (dp t j : Nat)) (f := fun n ds i => impl_ValidTree_L1 t n ds i) ?_ ?_ 0 _ (Nat.zero_le _) ⟨by simp, fun j hj => by omega, ?_⟩
     ·rintro k ds hk ⟨h1, h2, h3⟩ next
      simp only [impl_ValidTree_L1, Int.toNat_natCast]
      refine Ex.yes (decide_eq_true (by omega)) ?_
      refine Ex.bind (P := fun v => (nodeOk t k = false ∧ v = .inl ()) ∨ (nodeOk t k = true ∧ ∃ ds' : List Int, v = .inr ds' ∧ (ds'.length = t.length ∧ ∀ j, j < t.length → (j < k + 1 ∨ j = 0) → ds'.getD j 0 = ((dp t j : Nat) : Int)))) ?_ ?_
      ·refine Ex.guard (by omega) ?_
       have e1 : impl_within (t.getD k dnod).value (-1000) 1000 = rv (t.getD k dnod).value := rfl
       rw [e1, nodeOk]
       cases hr : rv (t.getD k dnod).value with
       | false => exact Ex.yes rfl (Ex.ret (.inl ⟨rfl, rfl⟩))
       | true =>
        rw [Bool.true_and]
        refine Ex.no rfl ?_
        rcases Nat.eq_zero_or_pos k with hz | hz
        ·subst hz
         refine Ex.yes rfl (Ex.ret (.inr ⟨?_, ds, rfl, h1, fun j hj hj' => h3 j hj (by omega)⟩))
         rw [if_pos rfl]; exact hroot
        ·refine Ex.no (decide_eq_false (by omega)) ?_
         rw [if_neg (by omega), w64_id (by omega) (by omega)]
         have e2 : impl_within (t.getD k dnod).parent 0 ((k : Int) - 1) = (decide (0 ≤ (t.getD k dnod).parent) && decide ((t.getD k dnod).parent ≤ (k : Int) - 1)) := rfl
         rw [e2]
         refine Ex.be (a := !((decide (0 ≤ (t.getD k dnod).parent) && decide ((t.getD k dnod).parent ≤ (k : Int) - 1)) && nameOk (t.getD k dnod).name)) ?_ ?_
         ·cases (decide (0 ≤ (t.getD k dnod).parent) && decide ((t.getD k dnod).parent ≤ (k : Int) - 1)) with
          | false => exact Ex.yes rfl (Ex.ret rfl)
          | true => exact Ex.no rfl (Ex.be (implName_ex _) (Ex.ret rfl))
         ·rw [← Bool.and_assoc]
          refine Ex.ite (fun hb1 => ?_) (fun hb1 => ?_)
          ·rw [show ((decide (0 ≤ (t.getD k dnod).parent) && decide ((t.getD k dnod).parent ≤ (k : Int) - 1)) && nameOk (t.getD k dnod).name) = false from notT hb1]
           exact Ex.ret (.inl ⟨rfl, rfl⟩)
          ·have hb2 : ((decide (0 ≤ (t.getD k dnod).parent) && decide ((t.getD k dnod).parent ≤ (k : Int) - 1)) && nameOk (t.getD k dnod).name) = true := notF hb1
           rw [hb2, Bool.true_and]
           simp only [Bool.and_eq_true, decide_eq_true_eq] at hb2
           refine Ex.guard (by omega) ?_
           rw [List.drop_zero]
           refine Ex.be (implKid_ex (by simp; omega) _ _) ?_
           have hf := firstAt_iff (sib (t.getD k dnod).parent (t.getD k dnod).name) (t.take k) 0
           refine Ex.ite (fun h4 => ?_) (fun h4 => ?_)
           ·rw [hf.1 (of_decide_eq_true h4)]; exact Ex.ret (.inl ⟨rfl, rfl⟩)
           ·have h5 : (t.take k).any (sib (t.getD k dnod).parent (t.getD k dnod).name) = false := by
             rw [← Bool.not_eq_true, ← hf]; exact of_decide_eq_false h4
            rw [h5]
            refine Ex.guard (by omega) (Ex.guard (by omega) (Ex.guard (by simp; omega) ?_))
            have e3 := h3 (t.getD k dnod).parent.toNat (by omega) (.inl (by omega))
            have e4 : dp t k = dp t (t.getD k dnod).parent.toNat + 1 := by rw [dp.eq_1 t k, dif_pos (by omega)]
            have e5 := dp_le (t := t) (t.getD k dnod).parent.toNat
            have e6 : w64 (ds.getD (t.getD k dnod).parent.toNat 0 + 1) = (dp t k : Nat) := by
             rw [e3, w64_id (by omega) (by omega)]; omega
            refine Ex.ite (fun h6 => ?_) (fun h6 => ?_)
            ·have := of_decide_eq_true h6
             rw [getD_set' (by omega), if_pos rfl, e6] at this
             rw [decide_eq_false (by omega)]; exact Ex.ret (.inl ⟨rfl, rfl⟩)
            ·have := of_decide_eq_false h6
             rw [getD_set' (by omega), if_pos rfl, e6] at this
             rw [decide_eq_true (by omega), e6]
             refine Ex.ret (.inr ⟨rfl, _, rfl, by simpa using h1, fun j hj hj' => ?_⟩)
             rw [getD_set' (by omega)]
             split
             ·rename_i e; subst e; omega
             ·exact h3 j hj (by omega)
      ·rintro v (⟨hf, rfl⟩ | ⟨hf, ds', rfl, h4, h5⟩)
       ·refine Ex.ret ?_
        rw [all_range_false hk hf]; rfl
       ·show Ex (fun n => impl_ValidTree_L1 t n ds' (w64 ((k : Int) + 1))) _
        rw [w64_succ (by omega)]
        refine next ds' ⟨h4, fun j hj => ?_, h5⟩
        rcases Nat.eq_or_lt_of_le (Nat.le_of_lt_succ hj) with rfl | h6
        ·exact hf
        ·exact h2 j h6
     ·rintro ds ⟨h1, h2, h3⟩
      simp only [impl_ValidTree_L1]
      refine Ex.no (decide_eq_false (by omega)) (Ex.ret ?_)
      rw [all_range.2 h2]; rfl
     ·intro j hj hj'
      obtain rfl : j = 0 := by omega
      have hp : (t.getD 0 dnod).parent = -1 := by simpa using (Bool.and_eq_true_iff.1 hroot).1
      rw [dp, dif_neg (by omega), List.getD_eq_getElem?_getD, List.getElem?_replicate]
      split
      ·rfl
      ·rfl
    ·rw [e]
     cases (List.range t.length).all (nodeOk t) with
     | true => exact Ex.ret rfl
     | false => exact Ex.ret rfl
end
section
open Go
set_option linter.unusedVariables false
def nix (t : List Nod) (i : Nat) : List Int := (ix t i).map fun (k : Nat) => (k : Int)
theorem nix_len {t : List Nod} (i : Nat) : (nix t i).length = dp t i + 1 := by rw [nix, List.length_map, (np_ix i).2]
theorem ix_lt {t : List Nod} (h : VT t) : ∀ i, i < t.length → ∀ k ∈ ix t i, k < t.length := by
 intro i
 induction i using Nat.strongRecOn with
 | ind i ih =>
  intro hi k hk
  rcases Nat.eq_zero_or_pos i with rfl | h0
  ·rw [ix, dif_neg (by omega)] at hk
   rw [List.mem_singleton.1 hk]; exact hi
  ·rw [ix_pos h h0 hi] at hk
   have p := h.par i h0 hi
   rcases List.mem_append.1 hk with h1 | h1
   ·exact ih _ p.2 (by omega) k h1
   ·rw [List.mem_singleton.1 h1]; exact hi
theorem ix_names {t : List Nod} (i : Nat) : ((ix t i).drop 1).map (nmo t) = np t i := by
 rw [List.map_drop, (np_ix i).1]; rfl
theorem specPathTo_ex {t : List Nod} (h : VT t) {i : Nat} (hi : i < t.length) : Ex (fun n => spec_pathTo n t (i : Int)) (· = nix t i) := by
 have key : ∀ i, i < t.length → ∀ r : List Int, r.length + i ≤ 100 → Ex (fun n => spec_pathTo_L1 t n ((i : Int) :: r) (i : Int)) (· = nix t i ++ r) := by
  intro i
  induction i using Nat.strongRecOn with
  | ind i ih =>
   intro hi r hr
   refine Ex.succ ?_
   simp only [spec_pathTo_L1]
   rcases Nat.eq_zero_or_pos i with rfl | h0
   ·refine Ex.no (decide_eq_false (by omega)) (Ex.ret ?_)
    rw [nix, ix, dif_neg (by omega)]; rfl
   ·have p := h.par i h0 hi
    refine Ex.yes (decide_eq_true (by omega)) (Ex.guard (by omega) (Ex.guard (by simp; omega) ?_))
    rw [view_all, Int.toNat_natCast]
    have e : (t.getD i dnod).parent = (((pa t i).toNat : Nat) : Int) := by rw [Int.toNat_of_nonneg p.1]; rfl
    rw [e]
    have := ih _ p.2 (by omega) ((i : Int) :: r) (by simp; omega)
    refine Ex.mono this ?_
    rintro x rfl
    rw [nix, nix, ix_pos h h0 hi]; simp
 unfold spec_pathTo
 refine Ex.be (a := nix t i) ?_ (Ex.ret rfl)
 have := key i hi [] (by have := h.hi; simp; omega)
 rwa [List.append_nil] at this
theorem name_len {s : Str} (h : nameOk s = true) : s.length ≤ 4 := by
 simp only [nameOk, Bool.and_eq_true, decide_eq_true_eq] at h; exact h.1.2
theorem fm_len {c : UInt8} : ∀ {l : List Str}, (∀ s ∈ l, nameOk s = true) → (fm c l).length ≤ 5 * l.length
 | [], _ => by simp [fm_nil]
 | s :: l, h => by
  have := name_len (h s (by simp))
  have := fm_len (c := c) (l := l) (fun x hx => h x (by simp [hx]))
  rw [fm_cons]; simp only [List.length_cons, List.length_append]; omega
theorem np_le {t : List Nod} (h : VT t) {i : Nat} (hi : i < t.length) : (np t i).length ≤ 4 := by rw [np_len]; exact h.dep i hi
theorem ptx_len {t : List Nod} (h : VT t) {i : Nat} (hi : i < t.length) : (ptx (np t i)).length ≤ 20 := by
 have := np_le h hi
 rw [ptx]
 split
 ·simp
 ·have := fm_len (c := 47) (np_names h i hi); omega
theorem np_nil {t : List Nod} (h : VT t) {i : Nat} (hi : i < t.length) : np t i = [] ↔ i = 0 := by
 constructor
 ·intro e
  rcases Nat.eq_zero_or_pos i with rfl | h0
  ·rfl
  ·rw [np_pos h h0 hi] at e; simp at e
 ·rintro rfl; exact np_zero h
theorem nix_at {t : List Nod} (h : VT t) {i : Nat} (hi : i < t.length) {k : Nat} (hk : k < (ix t i).length) : (nix t i).getD k 0 = (((ix t i).getD k 0 : Nat) : Int) ∧ (ix t i).getD k 0 < t.length := by
 refine ⟨?_, ix_lt h i hi _ (getD_mem hk)⟩
 rw [nix, List.getD_eq_getElem?_getD, List.getElem?_map, List.getD_eq_getElem?_getD, List.getElem?_eq_getElem hk]; rfl
theorem specPathText_ex {t : List Nod} (h : VT t) {i : Nat} (hi : i < t.length) : Ex (fun n => spec_pathText n t (i : Int)) (· = ptx (np t i)) := by
 unfold spec_pathText
 refine Ex.be (specPathTo_ex h hi) (Ex.be (a := fm 47 (np t i)) ?_ ?_)
 ·have hlen : (ix t i).length = (nix t i).length := by simp [nix]
  have hd := np_le h hi
  have hl2 := (np_ix (t := t) i).2
  rw [np_len] at hd
  refine up (nix t i).length (fun k (s : Str) => s ++ fm 47 (((ix t i).drop k).map (nmo t)) = fm 47 (np t i) ∧ s.length ≤ 5 * k) (f := fun n s i' => spec_pathText_L1 t i (nix t i) n s i') ?_ ?_ 1 [] (by omega) ⟨by rw [ix_names]; rfl, by simp⟩
  ·rintro k s hk ⟨h1, h2⟩ next
   obtain ⟨a1, a2⟩ := nix_at h hi (k := k) (by omega)
   have hnm : (nmo t ((ix t i).getD k 0)).length ≤ 4 := by
    rcases Nat.eq_zero_or_pos ((ix t i).getD k 0) with e | e
    ·rw [e, h.rn]; simp
    ·exact name_len (h.nam _ e a2)
   simp only [spec_pathText_L1, Int.toNat_natCast, a1]
   rw [nmo] at hnm
   refine Ex.yes (decide_eq_true (by omega)) (Ex.guard (by simp; omega) (Ex.guard (by omega) (Ex.guard (by omega) (Ex.guard (by simp only [List.length_append, List.length_singleton]; omega) ?_))))
   rw [w64_succ (by omega)]
   refine next _ ⟨?_, by simp only [List.length_append, List.length_singleton]; omega⟩
   rw [← h1, drop_at 0 (show k < (ix t i).length by omega), List.map_cons, fm_cons, nmo]
   simp
  ·rintro s ⟨h1, h2⟩
   simp only [spec_pathText_L1]
   refine Ex.no (decide_eq_false (by omega)) (Ex.ret ?_)
   rw [← h1, List.drop_eq_nil_of_le (by omega)]; simp [fm_nil]
 ·rw [ptx]
  refine Ex.ite (fun hb => Ex.ret ?_) (fun hb => Ex.ret ?_)
  ·have := of_decide_eq_true hb
   rw [if_pos ((np_nil h hi).2 (by omega))]
  ·have := of_decide_eq_false hb
   rw [if_neg (fun e => this (by rw [(np_nil h hi).1 e]; rfl))]
theorem implNode_ex {t : List Nod} (hl : t.length ≤ 1000000000000) (i : Int) : Ex (fun n => impl_isNode n t i) (· = (decide (0 ≤ i ∧ i < t.length) && validT t)) := by
 unfold impl_isNode
 rw [w64_id (by omega) (by omega)]
 refine Ex.bind (P := fun r => r = _) ?_ (fun r hr => Ex.ret hr)
 have e : impl_within i 0 ((t.length : Int) - 1) = decide (0 ≤ i ∧ i < t.length) := by
  rw [impl_within, Bool.eq_iff_iff]; simp only [Bool.and_eq_true, decide_eq_true_eq]; omega
 rw [e]
 refine Ex.ite (fun hb => ?_) (fun hb => ?_)
 ·rw [hb, Bool.true_and]; exact Ex.be (implTree_ex t) (Ex.ret rfl)
 ·rw [hb]; exact Ex.ret rfl
theorem reverse_ex (x : List Int) (hx : x.length ≤ 1000000) : Ex (fun n => slices_Reverse_int_int n x x.length) (· = x.reverse) := by
 have key : ∀ (m i j : Nat) (s : List Int), i + j + 1 = x.length → j ≤ m + i → s.length = x.length → (∀ k, k < x.length → s.getD k 0 = if k < i ∨ j < k then x.reverse.getD k 0 else x.getD k 0) → Ex (fun n => slices_Reverse_int_int_L1 x.length n s i j) (· = x.reverse) := by
  intro m
  induction m with
  | zero =>
   intro i j s h1 h2 h3 h4
   refine Ex.succ ?_
   simp only [slices_Reverse_int_int_L1]
   refine Ex.no (decide_eq_false (by omega)) (Ex.ret ?_)
   refine List.ext_getElem (by simpa using h3) (fun k k1 k2 => ?_)
   have := h4 k (by omega)
   rw [List.getD_eq_getElem?_getD, List.getElem?_eq_getElem k1] at this
   simp only [Option.getD_some] at this
   rw [this]
   split
   ·rw [List.getD_eq_getElem?_getD, List.getElem?_eq_getElem k2]; rfl
   ·have e : k = i ∧ k = j := by omega
    rw [List.getElem_reverse, List.getD_eq_getElem?_getD, List.getElem?_eq_getElem (by omega)]
    simp only [Option.getD_some]
    congr 1; omega
  | succ m ih =>
   intro i j s h1 h2 h3 h4
   rcases Nat.lt_or_ge i j with hij | hij
   ·refine Ex.succ ?_
    simp only [slices_Reverse_int_int_L1, Int.toNat_natCast]
    refine Ex.yes (decide_eq_true (by omega)) (Ex.guard (by omega) (Ex.guard (by omega) (Ex.guard (by omega) (Ex.guard (by omega) ?_))))
    have e : w64 ((j : Int) - 1) = ((j - 1 : Nat) : Int) := by rw [w64_id (by omega) (by omega)]; omega
    rw [w64_succ (by omega), e]
    refine ih (i + 1) (j - 1) _ (by omega) (by omega) (by simpa using h3) (fun k hk => ?_)
    rw [getD_set' (by simp; omega), getD_set' (by omega)]
    have r : ∀ a, a < x.length → x.reverse.getD a 0 = x.getD (x.length - 1 - a) 0 := by
     intro a ha
     rw [List.getD_eq_getElem?_getD, List.getElem?_reverse ha, List.getD_eq_getElem?_getD]
    split
    ·rename_i hjk
     subst hjk
     rw [if_pos (by omega), h4 i (by omega), if_neg (by omega), r j (by omega)]
     congr 1; omega
    ·split
     ·rename_i hik
      subst hik
      rw [if_pos (by omega), h4 j (by omega), if_neg (by omega), r i (by omega)]
      congr 1; omega
     ·rw [h4 k hk]
      split
      ·rw [if_pos (by omega)]
      ·rw [if_neg (by omega)]
   ·exact ih i j s h1 (by omega) h3 h4
 unfold slices_Reverse_int_int
 refine Ex.be (a := x.reverse) ?_ (Ex.ret rfl)
 rcases Nat.eq_zero_or_pos x.length with h0 | h0
 ·have : x = [] := List.eq_nil_of_length_eq_zero h0
  subst this
  refine Ex.succ ?_
  simp only [slices_Reverse_int_int_L1]
  exact Ex.no (by decide) (Ex.ret rfl)
 ·have e : w64 ((x.length : Int) - 1) = ((x.length - 1 : Nat) : Int) := by rw [w64_id (by omega) (by omega)]; omega
  rw [e]
  exact key x.length 0 (x.length - 1) x (by omega) (by omega) rfl (fun k hk => by rw [if_neg (by omega)])
theorem implPathTo_ex {t : List Nod} (hl : t.length ≤ 1000000000000) (i : Int) : Ex (fun n => impl_PathTo n t i) (· = if (decide (0 ≤ i ∧ i < t.length) && validT t) = true then nix t i.toNat else []) := by
 unfold impl_PathTo
 refine Ex.be (implNode_ex hl i) ?_
 refine Ex.ite (fun hb => Ex.ret ?_) (fun hb => ?_)
 ·rw [notT hb]; rfl
 ·have hb := notF hb
  rw [if_pos hb]
  simp only [Bool.and_eq_true, decide_eq_true_eq] at hb
  obtain ⟨⟨h0, h1⟩, hv⟩ := hb
  have h := validT_iff.1 hv
  have hhi := h.hi
  obtain ⟨k, rfl⟩ : ∃ k : Nat, i = (k : Int) := ⟨i.toNat, by omega⟩
  rw [Int.toNat_natCast]
  have hk : k < t.length := by omega
  have key : ∀ i, i < t.length → ∀ r : List Int, r.length + i ≤ 100 → Ex (fun n => impl_PathTo_L1 t n r (i : Int)) (· = r ++ (nix t i).reverse) := by
   intro i
   induction i using Nat.strongRecOn with
   | ind i ih =>
    intro hi r hr
    refine Ex.succ ?_
    simp only [impl_PathTo_L1, Int.toNat_natCast]
    refine Ex.yes (decide_eq_true (by omega)) (Ex.guard (by simp; omega) (Ex.guard (by omega) ?_))
    rcases Nat.eq_zero_or_pos i with rfl | h0
    ·have e : (t.getD 0 dnod).parent = -1 := h.rp
     rw [e]
     refine Ex.succ ?_
     simp only [impl_PathTo_L1]
     refine Ex.no (by decide) (Ex.ret ?_)
     rw [nix, ix, dif_neg (by omega)]; simp
    ·have p := h.par i h0 hi
     have e : (t.getD i dnod).parent = (((pa t i).toNat : Nat) : Int) := by rw [Int.toNat_of_nonneg p.1]; rfl
     rw [e]
     have := ih _ p.2 (by omega) (r ++ ([(i : Int)].drop 0).take [(i : Int)].length) (by simp; omega)
     refine Ex.mono this ?_
     rintro x rfl
     rw [nix, nix, ix_pos h h0 hi]; simp
  have hlen := nix_len (t := t) k
  have := h.dep k hk
  refine Ex.be (a := (nix t k).reverse) ?_ (Ex.be (reverse_ex _ (by simp; omega)) (Ex.guard (by simp) (Ex.ret (by simp))))
  have := key k hk [] (by simp; omega)
  rwa [List.nil_append] at this
def ib (s : Str) : List Int := s.map fun b => ((b.toNat : Nat) : Int)
theorem ib_app (a b : Str) : ib (a ++ b) = ib a ++ ib b := by simp [ib]
theorem bytes_ib (s : Str) : bytesOf (ib s) = s := by
 induction s with
 | nil => rfl
 | cons a s ih =>
  have : bytesOf (ib (a :: s)) = UInt8.ofNat ((a.toNat : Int)).toNat :: bytesOf (ib s) := rfl
  rw [this, ih, Int.toNat_natCast, UInt8.ofNat_toNat]
theorem ib_ok (s : Str) : ∀ x ∈ ib s, 0 ≤ x ∧ x ≤ 255 := by
 intro x hx
 obtain ⟨b, _, rfl⟩ := List.mem_map.1 hx
 have := UInt8.toNat_lt b
 omega
theorem ib_len (s : Str) : (ib s).length = s.length := by simp [ib]
theorem wByte {s : Str} (hs : s.length ≤ 1000000000000) (c : UInt8) {i : Int} (hi : i = (c.toNat : Int)) : strings_Builder_WriteByte (ib s) i = some (ib (s ++ [c])) := by
 unfold strings_Builder_WriteByte
 rw [guardO_pos ⟨rfl, rfl, by simp [ib]; omega⟩, ib_app, hi]; rfl
theorem wStr {s r : Str} (hs : s.length + r.length ≤ 1000000000000) : strings_Builder_WriteString (ib s) r = some (ib (s ++ r), (r.length : Int)) := by
 unfold strings_Builder_WriteString
 rw [guardO_pos ⟨rfl, rfl, by simp [ib]; omega⟩, ib_app]; rfl
theorem bStr (s : Str) : strings_Builder_String (ib s) = some (s.length, s) := by
 unfold strings_Builder_String
 rw [guardO_pos ⟨rfl, ib_ok s⟩, bytes_ib, ib_len]
/-- the path of a node, as a text -/
def pathT (t : List Nod) (i : Int) : Str := if (decide (0 ≤ i ∧ i < t.length) && validT t) = true then ptx (np t i.toNat) else []
theorem pathT_of {t : List Nod} (h : VT t) {i : Nat} (hi : i < t.length) : pathT t i = ptx (np t i) := by
 rw [pathT, if_pos (by rw [decide_eq_true (by omega), validT_iff.2 h]; rfl), Int.toNat_natCast]
theorem implPathText_ex {t : List Nod} (hl : t.length ≤ 1000000000000) (i : Int) : Ex (fun n => impl_PathText n t i) (· = pathT t i) := by
 unfold impl_PathText
 refine Ex.be (implPathTo_ex hl i) ?_
 rw [pathT]
 cases hb : (decide (0 ≤ i ∧ i < t.length) && validT t) with
 | false => exact Ex.yes rfl (Ex.ret rfl)
 | true =>
  rw [if_pos rfl, if_pos rfl]
  simp only [Bool.and_eq_true, decide_eq_true_eq] at hb
  obtain ⟨⟨h0, h1⟩, hv⟩ := hb
  have h := validT_iff.1 hv
  obtain ⟨k, rfl⟩ : ∃ k : Nat, i = (k : Int) := ⟨i.toNat, by omega⟩
  rw [Int.toNat_natCast]
  have hk : k < t.length := by omega
  have hlen := nix_len (t := t) k
  have hlen2 : (ix t k).length = (nix t k).length := by simp [nix]
  have hd := h.dep k hk
  refine Ex.no (decide_eq_false (by omega)) ?_
  rcases Nat.eq_zero_or_pos k with rfl | hk0
  ·have : dp t 0 = 0 := by have := dp_le (t := t) 0; omega
   refine Ex.yes (decide_eq_true (by omega)) (Ex.ret ?_)
   rw [np_zero h]; rfl
  ·have := dp_pos h hk0 hk
   refine Ex.no (decide_eq_false (by omega)) (Ex.guard (by omega) (Ex.be (a := ib (fm 47 (np t k))) ?_ (Ex.bc (bStr _) (Ex.ret ?_))))
   ·refine up ((nix t k).length - 1) (fun j (x : List Int) => ∃ s : Str, x = ib s ∧ s ++ fm 47 (((ix t k).drop (1 + j)).map (nmo t)) = fm 47 (np t k) ∧ s.length ≤ 5 * j) (f := fun n s i' => impl_PathText_L1 t (nix t k) n s i') ?_ ?_ 0 [] (by omega) ⟨[], rfl, by rw [ix_names]; rfl, by simp⟩
    ·rintro j _ hj ⟨s, rfl, h1, h2⟩ next
     obtain ⟨a1, a2⟩ := nix_at h hk (k := 1 + j) (by omega)
     have hnm : (nmo t ((ix t k).getD (1 + j) 0)).length ≤ 4 := by
      rcases Nat.eq_zero_or_pos ((ix t k).getD (1 + j) 0) with e | e
      ·rw [e, h.rn]; simp
      ·exact name_len (h.nam _ e a2)
     rw [nmo] at hnm
     simp only [impl_PathText_L1, Int.toNat_natCast, a1]
     refine Ex.yes (decide_eq_true (by omega)) (Ex.guard (by omega) (Ex.bc (wByte (by omega) 47 rfl) (Ex.guard (by omega) (Ex.bc (wStr (by simp only [List.length_append, List.length_singleton]; omega)) ?_))))
     rw [w64_succ (by omega)]
     refine next _ ⟨_, rfl, ?_, by simp only [List.length_append, List.length_singleton]; omega⟩
     rw [← h1, drop_at 0 (show 1 + j < (ix t k).length by omega), List.map_cons, fm_cons, nmo]
     simp [Nat.add_assoc]
    ·rintro _ ⟨s, rfl, h1, h2⟩
     simp only [impl_PathText_L1]
     refine Ex.no (decide_eq_false (by omega)) (Ex.ret ?_)
     rw [← h1, List.drop_eq_nil_of_le (by omega)]; simp [fm_nil]
   ·rw [ptx, if_neg (by rw [np_nil h hk]; omega)]
end
section
open Go
set_option linter.unusedVariables false
theorem decNat_ex : ∀ (u : Nat), u ≤ 9223372036854775807 → Ex (fun n => spec_decimal n (u : Int)) (· = Lib.decDigits u) := by
 intro u
 induction u using Nat.strongRecOn with
 | ind u ih =>
  intro hu
  refine Ex.succ ?_
  simp only [spec_decimal]
  unfold spec_decimal_B
  refine Ex.no (by rw [decide_eq_false (by omega)]; rfl) (Ex.no (decide_eq_false (by omega)) ?_)
  by_cases h : u < 10
  ·refine Ex.yes (decide_eq_true (by omega)) (Ex.ret ?_)
   rw [w64_id (by omega) (by omega), u8wrap (by omega) (by omega), dig_small h]
   show [UInt8.ofNat (48 + (u : Int)).toNat] = _
   congr 2
  ·have e1 : ((u : Int)).tdiv 10 = ((u / 10 : Nat) : Int) := by rw [Int.tdiv_eq_ediv_of_nonneg (by omega)]; omega
   have e2 : ((u : Int)).tmod 10 = ((u % 10 : Nat) : Int) := by rw [Int.tmod_eq_emod_of_nonneg (by omega)]; omega
   have hlen := digits_len 19 (u / 10) (by omega)
   refine Ex.no (decide_eq_false (by omega)) ?_
   rw [e1, e2, w64_id (n := ((u / 10 : Nat) : Int)) (by omega) (by omega), w64_id (n := 48 + ((u % 10 : Nat) : Int)) (by omega) (by omega), u8wrap (by omega) (by omega)]
   refine Ex.be (ih (u / 10) (by omega) (by omega)) (Ex.guard ?_ (Ex.ret ?_))
   ·show (Lib.decDigits (u / 10)).length + 1 ≤ _
    omega
   ·rw [dig_big h]
    show _ ++ [UInt8.ofNat (48 + ((u % 10 : Nat) : Int)).toNat] = _
    congr 3
theorem decimal_ex {x : Int} (h0 : -9223372036854775807 ≤ x) (h1 : x ≤ 9223372036854775807) : Ex (fun n => spec_decimal n x) (· = Lib.itoa x) := by
 rcases Int.lt_or_le x 0 with h | h
 ·refine Ex.succ ?_
  simp only [spec_decimal]
  unfold spec_decimal_B
  have e : w64 (0 - x) = ((x.natAbs : Nat) : Int) := by rw [w64_id (by omega) (by omega)]; omega
  rw [e]
  have hlen := digits_len 19 x.natAbs (by omega)
  refine Ex.no (by rw [decide_eq_false (p := x = _) (by omega)]; simp) (Ex.yes (decide_eq_true h) (Ex.be (decNat_ex x.natAbs (by omega)) (Ex.guard (by simp; omega) (Ex.ret ?_))))
  unfold Lib.itoa
  rw [if_pos h]; rfl
 ·obtain ⟨u, rfl⟩ : ∃ u : Nat, x = (u : Int) := ⟨x.toNat, by omega⟩
  have := decNat_ex u (by omega)
  unfold Lib.itoa
  rw [if_neg (by omega), Int.toNat_natCast]
  exact this
theorem itoa_some {x : Int} (h0 : -9223372036854775808 ≤ x) (h1 : x ≤ 9223372036854775807) : strconv_Itoa x = some (Lib.itoa x) := by
 unfold strconv_Itoa
 rw [guardO_pos ⟨h0, h1⟩]
theorem pcs_len {t : List Nod} (h : VT t) {i : Nat} (hi : i < t.length) : (pcs t i).length ≤ 30 := by
 have h1 := ptx_len h hi
 have h2 := h.val i hi
 have h3 := itoa_len h2.1 h2.2
 rw [pcs]; simp; omega
theorem sep_len {t : List Nod} (h : VT t) {k : Nat} (hk : k ≤ t.length) : (sepk (pcs t) k).length ≤ 32 * k := sepk_len (B := 30) (fun j hj => pcs_len h (by omega))
theorem specFmt_ex {t : List Nod} (h : VT t) : Ex (fun n => spec_formatTree n t) (· = fmtT t) := by
 have hhi := h.hi
 unfold spec_formatTree
 refine Ex.be (a := fmtT t) ?_ (Ex.ret rfl)
 refine up t.length (fun k (s : Str) => s = sepk (pcs t) k) (f := fun n s i => spec_formatTree_L1 t n s i) ?_ ?_ 0 [] (Nat.zero_le _) rfl
 ·rintro k _ hk rfl next
  have hl := sep_len h (Nat.le_of_lt hk)
  have h1 := ptx_len h hk
  have h2 := h.val k hk
  have h3 := itoa_len h2.1 h2.2
  simp only [spec_formatTree_L1, Int.toNat_natCast]
  refine Ex.yes (decide_eq_true (by omega)) (Ex.be (a := sepk (pcs t) k ++ if 0 < k then [59, 32] else []) ?_ ?_)
  ·refine Ex.ite (fun hb => ?_) (fun hb => Ex.ret ?_)
   ·have := of_decide_eq_true hb
    rw [if_pos (by omega)]
    exact Ex.guard (by simp; omega) (Ex.ret rfl)
   ·have := of_decide_eq_false hb
    rw [if_neg (by omega), List.append_nil]
  ·have hl2 : (sepk (pcs t) k ++ if 0 < k then [59, 32] else []).length ≤ 32 * k + 2 := by
    rw [List.length_append]; split <;> simp <;> omega
   generalize hg : (sepk (pcs t) k ++ if 0 < k then [59, 32] else []) = s at hl2 ⊢
   refine Ex.be (specPathText_ex h hk) (Ex.guard (by omega) (Ex.guard (by simp only [List.length_append, List.length_singleton]; omega) (Ex.guard (by omega) (Ex.be (decimal_ex (x := (t.getD k dnod).value) (by have := h2.1; simp only [va] at this; omega) (by have := h2.2; simp only [va] at this; omega)) (Ex.guard ?_ ?_)))))
   ·have : (Lib.itoa (t.getD k dnod).value).length ≤ 5 := h3
    simp only [List.length_append, List.length_singleton]; omega
   ·rw [w64_succ (by omega)]
    refine next _ ?_
    rw [sepk, hg, pcs, va]
    simp
 ·rintro _ rfl
  simp only [spec_formatTree_L1]
  exact Ex.no (decide_eq_false (by omega)) (Ex.ret rfl)
def fmtR (t : List Nod) : Str := if validT t = true then fmtT t else []
theorem implFormat_ex (t : List Nod) : Ex (fun n => impl_FormatTree n t) (· = fmtR t) := by
 unfold impl_FormatTree fmtR
 refine Ex.be (implTree_ex t) ?_
 cases hv : validT t with
 | false => exact Ex.yes rfl (Ex.ret rfl)
 | true =>
  have h := validT_iff.1 hv
  have hhi := h.hi
  rw [if_pos rfl]
  refine Ex.no rfl (Ex.be (a := ib (fmtT t)) ?_ (Ex.bc (bStr _) (Ex.ret rfl)))
  refine up t.length (fun k (x : List Int) => x = ib (sepk (pcs t) k)) (f := fun n x i => impl_FormatTree_L1 t n x i) ?_ ?_ 0 [] (Nat.zero_le _) rfl
  ·rintro k _ hk rfl next
   have hl := sep_len h (Nat.le_of_lt hk)
   have h1 := ptx_len h hk
   have h2 := h.val k hk
   have h3 := itoa_len h2.1 h2.2
   simp only [impl_FormatTree_L1, Int.toNat_natCast]
   refine Ex.yes (decide_eq_true (by omega)) (Ex.guard (by omega) (Ex.be (a := ib (sepk (pcs t) k ++ if 0 < k then [59, 32] else [])) ?_ ?_))
   ·refine Ex.ite (fun hb => ?_) (fun hb => Ex.ret ?_)
    ·have := of_decide_eq_true hb
     rw [if_pos (by omega)]
     exact Ex.bc (wStr (by simp; omega)) (Ex.ret rfl)
    ·have := of_decide_eq_false hb
     rw [if_neg (by omega), List.append_nil]
   ·have hl2 : (sepk (pcs t) k ++ if 0 < k then [59, 32] else []).length ≤ 32 * k + 2 := by
     rw [List.length_append]; split <;> simp <;> omega
    generalize hg : (sepk (pcs t) k ++ if 0 < k then [59, 32] else []) = s at hl2 ⊢
    have pe := implPathText_ex (t := t) (by omega) (k : Int)
    rw [pathT_of h hk] at pe
    have h3' : (Lib.itoa (t.getD k dnod).value).length ≤ 5 := h3
    refine Ex.be pe (Ex.bc (wStr (by omega)) (Ex.bc (wByte (by simp only [List.length_append]; omega) 32 rfl) (Ex.bc (itoa_some (by have := h2.1; simp only [va] at this; omega) (by have := h2.2; simp only [va] at this; omega)) (Ex.bc (wStr (by simp only [List.length_append, List.length_singleton]; omega)) ?_))))
    rw [w64_succ (by omega)]
    refine next _ ?_
    rw [sepk, hg, pcs, va]
    simp
  ·rintro _ rfl
   simp only [impl_FormatTree_L1]
   exact Ex.no (decide_eq_false (by omega)) (Ex.ret rfl)
end
section
open Go
structure Rd (x1 : List Int) (k2 : Nat) : Prop where
 by_ : ∀ b ∈ x1, 0 ≤ b ∧ b ≤ 255
 le : k2 ≤ x1.length
 le2 : k2 ≤ 2000
theorem xor_small {a b : Int} (ha : 0 ≤ a) (ha2 : a < 4611686018427387904) (hb : 0 ≤ b) (hb2 : b < 4611686018427387904) :
  0 ≤ w64 (BitVec.ofInt 64 a ^^^ BitVec.ofInt 64 b).toNat := by
 rw [BitVec.toNat_xor, BitVec.toNat_ofInt, BitVec.toNat_ofInt]
 have e1 : (a % ((2 ^ 64 : Nat) : Int)).toNat = a.toNat := by
  rw [Int.emod_eq_of_lt ha (by omega)]
 have e2 : (b % ((2 ^ 64 : Nat) : Int)).toNat = b.toNat := by
  rw [Int.emod_eq_of_lt hb (by omega)]
 rw [e1, e2]
 have := Nat.xor_lt_two_pow (x := a.toNat) (y := b.toNat) (n := 62) (by omega) (by omega)
 rw [w64_id (by omega) (by omega)]
 omega
theorem byte_at {x1 : List Int} {k2 : Nat} (h : Rd x1 k2) (j : Nat) (hj : j < x1.length) : 0 ≤ x1.getD j 0 ∧ x1.getD j 0 ≤ 255 := h.by_ _ (getD_mem hj)
theorem pick_ok {x1 : List Int} {k2 : Nat} (h : Rd x1 k2) {i m : Int} (h0 : 0 ≤ i) (h1 : i ≤ 1000000000) (hm : m ≤ 1000000000) :
  ∃ r, spec_reader_pick x1 k2 i m = some r ∧ 0 ≤ r ∧ (1 ≤ m → r < m) ∧ (m < 1 → r = 0) := by
 have hle := h.le
 have hle2 := h.le2
 have e0 : w64 (w64 (i + 1) - 1) = i := by rw [w64_id (n := i + 1) (by omega) (by omega), w64_id (by omega) (by omega)]; omega
 unfold spec_reader_pick
 rw [e0]
 by_cases hm1 : m < 1
 ·simp only [hm1, decide_true, Bool.true_or, iteO_true]
  exact ⟨0, rfl, by omega, by omega, fun _ => rfl⟩
 ·by_cases hk : k2 = 0
  ·subst hk
   simp only [Int.natCast_zero, decide_true, Bool.or_true, iteO_true]
   exact ⟨0, rfl, by omega, by omega, fun _ => rfl⟩
  ·have e1 : (decide (m < 1) || decide (((k2 : Nat) : Int) = 0)) = false := by
    simp only [Bool.or_eq_false_iff, decide_eq_false_iff_not]; omega
   rw [e1]
   simp only [iteO_false]
   by_cases hlt : i < (k2 : Int)
   ·rw [decide_eq_true hlt]
    simp only [iteO_true]
    obtain ⟨b1, b2⟩ := byte_at h i.toNat (by omega)
    rw [guardO_pos ⟨h0, hlt⟩, guardO_pos (by omega), w64_id (by omega) (by omega), Int.tmod_eq_emod_of_nonneg b1]
    exact ⟨_, rfl, Int.emod_nonneg _ (by omega), fun _ => Int.emod_lt_of_pos _ (by omega), by omega⟩
   ·rw [decide_eq_false hlt]
    simp only [iteO_false]
    have d1 : ∀ z : Int, 0 ≤ z → 0 ≤ z.tmod (k2 : Int) ∧ z.tmod (k2 : Int) < (k2 : Int) := fun z hz => by
     rw [Int.tmod_eq_emod_of_nonneg hz]
     exact ⟨Int.emod_nonneg _ (by omega), Int.emod_lt_of_pos _ (by omega)⟩
    have e2 : w64 (w64 (i * 7) + 3) = i * 7 + 3 := by rw [w64_id (n := i * 7) (by omega) (by omega), w64_id (by omega) (by omega)]
    rw [e2]
    obtain ⟨p1, p2⟩ := d1 i h0
    obtain ⟨q1, q2⟩ := d1 (i * 7 + 3) (by omega)
    rw [guardO_pos (by omega), guardO_pos ⟨p1, p2⟩, guardO_pos (by omega), guardO_pos ⟨q1, q2⟩, guardO_pos (by omega), guardO_pos (by omega)]
    obtain ⟨a1, a2⟩ := byte_at h (i.tmod (k2 : Int)).toNat (by omega)
    obtain ⟨c1, c2⟩ := byte_at h ((i * 7 + 3).tmod (k2 : Int)).toNat (by omega)
    generalize x1.getD (i.tmod (k2 : Int)).toNat 0 = A at a1 a2 ⊢
    generalize x1.getD ((i * 7 + 3).tmod (k2 : Int)).toNat 0 = C at c1 c2 ⊢
    have t1 : 0 ≤ i.tdiv (k2 : Int) ∧ i.tdiv (k2 : Int) ≤ i := by
     rw [Int.tdiv_eq_ediv_of_nonneg h0]
     exact ⟨Int.ediv_nonneg h0 (by omega), Int.ediv_le_self _ h0⟩
    generalize i.tdiv (k2 : Int) = D at t1 ⊢
    obtain ⟨t1, t2⟩ := t1
    rw [w64_id (n := A) (by omega) (by omega), w64_id (n := A * 131) (by omega) (by omega), w64_id (n := C) (by omega) (by omega), w64_id (n := C * 1117) (by omega) (by omega), w64_id (n := A * 131 + C * 1117) (by omega) (by omega), w64_id (n := i * 29) (by omega) (by omega), w64_id (n := A * 131 + C * 1117 + i * 29) (by omega) (by omega), w64_id (n := D) (by omega) (by omega), w64_id (n := D * 53) (by omega) (by omega), w64_id (n := A * 131 + C * 1117 + i * 29 + D * 53) (by omega) (by omega)]
    generalize hS : A * 131 + C * 1117 + i * 29 + D * 53 = S
    have s1 : 0 ≤ S := by omega
    have s2 : S < 4611686018427387904 := by omega
    have s3 : 0 ≤ S.tdiv 64 ∧ S.tdiv 64 ≤ S := by
     rw [Int.tdiv_eq_ediv_of_nonneg s1]
     exact ⟨Int.ediv_nonneg s1 (by omega), Int.ediv_le_self _ s1⟩
    rw [w64_id (n := S.tdiv 64) (by omega) (by omega)]
    have := xor_small s1 s2 s3.1 (by omega)
    refine ⟨_, rfl, ?_, fun _ => ?_, by omega⟩
    ·rw [Int.tmod_eq_emod_of_nonneg this]; exact Int.emod_nonneg _ (by omega)
    ·rw [Int.tmod_eq_emod_of_nonneg this]; exact Int.emod_lt_of_pos _ (by omega)
/-- a pick among m numbers, and the reader's place behind it -/
theorem pick_ex {x1 : List Int} {k2 : Nat} (h : Rd x1 k2) {i m : Int} (h0 : 0 ≤ i) (h1 : i ≤ 1000000000) (hm : m ≤ 1000000000) (hp : 1 ≤ m) :
  Ex (fun _ => spec_reader_pick x1 k2 i m) (fun r => 0 ≤ r ∧ r < m) := by
 obtain ⟨r, e, r0, r1, _⟩ := pick_ok h h0 h1 hm
 exact Ex.const e ⟨r0, r1 hp⟩
theorem one_ex {x1 : List Int} {k2 : Nat} (h : Rd x1 k2) {i : Int} {l : List Int} (h0 : 0 ≤ i) (h1 : i ≤ 1000000000) (hl : l.length ≤ 1000000000) (hp : 1 ≤ l.length) :
  Ex (fun _ => spec_reader_one x1 k2 i l) (fun r => r.1 = i + 1 ∧ r.2 ∈ l) := by
 unfold spec_reader_one
 refine Ex.bind (pick_ex h h0 h1 (by omega) (by omega)) (fun r hr => ?_)
 refine Ex.guard ⟨hr.1, hr.2⟩ ?_
 exact Ex.ret ⟨w64_id (by omega) (by omega), getD_mem (by omega)⟩
theorem newReader_ex {x1 : List Int} (h : ∀ b ∈ x1, 0 ≤ b ∧ b ≤ 255) (hl : x1.length ≤ 1000000000) : Ex (fun _ => spec_newReader x1) (fun k => Rd x1 k) := by
 unfold spec_newReader
 refine Ex.bind (P := fun k => Rd x1 k) ?_ (fun k hk => Ex.ret hk)
 refine Ex.ite (fun hb => ?_) (fun hb => ?_)
 ·have := of_decide_eq_true hb
  refine Ex.guard (by omega) (Ex.ret ⟨h, by omega, Nat.le_refl _⟩)
 ·have := of_decide_eq_false hb
  exact Ex.ret ⟨h, Nat.le_refl _, by omega⟩
end
section
open Go
theorem someValue_ex {x1 : List Int} {k2 : Nat} (h : Rd x1 k2) {i : Int} (h0 : 0 ≤ i) (h1 : i ≤ 900000000) :
  Ex (fun _ => spec_someValue x1 k2 i) (fun r => r.1 = i + 3 ∧ -1000 ≤ r.2 ∧ r.2 ≤ 1000) := by
 unfold spec_someValue
 refine Ex.bind (pick_ex h h0 (by omega) (by omega) (by omega)) (fun a ha => ?_)
 have e1 : w64 (i + 1) = i + 1 := w64_id (by omega) (by omega)
 have e2 : w64 (i + 1 + 1) = i + 2 := by rw [w64_id (by omega) (by omega)]; omega
 rw [e1, e2]
 refine Ex.bind (pick_ex h (by omega) (by omega) (by omega) (by omega)) (fun b hb => ?_)
 refine Ex.bind (one_ex h (by omega) (by omega) (by simp) (by simp)) ?_
 rintro ⟨c, d⟩ ⟨h1, h2⟩
 refine Ex.ret ⟨by simp at h1 ⊢; omega, ?_⟩
 have e3 : w64 (w64 (4 * b) - 500) = 4 * b - 500 := by rw [w64_id (n := 4 * b) (by omega) (by omega), w64_id (by omega) (by omega)]
 simp only [e3, List.mem_cons, List.not_mem_nil, or_false] at h2
 simp only
 omega
end
section
open Go
set_option linter.unusedVariables false
/-- two modes that may be held together -/
def gs (a b : Int) : Bool :=
 if (if b < a then b else a) = 0 then true else if (if b < a then b else a) = 1 then !decide ((if b > a then b else a) = 5)
 else if (if b < a then b else a) = 2 then decide ((if b > a then b else a) = 2) else if (if b < a then b else a) = 3 then decide ((if b > a then b else a) = 3) else false
theorem gs_symm (a b : Int) : gs a b = gs b a := by
 have h1 : (if b < a then b else a) = (if a < b then a else b) := by split <;> split <;> omega
 have h2 : (if b > a then b else a) = (if a > b then a else b) := by split <;> split <;> omega
 unfold gs
 rw [h1, h2]
theorem specGo (a b : Int) : spec_goTogether a b = some (gs a b) := by
 unfold spec_goTogether gs
 simp only [iteO_eq, decide_eq_true_eq]
 repeat' split
 all_goals first | rfl | contradiction
theorem implGo {a b : Int} (ha : 1 ≤ a ∧ a ≤ 5) (hb : 1 ≤ b ∧ b ≤ 5) : impl_GoTogether a b = some (gs a b) := by
 have h1 : a = 1 ∨ a = 2 ∨ a = 3 ∨ a = 4 ∨ a = 5 := by omega
 have h2 : b = 1 ∨ b = 2 ∨ b = 3 ∨ b = 4 ∨ b = 5 := by omega
 rcases h1 with rfl | rfl | rfl | rfl | rfl <;> rcases h2 with rfl | rfl | rfl | rfl | rfl <;> decide
def joinM (a b : Int) : Int := if ((decide ((if b < a then b else a) = 2)) && (decide ((if b > a then b else a) = 3))) = true then 4 else (if b > a then b else a)
theorem specJoin (a b : Int) : spec_joined a b = some (joinM a b) := by
 unfold spec_joined joinM
 rw [iteO_eq]
 by_cases h : ((decide ((if b < a then b else a) = 2)) && (decide ((if b > a then b else a) = 3))) = true
 ·rw [if_pos h, if_pos h]
 ·rw [if_neg h, if_neg h]
def okL (x : Lck) : Bool := impl_isAsk x.who x.node x.mode
theorem okL_iff {x : Lck} : okL x = true ↔ (0 ≤ x.who ∧ x.who ≤ 3) ∧ (0 ≤ x.node ∧ x.node ≤ 11) ∧ (1 ≤ x.mode ∧ x.mode ≤ 5) := by
 simp [okL, impl_isAsk, impl_within]
theorem specAsk (x : Lck) : (!(spec_inRange x.who 0 3) || (!(spec_inRange x.node 0 11) || !(spec_inRange x.mode 1 5))) = !okL x := by
 have : okL x = (spec_inRange x.who 0 3 && (spec_inRange x.node 0 11 && spec_inRange x.mode 1 5)) := rfl
 rw [this, Bool.not_and, Bool.not_and]
def clash (x y : Lck) : Bool := decide (x.node = y.node) && (decide (x.who = y.who) || !gs x.mode y.mode)
theorem clash_symm (x y : Lck) : clash x y = clash y x := by
 have h1 : decide (x.node = y.node) = decide (y.node = x.node) := by simp [eq_comm]
 have h2 : decide (x.who = y.who) = decide (y.who = x.who) := by simp [eq_comm]
 rw [clash, clash, gs_symm, h1, h2]
def okAt (t : List Lck) (i : Nat) : Prop := okL (t.getD i dlck) = true ∧ ∀ j, j < i → clash (t.getD j dlck) (t.getD i dlck) = false
def GoodL (t : List Lck) : Prop := ∀ i, i < t.length → okAt t i
def validB (t : List Lck) : Bool := decide (t.length ≤ 48) && (List.range t.length).all fun i => okL (t.getD i dlck) && (List.range i).all fun j => !clash (t.getD j dlck) (t.getD i dlck)
theorem validB_iff {t : List Lck} : validB t = true ↔ t.length ≤ 48 ∧ GoodL t := by
 unfold validB GoodL okAt
 simp only [Bool.and_eq_true, decide_eq_true_eq, all_range, Bool.not_eq_true']
theorem specTable2_ex {t : List Lck} (hl : t.length ≤ 1000000000) {i : Nat} (hi : i < t.length) :
  Ex (fun n => spec_validTable_L2 t (i : Int) n 0) (fun v => match v with | .inl _ => ¬ ∀ j, j < i → clash (t.getD j dlck) (t.getD i dlck) = false | .inr _ => ∀ j, j < i → clash (t.getD j dlck) (t.getD i dlck) = false) := by
 refine upU i (fun k => ∀ j, j < k → clash (t.getD j dlck) (t.getD i dlck) = false) (f := fun n j => spec_validTable_L2 t (i : Int) n j) ?_ ?_ 0 (Nat.zero_le _) (fun j hj => by omega)
 ·intro k hk hinv next
  simp only [spec_validTable_L2, Int.toNat_natCast]
  refine Ex.yes (decide_eq_true (by omega)) (Ex.guard (by omega) (Ex.guard (by omega) (Ex.be (a := clash (t.getD k dlck) (t.getD i dlck)) ?_ ?_)))
  ·refine Ex.ite (fun hb => ?_) (fun hb => Ex.ret (by rw [clash, hb]; rfl))
   refine Ex.guard (by omega) (Ex.guard (by omega) (Ex.ite (fun hc => Ex.ret (by rw [clash, hb, hc]; rfl)) (fun hc => ?_)))
   refine Ex.guard (by omega) (Ex.guard (by omega) (Ex.bc (specGo _ _) (Ex.ret ?_)))
   rw [clash, hb, hc]; rfl
  ·rw [w64_succ (by omega)]
   refine Ex.ite (fun hb => Ex.ret fun h => by rw [h k hk] at hb; cases hb) (fun hb => next fun j hj => ?_)
   rcases Nat.eq_or_lt_of_le (Nat.le_of_lt_succ hj) with rfl | h
   ·exact hb
   ·exact hinv j h
 ·intro hinv
  simp only [spec_validTable_L2]
  exact Ex.no (decide_eq_false (by omega)) (Ex.ret hinv)
theorem specTable_ex {t : List Lck} (hl : t.length ≤ 1000000000) : Ex (fun n => spec_validTable n t) (· = validB t) := by
 unfold spec_validTable
 refine Ex.bind (P := fun v => match v with | .inl _ => ¬ GoodL t | .inr _ => GoodL t) ?_ ?_
 ·refine upU t.length (fun k => ∀ j, j < k → okAt t j) (f := fun n i => spec_validTable_L1 t n i) ?_ ?_ 0 (Nat.zero_le _) (fun j hj => by omega)
  ·intro k hk hinv next
   simp only [spec_validTable_L1, Int.toNat_natCast]
   refine Ex.yes (decide_eq_true (by omega)) (Ex.guard (by omega) (Ex.be (a := !okL (t.getD k dlck)) ?_ ?_))
   ·rw [← specAsk]
    refine Ex.ite (fun hb => Ex.ret (by rw [hb]; rfl)) (fun hb => ?_)
    rw [hb, Bool.false_or]
    refine Ex.guard (by omega) (Ex.ite (fun hc => Ex.ret (by rw [hc]; rfl)) (fun hc => ?_))
    rw [hc, Bool.false_or]
    exact Ex.guard (by omega) (Ex.ret rfl)
   ·refine Ex.ite (fun hb => Ex.ret fun h => by rw [(h k hk).1] at hb; cases hb) (fun hb => ?_)
    refine Ex.bind (specTable2_ex hl hk) ?_
    rintro (u | u) hu
    ·exact Ex.ret fun h => hu (h k hk).2
    ·rw [w64_succ (by omega)]
     refine next fun j hj => ?_
     rcases Nat.eq_or_lt_of_le (Nat.le_of_lt_succ hj) with rfl | h
     ·exact ⟨notF hb, hu⟩
     ·exact hinv j h
  ·intro hinv
   simp only [spec_validTable_L1]
   exact Ex.no (decide_eq_false (by omega)) (Ex.ret hinv)
 ·rintro (u | u) hu
  ·refine Ex.ret ?_
   cases hv : validB t with
   | false => rfl
   | true => exact absurd (validB_iff.1 hv).2 hu
  ·refine Ex.ret ?_
   have : validB t = decide (t.length ≤ 48) := by
    by_cases h : t.length ≤ 48
    ·rw [decide_eq_true h]; exact validB_iff.2 ⟨h, hu⟩
    ·rw [decide_eq_false h]
     cases hv : validB t with
     | false => rfl
     | true => exact absurd (validB_iff.1 hv).1 h
   rw [this]
   simp
   omega
theorem implTable2_ex {t : List Lck} {i : Nat} (hi : i < t.length) (hl : t.length ≤ 48) (ho : ∀ j, j ≤ i → okL (t.getD j dlck) = true) :
  Ex (fun n => impl_ValidTable_L2 t (i : Int) n 0) (fun v => match v with | .inl _ => ¬ ∀ j, j < i → clash (t.getD j dlck) (t.getD i dlck) = false | .inr _ => ∀ j, j < i → clash (t.getD j dlck) (t.getD i dlck) = false) := by
 refine upU i (fun k => ∀ j, j < k → clash (t.getD j dlck) (t.getD i dlck) = false) (f := fun n j => impl_ValidTable_L2 t (i : Int) n j) ?_ ?_ 0 (Nat.zero_le _) (fun j hj => by omega)
 ·intro k hk hinv next
  simp only [impl_ValidTable_L2, Int.toNat_natCast]
  refine Ex.yes (decide_eq_true (by omega)) (Ex.guard (by omega) (Ex.be (a := clash (t.getD k dlck) (t.getD i dlck)) ?_ ?_))
  ·rw [clash_symm]
   refine Ex.ite (fun hb => ?_) (fun hb => Ex.ret (by rw [clash, hb]; rfl))
   refine Ex.ite (fun hc => Ex.ret (by rw [clash, hb, hc]; rfl)) (fun hc => ?_)
   refine Ex.bc (implGo (okL_iff.1 (ho i (Nat.le_refl _))).2.2 (okL_iff.1 (ho k (by omega))).2.2) (Ex.ret ?_)
   rw [clash, hb, hc]; rfl
  ·rw [w64_succ (by omega)]
   refine Ex.ite (fun hb => Ex.ret fun h => by rw [h k hk] at hb; cases hb) (fun hb => next fun j hj => ?_)
   rcases Nat.eq_or_lt_of_le (Nat.le_of_lt_succ hj) with rfl | h
   ·exact hb
   ·exact hinv j h
 ·intro hinv
  simp only [impl_ValidTable_L2, Int.toNat_natCast]
  exact Ex.no (decide_eq_false (by omega)) (Ex.ret hinv)
theorem implTable_ex (t : List Lck) : Ex (fun n => impl_ValidTable n t) (· = validB t) := by
 unfold impl_ValidTable
 refine Ex.ite (fun hb => Ex.ret ?_) (fun hb => ?_)
 ·have := of_decide_eq_true hb
  cases hv : validB t with
  | false => rfl
  | true => have := (validB_iff.1 hv).1; omega
 have hl : t.length ≤ 48 := by have := of_decide_eq_false hb; omega
 refine Ex.bind (P := fun v => match v with | .inl _ => ¬ GoodL t | .inr _ => GoodL t) ?_ ?_
 ·refine upU t.length (fun k => ∀ j, j < k → okAt t j) (f := fun n i => impl_ValidTable_L1 t n i) ?_ ?_ 0 (Nat.zero_le _) (fun j hj => by omega)
  ·intro k hk hinv next
   simp only [impl_ValidTable_L1, Int.toNat_natCast]
   refine Ex.yes (decide_eq_true (by omega)) (Ex.guard (by omega) (Ex.ite (fun hb => Ex.ret fun h => ?_) (fun hb => ?_)))
   ·have := (h k hk).1
    rw [okL] at this
    rw [this] at hb; cases hb
   ·have hok : okL (t.getD k dlck) = true := notF hb
    refine Ex.guard (by omega) (Ex.bind (implTable2_ex hk hl (fun j hj => ?_)) ?_)
    ·rcases Nat.eq_or_lt_of_le hj with rfl | h
     ·exact hok
     ·exact (hinv j h).1
    rintro (u | u) hu
    ·exact Ex.ret fun h => hu (h k hk).2
    ·rw [w64_succ (by omega)]
     refine next fun j hj => ?_
     rcases Nat.eq_or_lt_of_le (Nat.le_of_lt_succ hj) with rfl | h
     ·exact ⟨hok, hu⟩
     ·exact hinv j h
  ·intro hinv
   simp only [impl_ValidTable_L1]
   exact Ex.no (decide_eq_false (by omega)) (Ex.ret hinv)
 ·rintro (u | u) hu
  ·refine Ex.ret ?_
   cases hv : validB t with
   | false => rfl
   | true => exact absurd (validB_iff.1 hv).2 hu
  ·exact Ex.ret (validB_iff.2 ⟨hl, hu⟩).symm
/-- the text of a lock, of a table -/
def pl (x : Lck) : Str := Lib.itoa x.who ++ 32 :: (Lib.itoa x.node ++ 32 :: Lib.itoa x.mode)
def pcL (t : List Lck) (i : Nat) : Str := pl (t.getD i dlck)
def fmtL (t : List Lck) : Str := sepk (pcL t) t.length
def fmtLR (t : List Lck) : Str := if validB t = true then fmtL t else []
theorem pl_len {x : Lck} (h : okL x = true) : (pl x).length ≤ 17 := by
 have h := okL_iff.1 h
 have h1 := itoa_len (n := x.who) (by omega) (by omega)
 have h2 := itoa_len (n := x.node) (by omega) (by omega)
 have h3 := itoa_len (n := x.mode) (by omega) (by omega)
 rw [pl]; simp; omega
theorem sepL_len {t : List Lck} (h : GoodL t) {k : Nat} (hk : k ≤ t.length) : (sepk (pcL t) k).length ≤ 19 * k := sepk_len (B := 17) (fun j hj => pl_len (h j (by omega)).1)
theorem specFmtL_ex {t : List Lck} (h : GoodL t) (hl : t.length ≤ 48) : Ex (fun n => spec_FormatLocks_L1 t n [] 0) (· = fmtL t) := by
 refine up t.length (fun k (s : Str) => s = sepk (pcL t) k) (f := fun n s i => spec_FormatLocks_L1 t n s i) ?_ ?_ 0 [] (Nat.zero_le _) rfl
 ·rintro k _ hk rfl next
  have hs := sepL_len h (Nat.le_of_lt hk)
  have hp := pl_len (h k hk).1
  have ho := okL_iff.1 (h k hk).1
  simp only [spec_FormatLocks_L1, Int.toNat_natCast]
  refine Ex.yes (decide_eq_true (by omega)) (Ex.be (a := sepk (pcL t) k ++ if 0 < k then [59, 32] else []) ?_ ?_)
  ·refine Ex.ite (fun hb => ?_) (fun hb => Ex.ret ?_)
   ·have := of_decide_eq_true hb
    rw [if_pos (by omega)]
    exact Ex.guard (by simp; omega) (Ex.ret rfl)
   ·have := of_decide_eq_false hb
    rw [if_neg (by omega), List.append_nil]
  ·have hl2 : (sepk (pcL t) k ++ if 0 < k then [59, 32] else []).length ≤ 19 * k + 2 := by
    rw [List.length_append]; split <;> simp <;> omega
   generalize hg : (sepk (pcL t) k ++ if 0 < k then [59, 32] else []) = s at hl2 ⊢
   have h1 := itoa_len (n := (t.getD k dlck).who) (by omega) (by omega)
   have h2 := itoa_len (n := (t.getD k dlck).node) (by omega) (by omega)
   have h3 := itoa_len (n := (t.getD k dlck).mode) (by omega) (by omega)
   refine Ex.guard (by omega) (Ex.be (decimal_ex (by omega) (by omega)) (Ex.guard (by omega) (Ex.guard (by simp only [List.length_append, List.length_singleton]; omega) (Ex.guard (by omega) (Ex.be (decimal_ex (by omega) (by omega)) (Ex.guard (by simp only [List.length_append, List.length_singleton]; omega)
    (Ex.guard (by simp only [List.length_append, List.length_singleton]; omega) (Ex.guard (by omega) (Ex.be (decimal_ex (by omega) (by omega)) (Ex.guard (by simp only [List.length_append, List.length_singleton]; omega) ?_))))))))))
   rw [w64_succ (by omega)]
   refine next _ ?_
   rw [sepk, hg, pcL, pl]
   simp
 ·rintro _ rfl
  simp only [spec_FormatLocks_L1]
  exact Ex.no (decide_eq_false (by omega)) (Ex.ret rfl)
theorem specLocks_ex {t : List Lck} (hl : t.length ≤ 1000000000) : Ex (fun n => spec_FormatLocks n t) (· = fmtLR t) := by
 unfold spec_FormatLocks fmtLR
 refine Ex.be (specTable_ex hl) ?_
 cases hv : validB t with
 | false => exact Ex.yes rfl (Ex.ret rfl)
 | true =>
  have h := validB_iff.1 hv
  rw [if_pos rfl]
  exact Ex.no rfl (Ex.be (specFmtL_ex h.2 h.1) (Ex.ret rfl))
theorem implLocks_ex (t : List Lck) : Ex (fun n => impl_FormatLocks n t) (· = fmtLR t) := by
 unfold impl_FormatLocks fmtLR
 refine Ex.be (implTable_ex t) ?_
 cases hv : validB t with
 | false => exact Ex.yes rfl (Ex.ret rfl)
 | true =>
  obtain ⟨hl, h⟩ := validB_iff.1 hv
  rw [if_pos rfl]
  refine Ex.no rfl (Ex.be (a := ib (fmtL t)) ?_ (Ex.bc (bStr _) (Ex.ret rfl)))
  refine up t.length (fun k (x : List Int) => x = ib (sepk (pcL t) k)) (f := fun n x i => impl_FormatLocks_L1 t n x i) ?_ ?_ 0 [] (Nat.zero_le _) rfl
  ·rintro k _ hk rfl next
   have hs := sepL_len h (Nat.le_of_lt hk)
   have ho := okL_iff.1 (h k hk).1
   simp only [impl_FormatLocks_L1, Int.toNat_natCast]
   refine Ex.yes (decide_eq_true (by omega)) (Ex.guard (by omega) (Ex.be (a := ib (sepk (pcL t) k ++ if 0 < k then [59, 32] else [])) ?_ ?_))
   ·refine Ex.ite (fun hb => ?_) (fun hb => Ex.ret ?_)
    ·have := of_decide_eq_true hb
     rw [if_pos (by omega)]
     exact Ex.bc (wStr (by simp; omega)) (Ex.ret rfl)
    ·have := of_decide_eq_false hb
     rw [if_neg (by omega), List.append_nil]
   ·have hl2 : (sepk (pcL t) k ++ if 0 < k then [59, 32] else []).length ≤ 19 * k + 2 := by
     rw [List.length_append]; split <;> simp <;> omega
    generalize hg : (sepk (pcL t) k ++ if 0 < k then [59, 32] else []) = s at hl2 ⊢
    have h1 := itoa_len (n := (t.getD k dlck).who) (by omega) (by omega)
    have h2 := itoa_len (n := (t.getD k dlck).node) (by omega) (by omega)
    have h3 := itoa_len (n := (t.getD k dlck).mode) (by omega) (by omega)
    refine Ex.bc (itoa_some (by omega) (by omega)) (Ex.bc (wStr (by omega)) (Ex.bc (wByte (by simp only [List.length_append]; omega) 32 rfl) (Ex.bc (itoa_some (by omega) (by omega)) (Ex.bc (wStr (by simp only [List.length_append, List.length_singleton]; omega))
     (Ex.bc (wByte (by simp only [List.length_append, List.length_singleton]; omega) 32 rfl) (Ex.bc (itoa_some (by omega) (by omega)) (Ex.bc (wStr (by simp only [List.length_append, List.length_singleton]; omega)) ?_)))))))
    rw [w64_succ (by omega)]
    refine next _ ?_
    rw [sepk, hg, pcL, pl]
    simp
  ·rintro _ rfl
   simp only [impl_FormatLocks_L1]
   exact Ex.no (decide_eq_false (by omega)) (Ex.ret rfl)

/-! what is held, who is in the way, what is granted -/
def hitL (w n : Int) (x : Lck) : Bool := decide (x.who = w) && decide (x.node = n)
def heldL (w n : Int) : List Lck → Int
 | [] => 0
 | x :: t => if hitL w n x = true then x.mode else heldL w n t
theorem specHeld_ex {t : List Lck} (hl : t.length ≤ 1000000000) (w m : Int) : Ex (fun n => spec_held n t w m) (· = heldL w m t) := by
 unfold spec_held
 refine Ex.bind (P := fun v => (match v with | .inl x => x | .inr _ => 0) = heldL w m t) ?_ ?_
 ·refine upU t.length (fun k => heldL w m (t.drop k) = heldL w m t) (f := fun n i => spec_held_L1 t w m n i) ?_ ?_ 0 (Nat.zero_le _) rfl
  ·intro k hk hinv next
   rw [drop_at dlck hk, heldL] at hinv
   simp only [spec_held_L1, Int.toNat_natCast]
   refine Ex.yes (decide_eq_true (by omega)) (Ex.guard (by omega) (Ex.be (a := hitL w m (t.getD k dlck)) ?_ ?_))
   ·refine Ex.ite (fun hb => Ex.guard (by omega) (Ex.ret (by rw [hitL, hb]; rfl))) (fun hb => Ex.ret (by rw [hitL, hb]; rfl))
   ·refine Ex.ite (fun hb => Ex.guard (by omega) (Ex.ret ?_)) (fun hb => ?_)
    ·rw [if_pos hb] at hinv
     exact hinv
    ·rw [hb] at hinv
     rw [w64_succ (by omega)]
     exact next hinv
  ·intro hinv
   simp only [spec_held_L1]
   refine Ex.no (decide_eq_false (by omega)) (Ex.ret ?_)
   rw [List.drop_length] at hinv
   exact hinv
 ·rintro (u | u) hu
  ·exact Ex.ret hu
  ·exact Ex.ret hu
def blockL (t : List Lck) (w n m : Int) : List Int := [0, 1, 2, 3].filter fun v => !decide (v = w) && !gs (heldL v n t) m
theorem specBlock_ex {t : List Lck} (hl : t.length ≤ 1000000000) (w m d : Int) : Ex (fun n => spec_blockers n t w m d) (· = blockL t w m d) := by
 unfold spec_blockers
 refine Ex.be (a := blockL t w m d) ?_ (Ex.ret rfl)
 refine up 4 (fun k (x : List Int) => x = (([0, 1, 2, 3] : List Int).take k).filter fun v => !decide (v = w) && !gs (heldL v m t) d) (f := fun n x i => spec_blockers_L1 t w m d n x i) ?_ ?_ 0 [] (Nat.zero_le _) rfl
 ·rintro k _ hk rfl next
  simp only [spec_blockers_L1]
  have hlen : ((([0, 1, 2, 3] : List Int).take k).filter fun v => !decide (v = w) && !gs (heldL v m t) d).length ≤ 4 := Nat.le_trans (List.length_filter_le _ _) (by simp; omega)
  have hst : ((([0, 1, 2, 3] : List Int).take (k + 1)).filter fun v => !decide (v = w) && !gs (heldL v m t) d) = ((([0, 1, 2, 3] : List Int).take k).filter fun v => !decide (v = w) && !gs (heldL v m t) d) ++ if (!decide ((k : Int) = w) && !gs (heldL k m t) d) = true then [(k : Int)] else [] := by
   have e : ([0, 1, 2, 3] : List Int)[k]? = some (k : Int) := by
    have : k = 0 ∨ k = 1 ∨ k = 2 ∨ k = 3 := by omega
    rcases this with rfl | rfl | rfl | rfl <;> rfl
   rw [List.take_add_one, e, List.filter_append]
   congr 1
   simp only [Option.toList, List.filter_cons, List.filter_nil]
  refine Ex.yes (decide_eq_true (by omega)) (Ex.be (a := !decide ((k : Int) = w) && !gs (heldL k m t) d) ?_ ?_)
  ·refine Ex.ite (fun hb => ?_) (fun hb => Ex.ret (by rw [hb]; rfl))
   exact Ex.be (specHeld_ex hl _ _) (Ex.bc (specGo _ _) (Ex.ret (by rw [hb]; rfl)))
  ·rw [w64_succ (by omega)]
   refine Ex.be (a := (([0, 1, 2, 3] : List Int).take (k + 1)).filter fun v => !decide (v = w) && !gs (heldL v m t) d) ?_ (next _ rfl)
   rw [hst]
   refine Ex.ite (fun hb => ?_) (fun hb => Ex.ret ?_)
   ·rw [if_pos hb]
    exact Ex.guard (by simp; omega) (Ex.ret (by simp))
   ·rw [hb, if_neg (by simp), List.append_nil]
 ·rintro _ rfl
  simp only [spec_blockers_L1]
  exact Ex.no (decide_eq_false (by omega)) (Ex.ret rfl)
def grantL (w n m : Int) : List Lck → List Lck
 | [] => [⟨w, n, m⟩]
 | x :: t => if hitL w n x = true then ⟨x.who, x.node, joinM x.mode m⟩ :: t else x :: grantL w n m t
theorem grant_len (w n m : Int) : ∀ t, (grantL w n m t).length ≤ t.length + 1
 | [] => by simp [grantL]
 | x :: t => by
  have := grant_len w n m t
  rw [grantL]
  split <;> simp <;> omega
theorem set_split {α : Type} (d : α) : ∀ {xs : List α} {k : Nat} (y : α), k < xs.length → xs.set k y = xs.take k ++ y :: xs.drop (k + 1)
 | [], k, y, h => by simp at h
 | x :: xs, 0, y, h => rfl
 | x :: xs, k + 1, y, h => by
  rw [List.set_cons_succ, set_split d y (by simpa using h)]; rfl
theorem specGrant_ex {t : List Lck} (hl : t.length ≤ 1000000000) (w m d : Int) : Ex (fun n => spec_grant n t w m d) (· = grantL w m d t) := by
 unfold spec_grant
 have e : ([] : List Lck) ++ (t.drop 0).take t.length = t := by simp
 simp only [e]
 refine Ex.guard (by simp; omega) ?_
 refine Ex.bind (P := fun v => (match v with | .inl x => x | .inr _ => t ++ [⟨w, m, d⟩]) = grantL w m d t) ?_ ?_
 ·refine upU t.length (fun k => t.take k ++ grantL w m d (t.drop k) = grantL w m d t) (f := fun n i => spec_grant_L1 w m d t n i) ?_ ?_ 0 (Nat.zero_le _) rfl
  ·intro k hk hinv next
   rw [drop_at dlck hk, grantL] at hinv
   simp only [spec_grant_L1, Int.toNat_natCast, e]
   refine Ex.yes (decide_eq_true (by omega)) (Ex.guard (by omega) (Ex.be (a := hitL w m (t.getD k dlck)) ?_ ?_))
   ·refine Ex.ite (fun hb => Ex.guard (by omega) (Ex.ret (by rw [hitL, hb]; rfl))) (fun hb => Ex.ret (by rw [hitL, hb]; rfl))
   ·refine Ex.ite (fun hb => Ex.guard (by omega) (Ex.bc (specJoin _ _) (Ex.guard (by omega) (Ex.ret ?_)))) (fun hb => ?_)
    ·rw [if_pos hb] at hinv
     simp only
     rw [set_split dlck _ hk]
     exact hinv
    ·rw [hb, if_neg (by simp)] at hinv
     rw [w64_succ (by omega)]
     refine next ?_
     rw [List.take_add_one]
     have e2 : t[k]? = some (t.getD k dlck) := by rw [List.getD_eq_getElem?_getD, List.getElem?_eq_getElem hk]; rfl
     rw [e2, Option.toList, List.append_assoc]
     exact hinv
  ·intro hinv
   simp only [spec_grant_L1, e]
   refine Ex.no (decide_eq_false (by omega)) (Ex.ret ?_)
   rw [List.drop_length, List.take_length, grantL] at hinv
   exact hinv
 ·rintro (u | u) hu
  ·exact Ex.ret hu
  ·exact Ex.guard (by simp; omega) (Ex.ret (by simpa using hu))
/-- an ask for a lock -/
def askL (t : List Lck) (w n m : Int) : Bool := validB t && okL ⟨w, n, m⟩
def takeL (t : List Lck) (w n m : Int) : List Lck × Bool :=
 if askL t w n m = true ∧ blockL t w n (joinM (heldL w n t) m) = [] then (grantL w n m t, true) else ([], false)
theorem specTake_ex {t : List Lck} (hl : t.length ≤ 1000000000) (w m d : Int) : Ex (fun n => spec_TakeLock n t w m d) (· = takeL t w m d) := by
 unfold spec_TakeLock
 have hask : Ex (fun n => spec_validAsk n t w m d) (· = askL t w m d) := by
  unfold spec_validAsk
  exact Ex.be (specTable_ex hl) (Ex.ret rfl)
 refine Ex.be hask ?_
 refine Ex.be (a := !decide (askL t w m d = true ∧ blockL t w m (joinM (heldL w m t) d) = [])) ?_ ?_
 ·refine Ex.ite (fun hb => Ex.ret ?_) (fun hb => ?_)
  ·rw [notT hb]; simp
  ·rw [notF hb]
   refine Ex.be (specHeld_ex hl _ _) (Ex.bc (specJoin _ _) (Ex.be (specBlock_ex hl _ _ _) (Ex.ret ?_)))
   cases blockL t w m (joinM (heldL w m t) d) with
   | nil => simp
   | cons a l => simp
 ·unfold takeL
  refine Ex.ite (fun hb => Ex.ret ?_) (fun hb => ?_)
  ·rw [if_neg (of_decide_eq_false (notT hb))]
  ·rw [if_pos (of_decide_eq_true (notF hb))]
   exact Ex.be (specGrant_ex hl _ _ _) (Ex.ret rfl)
theorem takeL_len (t : List Lck) (w n m : Int) : (takeL t w n m).1.length ≤ t.length + 1 := by
 rw [takeL]
 split
 ·exact grant_len w n m t
 ·simp
end
section
open Go
set_option linter.unusedVariables false
theorem implGo6 {a b : Int} (ha : 0 ≤ a ∧ a ≤ 5) (hb : 0 ≤ b ∧ b ≤ 5) : impl_GoTogether a b = some (gs a b) := by
 have h1 : a = 0 ∨ a = 1 ∨ a = 2 ∨ a = 3 ∨ a = 4 ∨ a = 5 := by omega
 have h2 : b = 0 ∨ b = 1 ∨ b = 2 ∨ b = 3 ∨ b = 4 ∨ b = 5 := by omega
 rcases h1 with rfl | rfl | rfl | rfl | rfl | rfl <;> rcases h2 with rfl | rfl | rfl | rfl | rfl | rfl <;> decide
theorem implJoin6 {a b : Int} (ha : 0 ≤ a ∧ a ≤ 5) (hb : 0 ≤ b ∧ b ≤ 5) : impl_JoinModes a b = some (joinM a b) := by
 have h1 : a = 0 ∨ a = 1 ∨ a = 2 ∨ a = 3 ∨ a = 4 ∨ a = 5 := by omega
 have h2 : b = 0 ∨ b = 1 ∨ b = 2 ∨ b = 3 ∨ b = 4 ∨ b = 5 := by omega
 rcases h1 with rfl | rfl | rfl | rfl | rfl | rfl <;> rcases h2 with rfl | rfl | rfl | rfl | rfl | rfl <;> decide
theorem joinM_in {a b : Int} (ha : 0 ≤ a ∧ a ≤ 5) (hb : 1 ≤ b ∧ b ≤ 5) : 1 ≤ joinM a b ∧ joinM a b ≤ 5 := by
 unfold joinM
 split <;> split <;> omega
theorem strong_ex {a b : Int} (ha : 0 ≤ a ∧ a ≤ 5) (hb : b = 3 ∨ b = 5) : impl_IsStronger a b = some (decide (b ≤ a)) := by
 have h1 : a = 0 ∨ a = 1 ∨ a = 2 ∨ a = 3 ∨ a = 4 ∨ a = 5 := by omega
 rcases h1 with rfl | rfl | rfl | rfl | rfl | rfl <;> rcases hb with rfl | rfl <;> decide
theorem clone_lck {t : List Lck} (h : t.length ≤ 1000000000000) : slices_Clone_Lock t = some t := by
 unfold slices_Clone_Lock
 rw [guardO_pos (by omega)]
theorem held_in {t : List Lck} (h : ∀ x ∈ t, okL x = true) (w n : Int) : 0 ≤ heldL w n t ∧ heldL w n t ≤ 5 := by
 induction t with
 | nil => simp [heldL]
 | cons x t ih =>
  rw [heldL]
  split
  ·have := (okL_iff.1 (h x (by simp))).2.2; omega
  ·exact ih (fun y hy => h y (by simp [hy]))
/-- the first lock of one on a node -/
theorem lockAt_ex {t : List Lck} (hl : t.length ≤ 1000000000) (w m : Int) : Ex (fun n => impl_lockAt n t w m) (fun r => (r = -1 ∧ ∀ x ∈ t, hitL w m x = false) ∨
  ∃ k : Nat, r = (k : Int) ∧ k < t.length ∧ hitL w m (t.getD k dlck) = true ∧ ∀ j, j < k → hitL w m (t.getD j dlck) = false) := by
 unfold impl_lockAt
 refine Ex.bind (P := fun r => (r = -1 ∧ ∀ x ∈ t, hitL w m x = false) ∨ ∃ k : Nat, r = (k : Int) ∧ k < t.length ∧ hitL w m (t.getD k dlck) = true ∧ ∀ j, j < k → hitL w m (t.getD j dlck) = false) ?_ (fun r hr => Ex.ret hr)
 unfold slices_IndexFunc_Lock_impl_lockAt_1
 refine Ex.bind (P := fun v => match v with | .inl r => ∃ k : Nat, r = (k : Int) ∧ k < t.length ∧ hitL w m (t.getD k dlck) = true ∧ ∀ j, j < k → hitL w m (t.getD j dlck) = false | .inr _ => ∀ x ∈ t, hitL w m x = false) ?_ ?_
 ·refine upU t.length (fun k => ∀ j, j < k → hitL w m (t.getD j dlck) = false) (f := fun n i => slices_IndexFunc_Lock_impl_lockAt_1_L1 t w m n i) ?_ ?_ 0 (Nat.zero_le _) (fun j hj => by omega)
  ·intro k hk hinv next
   simp only [slices_IndexFunc_Lock_impl_lockAt_1_L1, Int.toNat_natCast]
   refine Ex.yes (decide_eq_true (by omega)) (Ex.guard (by omega) ?_)
   rw [w64_succ (by omega), show impl_lockAt_1 (t.getD k dlck) w m = hitL w m (t.getD k dlck) from rfl]
   refine Ex.ite (fun hb => Ex.ret ⟨k, rfl, hk, hb, hinv⟩) (fun hb => next fun j hj => ?_)
   rcases Nat.eq_or_lt_of_le (Nat.le_of_lt_succ hj) with rfl | h
   ·exact hb
   ·exact hinv j h
  ·intro hinv
   simp only [slices_IndexFunc_Lock_impl_lockAt_1_L1]
   refine Ex.no (decide_eq_false (by omega)) (Ex.ret fun x hx => ?_)
   obtain ⟨i, hi, rfl⟩ := List.mem_iff_getElem.1 hx
   have := hinv i hi
   rwa [List.getD_eq_getElem?_getD, List.getElem?_eq_getElem hi] at this
 ·rintro (r | u) hr
  ·exact Ex.ret (.inr hr)
  ·exact Ex.ret (.inl ⟨rfl, hr⟩)
theorem held_none {w n : Int} : ∀ {t : List Lck}, (∀ x ∈ t, hitL w n x = false) → heldL w n t = 0
 | [], _ => rfl
 | x :: t, h => by rw [heldL, h x (by simp), if_neg (by simp), held_none (fun y hy => h y (by simp [hy]))]
theorem held_at {w n : Int} : ∀ {t : List Lck} {k : Nat}, k < t.length → hitL w n (t.getD k dlck) = true → (∀ j, j < k → hitL w n (t.getD j dlck) = false) → heldL w n t = (t.getD k dlck).mode
 | [], k, h, _, _ => by simp at h
 | x :: t, 0, _, h, _ => by rw [heldL, if_pos (by exact h)]; rfl
 | x :: t, k + 1, hk, h, hn => by
  have h0 : hitL w n x = false := hn 0 (by omega)
  rw [heldL, h0, if_neg (by simp), List.getD_cons_succ]
  exact held_at (by simpa using hk) (by simpa using h) (fun j hj => by have := hn (j + 1) (by omega); simpa using this)
theorem grant_none {w n m : Int} : ∀ {t : List Lck}, (∀ x ∈ t, hitL w n x = false) → grantL w n m t = t ++ [⟨w, n, m⟩]
 | [], _ => rfl
 | x :: t, h => by rw [grantL, h x (by simp), if_neg (by simp), grant_none (fun y hy => h y (by simp [hy]))]; rfl
theorem grant_at {w n m : Int} : ∀ {t : List Lck} {k : Nat}, k < t.length → hitL w n (t.getD k dlck) = true → (∀ j, j < k → hitL w n (t.getD j dlck) = false) →
  grantL w n m t = t.set k ⟨(t.getD k dlck).who, (t.getD k dlck).node, joinM (t.getD k dlck).mode m⟩
 | [], k, h, _, _ => by simp at h
 | x :: t, 0, _, h, _ => by rw [grantL, if_pos (by exact h)]; rfl
 | x :: t, k + 1, hk, h, hn => by
  have h0 : hitL w n x = false := hn 0 (by omega)
  rw [grantL, h0, if_neg (by simp), List.getD_cons_succ, List.set_cons_succ]
  congr 1
  exact grant_at (by simpa using hk) (by simpa using h) (fun j hj => by have := hn (j + 1) (by omega); simpa using this)
theorem implHeld_ex {t : List Lck} (hl : t.length ≤ 1000000000) (w m : Int) : Ex (fun n => impl_heldIn n t w m) (· = heldL w m t) := by
 unfold impl_heldIn
 refine Ex.bind (lockAt_ex hl w m) ?_
 rintro r (⟨rfl, h⟩ | ⟨k, rfl, hk, h1, h2⟩)
 ·exact Ex.yes (by decide) (Ex.ret (held_none h).symm)
 ·refine Ex.no (decide_eq_false (by omega)) (Ex.guard (by omega) (Ex.ret ?_))
  rw [Int.toNat_natCast]
  exact (held_at hk h1 h2).symm
theorem good_ok {t : List Lck} (h : GoodL t) : ∀ x ∈ t, okL x = true := fun x hx => by
 obtain ⟨i, hi, rfl⟩ := List.mem_iff_getElem.1 hx
 have := (h i hi).1
 rwa [List.getD_eq_getElem?_getD, List.getElem?_eq_getElem hi] at this
theorem implBlock_ex {t : List Lck} (h : validB t = true) {w m d : Int} (ho : impl_isAsk w m d = true) : Ex (fun n => impl_LockBlockers n t w m d) (· = blockL t w m (joinM (heldL w m t) d)) := by
 obtain ⟨hl, hg⟩ := validB_iff.1 h
 have hin := held_in (good_ok hg)
 have hd := (okL_iff (x := ⟨w, m, d⟩)).1 ho
 simp only at hd
 have hj := joinM_in (hin w m) hd.2.2
 unfold impl_LockBlockers
 refine Ex.be (implTable_ex t) ?_
 rw [h, ho]
 refine Ex.no rfl (Ex.be (implHeld_ex (by omega) w m) (Ex.bc (implJoin6 (hin w m) ⟨by omega, hd.2.2.2⟩) ?_))
 generalize joinM (heldL w m t) d = d' at hj
 refine Ex.be (a := blockL t w m d') ?_ (Ex.ret rfl)
 refine up 4 (fun k (x : List Int) => x = (([0, 1, 2, 3] : List Int).take k).filter fun v => !decide (v = w) && !gs (heldL v m t) d') (f := fun n x i => impl_LockBlockers_L1 t w m d' n x i) ?_ ?_ 0 [] (Nat.zero_le _) rfl
 ·rintro k _ hk rfl next
  simp only [impl_LockBlockers_L1]
  have hlen : ((([0, 1, 2, 3] : List Int).take k).filter fun v => !decide (v = w) && !gs (heldL v m t) d').length ≤ 4 := Nat.le_trans (List.length_filter_le _ _) (by simp; omega)
  have hst : ((([0, 1, 2, 3] : List Int).take (k + 1)).filter fun v => !decide (v = w) && !gs (heldL v m t) d') = ((([0, 1, 2, 3] : List Int).take k).filter fun v => !decide (v = w) && !gs (heldL v m t) d') ++ if (!decide ((k : Int) = w) && !gs (heldL k m t) d') = true then [(k : Int)] else [] := by
   have e : ([0, 1, 2, 3] : List Int)[k]? = some (k : Int) := by
    have : k = 0 ∨ k = 1 ∨ k = 2 ∨ k = 3 := by omega
    rcases this with rfl | rfl | rfl | rfl <;> rfl
   rw [List.take_add_one, e, List.filter_append]
   congr 1
   simp only [Option.toList, List.filter_cons, List.filter_nil]
  refine Ex.yes (decide_eq_true (by omega)) (Ex.be (a := !decide ((k : Int) = w) && !gs (heldL k m t) d') ?_ ?_)
  ·refine Ex.ite (fun hb => ?_) (fun hb => Ex.ret (by rw [hb]; rfl))
   exact Ex.be (implHeld_ex (by omega) _ _) (Ex.bc (implGo6 (hin _ _) ⟨by omega, hj.2⟩) (Ex.ret (by rw [hb]; rfl)))
  ·rw [w64_succ (by omega)]
   refine Ex.be (a := (([0, 1, 2, 3] : List Int).take (k + 1)).filter fun v => !decide (v = w) && !gs (heldL v m t) d') ?_ (next _ rfl)
   rw [hst]
   refine Ex.ite (fun hb => ?_) (fun hb => Ex.ret ?_)
   ·rw [if_pos hb]
    exact Ex.guard (by simp; omega) (Ex.ret (by simp))
   ·rw [hb, if_neg (by simp), List.append_nil]
 ·rintro _ rfl
  simp only [impl_LockBlockers_L1]
  exact Ex.no (decide_eq_false (by omega)) (Ex.ret rfl)
theorem implTake_ex (t : List Lck) (w m d : Int) : Ex (fun n => impl_TakeLock n t w m d) (· = takeL t w m d) := by
 unfold impl_TakeLock
 refine Ex.be (implTable_ex t) ?_
 have ha : askL t w m d = (validB t && impl_isAsk w m d) := rfl
 refine Ex.be (a := !decide (askL t w m d = true ∧ blockL t w m (joinM (heldL w m t) d) = [])) ?_ ?_
 ·refine Ex.ite (fun hb => Ex.ret ?_) (fun hb => Ex.ite (fun hb2 => Ex.ret ?_) (fun hb2 => ?_))
  ·rw [ha, notT hb]; simp
  ·rw [ha, notT hb2]; simp
  ·rw [ha, notF hb, notF hb2]
   refine Ex.be (implBlock_ex (notF hb) (notF hb2)) (Ex.ret ?_)
   cases blockL t w m (joinM (heldL w m t) d) with
   | nil => simp
   | cons a l => simp
 ·unfold takeL
  refine Ex.ite (fun hb => Ex.ret ?_) (fun hb => ?_)
  ·rw [if_neg (of_decide_eq_false (notT hb))]
  ·have hc := of_decide_eq_true (notF hb)
   rw [if_pos hc]
   rw [ha, Bool.and_eq_true] at hc
   obtain ⟨hl, hg⟩ := validB_iff.1 hc.1.1
   have hd := (okL_iff (x := ⟨w, m, d⟩)).1 hc.1.2
   simp only at hd
   refine Ex.bc (clone_lck (by omega)) (Ex.bind (lockAt_ex (by omega) w m) ?_)
   rintro r (⟨rfl, h⟩ | ⟨k, rfl, hk, h1, h2⟩)
   ·refine Ex.yes (by decide) (Ex.guard (by simp; omega) (Ex.ret ?_))
    rw [grant_none h]; simp
   ·have hmode := (okL_iff.1 (hg k hk).1).2.2
    refine Ex.no (decide_eq_false (by omega)) (Ex.guard (by omega) ?_)
    rw [Int.toNat_natCast]
    refine Ex.bc (implJoin6 (by omega) (by omega)) (Ex.guard (by omega) (Ex.ret ?_))
    rw [grant_at hk h1 h2]

/-! validity is kept -/
theorem good_pw {t : List Lck} : GoodL t ↔ (∀ x ∈ t, okL x = true) ∧ t.Pairwise fun x y => clash x y = false := by
 constructor
 ·intro h
  refine ⟨good_ok h, List.pairwise_iff_getElem.2 fun i j hi hj hij => ?_⟩
  have := (h j hj).2 i hij
  rwa [List.getD_eq_getElem?_getD, List.getD_eq_getElem?_getD, List.getElem?_eq_getElem hi, List.getElem?_eq_getElem hj] at this
 ·rintro ⟨h1, h2⟩ i hi
  rw [List.pairwise_iff_getElem] at h2
  refine ⟨by rw [List.getD_eq_getElem?_getD, List.getElem?_eq_getElem hi]; exact h1 _ (List.getElem_mem hi), fun j hj => ?_⟩
  have := h2 j i (by omega) hi hj
  rwa [List.getD_eq_getElem?_getD, List.getD_eq_getElem?_getD, List.getElem?_eq_getElem hi, List.getElem?_eq_getElem (show j < t.length by omega)]
theorem nodup_lt : ∀ (n : Nat) (l : List Nat), l.Nodup → (∀ x ∈ l, x < n) → l.length ≤ n
 | 0, l, _, h => by
  cases l with
  | nil => simp
  | cons x l => exact absurd (h x (by simp)) (by omega)
 | n + 1, l, hd, h => by
  have h1 : (l.erase n).length ≤ n := nodup_lt n (l.erase n) (hd.erase n) (fun x hx => by
   have h2 := (List.Nodup.mem_erase_iff hd).1 hx
   have := h x h2.2
   omega)
  rw [List.length_erase] at h1
  split at h1 <;> omega
theorem good_len {t : List Lck} (h : GoodL t) : t.length ≤ 48 := by
 obtain ⟨h1, h2⟩ := good_pw.1 h
 have hd : (t.map fun x => x.who.toNat * 12 + x.node.toNat).Nodup := by
  rw [List.Nodup, List.pairwise_map, List.pairwise_iff_getElem] at *
  intro i j hi hj hij e
  have hc := h2 i j hi hj hij
  have o1 := okL_iff.1 (h1 _ (List.getElem_mem hi))
  have o2 := okL_iff.1 (h1 _ (List.getElem_mem hj))
  have e1 : t[i].who = t[j].who := by omega
  have e2 : t[i].node = t[j].node := by omega
  rw [clash, decide_eq_true e1, decide_eq_true e2] at hc
  cases hc
 have := nodup_lt 48 _ hd (fun x hx => by
  obtain ⟨y, hy, rfl⟩ := List.mem_map.1 hx
  have := okL_iff.1 (h1 y hy)
  show y.who.toNat * 12 + y.node.toNat < 48
  omega)
 simpa using this
theorem valid_iff {t : List Lck} : validB t = true ↔ GoodL t := validB_iff.trans ⟨fun h => h.2, fun h => ⟨good_len h, h⟩⟩
theorem held_uniq {t : List Lck} (h : t.Pairwise fun x y => clash x y = false) : ∀ x ∈ t, heldL x.who x.node t = x.mode := by
 induction t with
 | nil => intro x hx; cases hx
 | cons y t ih =>
  intro x hx
  rw [List.pairwise_cons] at h
  rw [heldL]
  rcases List.mem_cons.1 hx with rfl | hx
  ·rw [if_pos (by simp [hitL])]
  ·by_cases hh : hitL x.who x.node y = true
   ·have := h.1 x hx
    simp only [hitL, Bool.and_eq_true, decide_eq_true_eq] at hh
    rw [clash, decide_eq_true hh.1, decide_eq_true hh.2] at this
    cases this
   ·rw [if_neg hh]
    exact ih h.2 x hx
theorem mem_grant {w n m J : Int} : ∀ {t : List Lck}, (∀ x ∈ t, hitL w n x = true → joinM x.mode m = J) → ((∀ x ∈ t, hitL w n x = false) → m = J) → ∀ y ∈ grantL w n m t, y ∈ t ∨ y = ⟨w, n, J⟩
 | [], _, hm, y, hy => by
  rw [grantL, List.mem_singleton] at hy
  rw [hy, hm (by simp)]; exact .inr rfl
 | x :: t, hj, hm, y, hy => by
  rw [grantL] at hy
  split at hy
  ·rename_i hh
   rcases List.mem_cons.1 hy with rfl | h
   ·have := hj x (by simp) hh
    simp only [hitL, Bool.and_eq_true, decide_eq_true_eq] at hh
    rw [this, hh.1, hh.2]; exact .inr rfl
   ·exact .inl (by simp [h])
  ·rename_i hh
   rcases List.mem_cons.1 hy with rfl | h
   ·exact .inl (by simp)
   ·rcases mem_grant (fun x hx => hj x (by simp [hx])) (fun h2 => hm (fun z hz => by
     rcases List.mem_cons.1 hz with rfl | h3
     ·simpa using hh
     ·exact h2 z h3)) y h with h | h
    ·exact .inl (by simp [h])
    ·exact .inr h
theorem grant_pw {w n m J : Int} : ∀ {t : List Lck}, (t.Pairwise fun x y => clash x y = false) → (∀ x ∈ t, hitL w n x = true → joinM x.mode m = J) → ((∀ x ∈ t, hitL w n x = false) → m = J) →
  (∀ x ∈ t, hitL w n x = false → clash x ⟨w, n, J⟩ = false) → (grantL w n m t).Pairwise fun x y => clash x y = false
 | [], _, _, _, _ => by simp [grantL]
 | x :: t, h, hj, hm, hb => by
  rw [List.pairwise_cons] at h
  rw [grantL]
  split
  ·rename_i hh
   rw [List.pairwise_cons]
   refine ⟨fun y hy => ?_, h.2⟩
   have hx := h.1 y hy
   have e : (⟨x.who, x.node, joinM x.mode m⟩ : Lck) = ⟨w, n, J⟩ := by
    have := hj x (by simp) hh
    simp only [hitL, Bool.and_eq_true, decide_eq_true_eq] at hh
    rw [this, hh.1, hh.2]
   rw [e, clash_symm]
   refine hb y (by simp [hy]) ?_
   cases hq : hitL w n y with
   | false => rfl
   | true =>
    simp only [hitL, Bool.and_eq_true, decide_eq_true_eq] at hh hq
    rw [clash, decide_eq_true (show x.node = y.node by rw [hh.2, hq.2]), decide_eq_true (show x.who = y.who by rw [hh.1, hq.1])] at hx
    cases hx
  ·rename_i hh
   have hh : hitL w n x = false := by simpa using hh
   have hm' : (∀ x ∈ t, hitL w n x = false) → m = J := fun h2 => hm (fun z hz => by
    rcases List.mem_cons.1 hz with rfl | h3
    ·exact hh
    ·exact h2 z h3)
   rw [List.pairwise_cons]
   refine ⟨fun y hy => ?_, grant_pw h.2 (fun z hz => hj z (by simp [hz])) hm' (fun z hz => hb z (by simp [hz]))⟩
   rcases mem_grant (fun z hz => hj z (by simp [hz])) hm' y hy with h3 | rfl
   ·exact h.1 y h3
   ·exact hb x (by simp) hh
theorem take_valid {t : List Lck} {w n m : Int} (h : (takeL t w n m).2 = true) : validB (takeL t w n m).1 = true := by
 rw [takeL] at h ⊢
 split at h
 case isFalse => cases h
 rename_i hc
 rw [if_pos hc]
 have ha := hc.1
 rw [askL, Bool.and_eq_true] at ha
 have hg := valid_iff.1 ha.1
 obtain ⟨h1, h2⟩ := good_pw.1 hg
 have ho := okL_iff.1 ha.2
 simp only at ho
 have hin := held_in h1 w n
 have hJ := joinM_in hin ho.2.2
 have hbl : ∀ v : Int, 0 ≤ v → v ≤ 3 → v ≠ w → gs (heldL v n t) (joinM (heldL w n t) m) = true := by
  intro v v0 v3 vw
  have := hc.2
  rw [blockL, List.filter_eq_nil_iff] at this
  have hv : v ∈ ([0, 1, 2, 3] : List Int) := by
   have : v = 0 ∨ v = 1 ∨ v = 2 ∨ v = 3 := by omega
   rcases this with rfl | rfl | rfl | rfl <;> simp
  have := this v hv
  rw [decide_eq_false vw] at this
  simpa using this
 have e1 : ∀ x ∈ t, hitL w n x = true → joinM x.mode m = joinM (heldL w n t) m := by
  intro x hx hh
  have := held_uniq h2 x hx
  simp only [hitL, Bool.and_eq_true, decide_eq_true_eq] at hh
  rw [hh.1, hh.2] at this
  rw [this]
 have e2 : (∀ x ∈ t, hitL w n x = false) → m = joinM (heldL w n t) m := by
  intro h3
  rw [held_none h3]
  have : m = 1 ∨ m = 2 ∨ m = 3 ∨ m = 4 ∨ m = 5 := by omega
  rcases this with rfl | rfl | rfl | rfl | rfl <;> rfl
 have e3 : ∀ x ∈ t, hitL w n x = false → clash x ⟨w, n, joinM (heldL w n t) m⟩ = false := by
  intro x hx hh
  rw [clash]
  by_cases hn : x.node = n
  ·have hw : x.who ≠ w := fun e => by rw [hitL, decide_eq_true e, decide_eq_true hn] at hh; cases hh
   have hxo := okL_iff.1 (h1 x hx)
   have hu := held_uniq h2 x hx
   rw [hn] at hu
   have := hbl x.who hxo.1.1 hxo.1.2 hw
   rw [hu] at this
   simp only
   rw [decide_eq_true hn, decide_eq_false hw, this]; rfl
  ·simp only
   rw [decide_eq_false hn]; rfl
 refine valid_iff.2 (good_pw.2 ⟨fun y hy => ?_, grant_pw h2 e1 e2 e3⟩)
 rcases mem_grant e1 e2 y hy with h3 | rfl
 ·exact h1 y h3
 ·exact okL_iff.2 ⟨ho.1, ho.2.1, hJ⟩
/-- locks are taken one by one -/
def takeA : List Lck → List Lck → Option (List Lck)
 | l, [] => some l
 | l, x :: r => if (takeL l x.who x.node x.mode).2 = true then takeA (takeL l x.who x.node x.mode).1 r else none
theorem takeA_valid : ∀ {r l l' : List Lck}, validB l = true → takeA l r = some l' → validB l' = true
 | [], l, l', h, e => by cases e; exact h
 | x :: r, l, l', h, e => by
  rw [takeA] at e
  split at e
  ·rename_i h1
   exact takeA_valid (take_valid h1) e
  ·cases e
theorem takeA_len : ∀ {r l l' : List Lck}, takeA l r = some l' → l'.length ≤ l.length + r.length
 | [], l, l', e => by cases e; simp
 | x :: r, l, l', e => by
  rw [takeA] at e
  split at e
  ·have h1 := takeA_len e
   have h2 := takeL_len l x.who x.node x.mode
   simp; omega
  ·cases e
def pairL : Option (List Lck) → List Lck × Bool
 | some l => (l, true)
 | none => ([], false)
theorem specTakeLoop_ex {r x1 : List Lck} (hr : r.length ≤ 1000000) : ∀ (m k : Nat) (l : List Lck), k + m = r.length → l.length + m ≤ 1000000 →
  Ex (fun n => spec_takeAll_L1 r x1 n l (k : Int)) (· = match takeA l (r.drop k) with | some l' => .inr l' | none => .inl ())
 | 0, k, l, hk, hl => by
  refine Ex.succ ?_
  simp only [spec_takeAll_L1]
  rw [List.drop_of_length_le (by omega)]
  exact Ex.no (decide_eq_false (by omega)) (Ex.ret rfl)
 | m + 1, k, l, hk, hl => by
  refine Ex.succ ?_
  simp only [spec_takeAll_L1, Int.toNat_natCast]
  rw [drop_at dlck (show k < r.length by omega), takeA]
  refine Ex.yes (decide_eq_true (by omega)) (Ex.guard (by omega) (Ex.guard (by omega) (Ex.guard (by omega) (Ex.be (specTake_ex (by omega) _ _ _) ?_))))
  have h2 := takeL_len l (r.getD k dlck).who (r.getD k dlck).node (r.getD k dlck).mode
  generalize takeL l (r.getD k dlck).who (r.getD k dlck).node (r.getD k dlck).mode = z at h2
  obtain ⟨l', b⟩ := z
  simp only at h2 ⊢
  cases b with
  | false => exact Ex.yes rfl (Ex.ret rfl)
  | true =>
   rw [if_pos rfl, w64_succ (by omega)]
   exact Ex.no rfl (specTakeLoop_ex hr m (k + 1) l' (by omega) (by omega))
theorem specTakeAll_ex {l r : List Lck} (hl : l.length ≤ 1000) (hr : r.length ≤ 1000) : Ex (fun n => spec_takeAll n l r) (· = pairL (takeA l r)) := by
 unfold spec_takeAll
 cases r with
 | nil =>
  refine Ex.be (a := .inr (.inr ())) (Ex.no rfl (Ex.ret rfl)) ?_
  exact Ex.guard (by simp; omega) (Ex.ret (by simp [takeA, pairL]))
 | cons x r =>
  have e : ∀ l' : List Lck, ([] : List Lck) ++ (l'.drop 0).take l'.length = l' := fun l' => by simp
  simp only [takeA]
  refine Ex.be (a := match (if (takeL l x.who x.node x.mode).2 = true then takeA (takeL l x.who x.node x.mode).1 r else none) with | some l' => .inr (.inl l') | none => .inl ()) ?_ ?_
  ·refine Ex.yes (by simp) (Ex.guard (by simp) (Ex.guard (by simp) (Ex.guard (by simp) (Ex.be (specTake_ex (by omega) _ _ _) ?_))))
   have h2 := takeL_len l x.who x.node x.mode
   simp only [List.getD_cons_zero]
   generalize takeL l x.who x.node x.mode = z at h2
   obtain ⟨l', b⟩ := z
   simp only at h2 ⊢
   cases b with
   | false => exact Ex.yes rfl (Ex.ret rfl)
   | true =>
    rw [if_pos rfl]
    have := specTakeLoop_ex (r := x :: r) (x1 := l) (by omega) r.length 1 l' (by simp; omega) (by simp at hr; omega)
    refine Ex.no rfl (Ex.be this ?_)
    rw [show (x :: r).drop 1 = r from rfl]
    cases takeA l' r with
    | some l2 => exact Ex.ret rfl
    | none => exact Ex.ret rfl
  ·have hln : ∀ l2, (if (takeL l x.who x.node x.mode).2 = true then takeA (takeL l x.who x.node x.mode).1 r else none) = some l2 → l2.length ≤ 10000 := by
    intro l2 h
    have := takeA_len (r := x :: r) (l := l) (l' := l2) (by rw [takeA]; exact h)
    simp at this hr; omega
   generalize (if (takeL l x.who x.node x.mode).2 = true then takeA (takeL l x.who x.node x.mode).1 r else none) = z at hln
   cases z with
   | none => exact Ex.ret rfl
   | some l2 =>
    have := hln l2 rfl
    exact Ex.guard (by simp; omega) (Ex.ret (by rw [e]; rfl))
theorem implTakeAll_ex {l r : List Lck} (hl : validB l = true) (hr : r.length ≤ 1000) : Ex (fun n => impl_TakeAll n l r) (· = pairL (takeA l r)) := by
 have h48 := (validB_iff.1 hl).1
 unfold impl_TakeAll
 refine Ex.be (implTable_ex l) ?_
 rw [hl]
 refine Ex.no rfl (Ex.bc (clone_lck (by omega)) ?_)
 refine Ex.be (a := match takeA l r with | some l' => .inr l' | none => .inl ()) ?_ ?_
 ·have key : ∀ (m k : Nat) (z : List Lck), k + m = r.length → Ex (fun n => impl_TakeAll_L1 r l n z (k : Int)) (· = match takeA z (r.drop k) with | some l' => .inr l' | none => .inl ()) := by
   intro m
   induction m with
   | zero =>
    intro k z hk
    refine Ex.succ ?_
    simp only [impl_TakeAll_L1]
    rw [List.drop_of_length_le (by omega)]
    exact Ex.no (decide_eq_false (by omega)) (Ex.ret rfl)
   | succ m ih =>
    intro k z hk
    refine Ex.succ ?_
    simp only [impl_TakeAll_L1, Int.toNat_natCast]
    rw [drop_at dlck (show k < r.length by omega), takeA]
    refine Ex.yes (decide_eq_true (by omega)) (Ex.guard (by omega) (Ex.be (implTake_ex _ _ _ _) ?_))
    generalize takeL z (r.getD k dlck).who (r.getD k dlck).node (r.getD k dlck).mode = y
    obtain ⟨l', b⟩ := y
    simp only
    cases b with
    | false => exact Ex.yes rfl (Ex.ret rfl)
    | true =>
     rw [if_pos rfl, w64_succ (by omega)]
     exact Ex.no rfl (ih (k + 1) l' (by omega))
  exact key r.length 0 l (by omega)
 ·cases takeA l r with
  | none => exact Ex.ret rfl
  | some l' => exact Ex.ret rfl
/-- the locks of one are let go -/
def freeL (l : List Lck) (w : Int) : List Lck := l.filter fun x => !decide (x.who = w)
theorem free_valid {l : List Lck} (h : validB l = true) (w : Int) : validB (freeL l w) = true := by
 obtain ⟨h1, h2⟩ := good_pw.1 (valid_iff.1 h)
 exact valid_iff.2 (good_pw.2 ⟨fun x hx => h1 x (List.mem_filter.1 hx).1, h2.filter _⟩)
theorem eta_lck (x : Lck) : (⟨x.who, x.node, x.mode⟩ : Lck) = x := rfl
theorem free_step {l : List Lck} {k : Nat} (hk : k < l.length) (w : Int) : freeL (l.take (k + 1)) w = freeL (l.take k) w ++ if (!decide ((l.getD k dlck).who = w)) = true then [l.getD k dlck] else [] := by
 have : l[k]? = some (l.getD k dlck) := by rw [List.getD_eq_getElem?_getD, List.getElem?_eq_getElem hk]; rfl
 rw [freeL, List.take_add_one, this, List.filter_append]
 congr 1
 simp only [Option.toList, List.filter_cons, List.filter_nil]
theorem implFree_ex {l : List Lck} (h : validB l = true) (w : Int) : Ex (fun n => impl_FreeLocks n l w) (· = freeL l w) := by
 have h48 := (validB_iff.1 h).1
 unfold impl_FreeLocks
 refine Ex.be (implTable_ex l) ?_
 rw [h]
 refine Ex.no rfl (Ex.be (a := freeL l w) ?_ (Ex.ret rfl))
 refine up l.length (fun k (x : List Lck) => x = freeL (l.take k) w) (f := fun n x i => impl_FreeLocks_L1 w l n x i) ?_ ?_ 0 [] (Nat.zero_le _) rfl
 ·rintro k _ hk rfl next
  have hlen : (freeL (l.take k) w).length ≤ 48 := Nat.le_trans (List.length_filter_le _ _) (by simp; omega)
  simp only [impl_FreeLocks_L1, Int.toNat_natCast, eta_lck]
  refine Ex.yes (decide_eq_true (by omega)) (Ex.guard (by omega) (Ex.be (a := freeL (l.take (k + 1)) w) ?_ ?_))
  ·rw [free_step hk]
   refine Ex.ite (fun hb => ?_) (fun hb => Ex.ret ?_)
   ·rw [if_pos hb]
    exact Ex.guard (by simp; omega) (Ex.ret (by simp))
   ·rw [hb, if_neg (by simp), List.append_nil]
  ·rw [w64_succ (by omega)]
   exact next _ rfl
 ·rintro _ rfl
  simp only [impl_FreeLocks_L1]
  exact Ex.no (decide_eq_false (by omega)) (Ex.ret (by rw [List.take_length]))
theorem specFree_ex {l : List Lck} (h : validB l = true) (w : Int) : Ex (fun n => spec_FreeLocks n l w) (· = freeL l w) := by
 have h48 := (validB_iff.1 h).1
 unfold spec_FreeLocks
 refine Ex.be (specTable_ex (by omega)) ?_
 rw [h]
 refine Ex.no rfl (Ex.be (a := freeL l w) ?_ (Ex.ret rfl))
 refine up l.length (fun k (x : List Lck) => x = freeL (l.take k) w) (f := fun n x i => spec_FreeLocks_L1 l w n x i) ?_ ?_ 0 [] (Nat.zero_le _) rfl
 ·rintro k _ hk rfl next
  have hlen : (freeL (l.take k) w).length ≤ 48 := Nat.le_trans (List.length_filter_le _ _) (by simp; omega)
  simp only [spec_FreeLocks_L1, Int.toNat_natCast, eta_lck]
  refine Ex.yes (decide_eq_true (by omega)) (Ex.guard (by omega) (Ex.be (a := freeL (l.take (k + 1)) w) ?_ ?_))
  ·rw [free_step hk]
   refine Ex.ite (fun hb => ?_) (fun hb => Ex.ret ?_)
   ·rw [if_pos hb]
    exact Ex.guard (by omega) (Ex.guard (by simp; omega) (Ex.ret (by simp)))
   ·rw [hb, if_neg (by simp), List.append_nil]
  ·rw [w64_succ (by omega)]
   exact next _ rfl
 ·rintro _ rfl
  simp only [spec_FreeLocks_L1]
  exact Ex.no (decide_eq_false (by omega)) (Ex.ret (by rw [List.take_length]))
end
section
open Go
set_option linter.unusedVariables false
theorem pu_app : ∀ (l r : Str) (a u : Nat), Lib.parseUint10 a l = .ok u → Lib.parseUint10 a (l ++ r) = Lib.parseUint10 u r
 | [], r, a, u, h => by
  cases h; rfl
 | c :: l, r, a, u, h => by
  rw [List.cons_append]
  simp only [Lib.parseUint10] at h ⊢
  split at h
  ·rename_i h1
   rw [if_pos h1]
   split at h
   ·cases h
   ·rename_i h2
    rw [if_neg h2]
    split at h
    ·cases h
    ·rename_i h3
     rw [if_neg h3]
     exact pu_app l r _ u h
  ·cases h
theorem pu_dig : ∀ (u : Nat), u ≤ 1000000000000 → Lib.parseUint10 0 (Lib.decDigits u) = .ok u := by
 intro u
 induction u using Nat.strongRecOn with
 | ind u ih =>
  intro hu
  by_cases h : u < 10
  ·rw [dig_small h]
   simp only [Lib.parseUint10, ofNat_digit h]
   rw [if_pos (by omega), if_neg (by omega), if_neg (by omega)]
   congr 1
   omega
  ·rw [dig_big h, pu_app _ _ _ _ (ih (u / 10) (by omega) (by omega))]
   simp only [Lib.parseUint10, ofNat_digit (show u % 10 < 10 by omega)]
   rw [if_pos (by omega), if_neg (by omega), if_neg (by omega)]
   congr 1
   omega
theorem mag_dig {u : Nat} (hu : u ≤ 1000000000000) : Lib.parseMag (Lib.decDigits u) = .ok u := by
 rw [Lib.parseMag, if_neg (digits_ne u), pu_dig u hu]
theorem atoi_itoa {v : Int} (h0 : -1000000 ≤ v) (h1 : v ≤ 1000000) : Lib.atoiAll (Lib.itoa v) = .ok v := by
 unfold Lib.itoa
 split
 ·rename_i h
  rw [show ((45 : UInt8) :: Lib.decDigits v.natAbs) = 45 :: Lib.decDigits v.natAbs from rfl, Lib.atoiAll_minus, mag_dig (by omega)]
  simp only [Lib.signed]
  rw [if_neg (by omega)]
  congr 1
  omega
 ·rename_i h
  have hd := digits_ok v.toNat
  cases hc : Lib.decDigits v.toNat with
  | nil => exact absurd hc (digits_ne _)
  | cons c r =>
   have hc2 := hd c (by rw [hc]; simp)
   rw [Lib.atoiAll_plain c r (by omega) (by omega), ← hc, mag_dig (by omega)]
   simp only [Lib.signless]
   rw [if_neg (by omega)]
   congr 1
   omega
end
section
open Go
set_option linter.unusedVariables false
theorem specRes_ex {t : List Nod} (h : VT t) (s : Str) : Ex (fun n => spec_resolve n t s) (· = res t s) := by
 have hhi := h.hi
 unfold spec_resolve
 refine Ex.bind (P := fun v => (match v with | .inl i => i | .inr _ => -1) = res t s) ?_ ?_
 ·rw [← res_first h s]
  refine upU t.length (fun k => firstAt (fun i => decide (ptx (np t i) = s)) ((List.range t.length).drop k) k = firstAt (fun i => decide (ptx (np t i) = s)) (List.range t.length) 0) ?_ ?_ 0 (Nat.zero_le _) (by simp)
  ·intro k hk hi next
   simp only [spec_resolve_L1]
   rw [drop_at 0 (by simpa using hk), firstAt] at hi
   have e : (List.range t.length).getD k 0 = k := by rw [List.getD_eq_getElem?_getD, List.getElem?_range hk]; rfl
   rw [e] at hi
   refine Ex.yes (decide_eq_true (by omega)) (Ex.be (specPathText_ex h hk) (Ex.ite (fun hb => Ex.ret ?_) (fun hb => ?_)))
   ·rw [if_pos hb] at hi; exact hi
   ·rw [if_neg (by rw [hb]; simp)] at hi
    rw [w64_succ (by omega)]
    exact next hi
  ·intro hi
   simp only [spec_resolve_L1]
   refine Ex.no (decide_eq_false (by omega)) (Ex.ret ?_)
   rw [List.drop_eq_nil_of_le (by simp), firstAt] at hi; exact hi
 ·intro v hv
  rcases v with i | u
  ·exact Ex.ret hv
  ·exact Ex.ret hv
theorem idx_none {c : UInt8} : ∀ {s : Str}, c ∉ s → Lib.indexByte s c = -1
 | [], _ => rfl
 | x :: s, h => by
  simp only [List.mem_cons, not_or] at h
  rw [Lib.indexByte, if_neg (by simp; exact Ne.symm h.1), idx_none h.2, if_pos (by decide)]
theorem idx_at {c : UInt8} {b : Str} : ∀ {a : Str}, c ∉ a → Lib.indexByte (a ++ c :: b) c = a.length
 | [], _ => by rw [List.nil_append, Lib.indexByte, if_pos (by simp)]; rfl
 | x :: a, h => by
  simp only [List.mem_cons, not_or] at h
  rw [List.cons_append, Lib.indexByte, if_neg (by simp; exact Ne.symm h.1), idx_at h.2, if_neg (by simp <;> omega)]; simp
theorem index1 (s : Str) (c : UInt8) : stringslite_Index s [c] = some (Lib.indexByte s c) := by
 unfold stringslite_Index
 have e0 : decide ((([c] : Str).length : Int) = 0) = false := by simp
 have e1 : decide ((([c] : Str).length : Int) = 1) = true := by simp
 rw [e0, e1, Bool.false_or]
 by_cases h : ([c] : Str) = s
 ·subst h
  rw [decide_eq_true rfl]
  show some (0 : Int) = some (Lib.indexByte [c] c)
  rw [Lib.indexByte, if_pos (by simp)]
 ·rw [decide_eq_false h]
  simp only [iteO_false, iteO_true]
  rw [guardO_pos (by simp)]
  show some (stringslite_IndexByte s ((([c] : Str).getD (0 : Int).toNat 0).toNat : Int)) = _
  have : (([c] : Str).getD (0 : Int).toNat 0) = c := rfl
  rw [this, stringslite_IndexByte, Int.toNat_natCast, UInt8.ofNat_toNat]
theorem cut_none {c : UInt8} {s : Str} (h : c ∉ s) : strings_Cut s [c] = some (s, [], false) := by
 unfold strings_Cut stringslite_Cut
 rw [index1, idx_none h]; rfl
theorem cut_some {c : UInt8} {a b : Str} (h : c ∉ a) (hl : (a ++ c :: b).length ≤ 1000000000000) : strings_Cut (a ++ c :: b) [c] = some (a, b, true) := by
 unfold strings_Cut stringslite_Cut
 simp only [List.length_append, List.length_cons] at hl
 rw [index1, idx_at h]
 simp only [bindO_some]
 rw [decide_eq_true (by omega)]
 simp only [iteO_true]
 have e : w64 ((a.length : Int) + (([c] : Str).length : Int)) = ((a.length + 1 : Nat) : Int) := by
  rw [w64_id (by simp; omega) (by simp; omega)]; simp
 rw [e, guardO_pos (by simp; omega), guardO_pos (by simp; omega), Int.toNat_natCast, Int.toNat_natCast]
 show some _ = some _
 congr 2
 ·simp
 ·congr 1
  have : a ++ c :: b = (a ++ [c]) ++ b := by simp
  rw [this]
  exact List.drop_left' (by simp)
theorem implRes_ex {t : List Nod} {s : Str} (hs : s.length ≤ 1000000000000) : Ex (fun n => impl_ResolvePath n t s) (· = if validT t = true then res t s else -1) := by
 unfold impl_ResolvePath
 refine Ex.be (implTree_ex t) ?_
 cases hv : validT t with
 | false => exact Ex.yes rfl (Ex.ret rfl)
 | true =>
  have h := validT_iff.1 hv
  have hhi := h.hi
  rw [if_pos rfl]
  refine Ex.no rfl ?_
  have hc : strings_CutPrefix s [47] = some (match s with | [] => (s, false) | c :: r => if c = 47 then (r, true) else (s, false)) := by
   unfold strings_CutPrefix stringslite_CutPrefix stringslite_HasPrefix
   cases s with
   | nil => rfl
   | cons c r =>
    have e : decide ((([47] : Str).length : Int) ≤ (((c :: r : Str).length : Nat) : Int)) = true := decide_eq_true (by simp; omega)
    rw [e]
    simp only [iteO_true]
    rw [guardO_pos (by simp; omega)]
    by_cases hc : c = 47
    ·subst hc
     have e9 : (1 : Int) ≤ (r.length : Int) + 1 := by omega
     simp [iteO_false, bindO, guardO, e9]
    ·rw [if_neg hc]
     have : decide (((c :: r).take ((([47] : Str).length : Int).toNat)) = [47]) = false := decide_eq_false (by simp; exact hc)
     rw [this]; rfl
  rw [hc]
  cases s with
  | nil => exact Ex.bc rfl (Ex.yes rfl (Ex.ret res_nil.symm))
  | cons c r =>
   rw [res_desc h]
   by_cases hc : c = 47
   ·rw [if_pos hc]
    simp only [hc, if_true]
    refine Ex.bc rfl (Ex.no rfl ?_)
    by_cases hr : r = []
    ·rw [if_pos hr]; exact Ex.yes (decide_eq_true hr) (Ex.ret rfl)
    ·rw [if_neg hr]
     refine Ex.no (decide_eq_false hr) ?_
     have key : ∀ (m : Nat) (r : Str) (a : Int), r.length ≤ m → m ≤ 1000000000000 → Ex (fun n => impl_ResolvePath_L1 t n r a true) (fun v => (match v with | .inl _ => -1 | .inr i => i) = desc t a (spl 47 r)) := by
      intro m
      induction m with
      | zero =>
       intro r a h1 h2
       have : r = [] := List.eq_nil_of_length_eq_zero (by omega)
       subst this
       refine Ex.succ ?_
       simp only [impl_ResolvePath_L1]
       refine Ex.yes rfl (Ex.bc (cut_none (by simp)) (Ex.be (implKid_ex (by omega) a []) ?_))
       rw [spl, desc]
       refine Ex.ite (fun hb => Ex.ret ?_) (fun hb => ?_)
       ·rw [if_pos (of_decide_eq_true hb)]
       ·rw [if_neg (of_decide_eq_false hb)]
        refine Ex.succ ?_
        simp only [impl_ResolvePath_L1]
        exact Ex.no rfl (Ex.ret rfl)
      | succ m ih =>
       intro r a h1 h2
       refine Ex.succ ?_
       simp only [impl_ResolvePath_L1]
       refine Ex.yes rfl ?_
       rcases cut_at 47 r with h3 | ⟨x, y, rfl, h3⟩
       ·refine Ex.bc (cut_none h3) (Ex.be (implKid_ex (by omega) a r) ?_)
        rw [spl_none h3, desc]
        refine Ex.ite (fun hb => Ex.ret ?_) (fun hb => ?_)
        ·rw [if_pos (of_decide_eq_true hb)]
        ·rw [if_neg (of_decide_eq_false hb)]
         refine Ex.succ ?_
         simp only [impl_ResolvePath_L1]
         exact Ex.no rfl (Ex.ret rfl)
       ·refine Ex.bc (cut_some h3 (by omega)) (Ex.be (implKid_ex (by omega) a x) ?_)
        rw [spl_at h3, desc]
        refine Ex.ite (fun hb => Ex.ret ?_) (fun hb => ?_)
        ·rw [if_pos (of_decide_eq_true hb)]
        ·rw [if_neg (of_decide_eq_false hb)]
         simp only [List.length_append, List.length_cons] at h1
         exact ih y _ (by omega) (by omega)
     refine Ex.bind (key r.length r 0 (Nat.le_refl _) (by simp at hs; omega)) ?_
     intro v hv
     rcases v with u | i
     ·exact Ex.ret hv
     ·exact Ex.ret hv
   ·rw [if_neg hc]
    simp only [if_neg hc]
    exact Ex.bc rfl (Ex.yes rfl (Ex.ret rfl))
end
section
open Go
set_option linter.unusedVariables false
/-- the same parents and names -/
theorem np_congr {t u : List Nod} {n : Nat} (h1 : ∀ i, i < n → pa u i = pa t i) (h2 : ∀ i, i < n → nmo u i = nmo t i) : ∀ i, i < n → np u i = np t i := by
 intro i
 induction i using Nat.strongRecOn with
 | ind i ih =>
  intro hi
  have e1 := h1 i hi
  have e2 := h2 i hi
  simp only [pa, nmo] at e1 e2
  rw [np.eq_1 u i, np.eq_1 t i, e1, e2]
  split
  ·rename_i h; rw [ih _ h.2 (by omega)]
  ·rfl
theorem dp_congr {t u : List Nod} {n : Nat} (h1 : ∀ i, i < n → pa u i = pa t i) (h2 : ∀ i, i < n → nmo u i = nmo t i) {i : Nat} (hi : i < n) : dp u i = dp t i := by
 rw [← np_len, ← np_len, np_congr h1 h2 i hi]
variable {t : List Nod}
/-- another value -/
def setT (t : List Nod) (k : Nat) (v : Int) : List Nod := t.set k ⟨pa t k, nmo t k, v⟩
theorem setT_len (k : Nat) (v : Int) : (setT t k v).length = t.length := by simp [setT]
theorem setT_at {k : Nat} (hk : k < t.length) (v : Int) (i : Nat) : (setT t k v).getD i dnod = if k = i then ⟨pa t k, nmo t k, v⟩ else t.getD i dnod := getD_set' hk i
theorem setT_pa {k : Nat} (hk : k < t.length) (v : Int) (i : Nat) : pa (setT t k v) i = pa t i := by
 rw [pa, setT_at hk]
 split
 ·rename_i e; rw [e]
 ·rfl
theorem setT_nm {k : Nat} (hk : k < t.length) (v : Int) (i : Nat) : nmo (setT t k v) i = nmo t i := by
 rw [nmo, setT_at hk]
 split
 ·rename_i e; rw [e]
 ·rfl
theorem setT_va {k : Nat} (hk : k < t.length) (v : Int) (i : Nat) : va (setT t k v) i = if k = i then v else va t i := by
 rw [va, setT_at hk]
 split <;> rfl
theorem setT_VT (h : VT t) {k : Nat} (hk : k < t.length) {v : Int} (hv : -1000 ≤ v ∧ v ≤ 1000) : VT (setT t k v) := by
 refine ⟨by rw [setT_len]; exact h.lo, by rw [setT_len]; exact h.hi, fun i hi => ?_, by rw [setT_pa hk]; exact h.rp, by rw [setT_nm hk]; exact h.rn, fun i h0 hi => ?_, fun i h0 hi => ?_, fun i j h0 hij hj => ?_, fun i hi => ?_⟩ <;> rw [setT_len] at *
 ·rw [setT_va hk]
  split
  ·exact hv
  ·exact h.val i hi
 ·rw [setT_pa hk]; exact h.par i h0 hi
 ·rw [setT_nm hk]; exact h.nam i h0 hi
 ·rw [setT_pa hk, setT_pa hk, setT_nm hk, setT_nm hk]; exact h.sib i j h0 hij hj
 ·rw [dp_congr (n := t.length) (fun i _ => setT_pa hk v i) (fun i _ => setT_nm hk v i) hi]; exact h.dep i hi
/-- a node more -/
theorem app_at {x : Nod} {i : Nat} (hi : i < t.length) : (t ++ [x]).getD i dnod = t.getD i dnod := by
 rw [List.getD_eq_getElem?_getD, List.getElem?_append_left hi, List.getD_eq_getElem?_getD]
theorem app_last {x : Nod} : (t ++ [x]).getD t.length dnod = x := by
 rw [List.getD_eq_getElem?_getD, List.getElem?_append_right (Nat.le_refl _)]; simp
theorem app_np {x : Nod} {i : Nat} (hi : i < t.length) : np (t ++ [x]) i = np t i := np_congr (n := t.length) (fun i hi => by rw [pa, app_at hi]; rfl) (fun i hi => by rw [nmo, app_at hi]; rfl) i hi
theorem app_np_last {x : Nod} (h0 : 0 ≤ x.parent) (h1 : x.parent.toNat < t.length) : np (t ++ [x]) t.length = np t x.parent.toNat ++ [x.name] := by
 rw [np, app_last, dif_pos ⟨h0, h1⟩, app_np h1]
/-- when a node more fits -/
structure Fits (t : List Nod) (x : Nod) : Prop where
 room : t.length < 12
 val : -1000 ≤ x.value ∧ x.value ≤ 1000
 p0 : 0 ≤ x.parent
 p1 : x.parent.toNat < t.length
 nam : nameOk x.name = true
 new : loo t (np t x.parent.toNat ++ [x.name]) = none
 dep : (np t x.parent.toNat).length ≤ 3
theorem fits_iff (h : VT t) {x : Nod} : VT (t ++ [x]) ↔ Fits t x := by
 have hlo := h.lo
 constructor
 ·intro h'
  have hl : t.length < (t ++ [x]).length := by simp
  have h1 := h'.hi
  simp only [List.length_append, List.length_singleton] at h1
  have h2 := h'.val t.length hl
  have h3 := h'.par t.length (by omega) hl
  have h4 := h'.nam t.length (by omega) hl
  have h5 := h'.dep t.length hl
  rw [va, app_last] at h2
  rw [pa, app_last] at h3
  rw [nmo, app_last] at h4
  rw [← np_len, app_np_last h3.1 h3.2] at h5
  simp only [List.length_append, List.length_singleton] at h5
  refine ⟨by omega, h2, h3.1, h3.2, h4, loo_none.2 (fun i hi e => ?_), by omega⟩
  have := np_inj h' i (by simp; omega) t.length hl (by rw [app_np hi, app_np_last h3.1 h3.2, e])
  omega
 ·intro f
  have key : ∀ i, i < (t ++ [x]).length → i < t.length ∨ i = t.length := fun i hi => by simp at hi; omega
  refine ⟨by simp, by have := f.room; simp; omega, fun i hi => ?_, by rw [pa, app_at hlo]; exact h.rp, by rw [nmo, app_at hlo]; exact h.rn, fun i h0 hi => ?_, fun i h0 hi => ?_, fun i j h0 hij hj e => ?_, fun i hi => ?_⟩
  ·rcases key i hi with h1 | rfl
   ·rw [va, app_at h1]; exact h.val i h1
   ·rw [va, app_last]; exact f.val
  ·rcases key i hi with h1 | rfl
   ·rw [pa, app_at h1]; exact h.par i h0 h1
   ·rw [pa, app_last]; exact ⟨f.p0, f.p1⟩
  ·rcases key i hi with h1 | rfl
   ·rw [nmo, app_at h1]; exact h.nam i h0 h1
   ·rw [nmo, app_last]; exact f.nam
  ·rcases key j hj with h1 | rfl
   ·rw [pa, app_at (by omega), pa, app_at h1] at e
    rw [nmo, app_at (by omega), nmo, app_at h1]
    exact h.sib i j h0 hij h1 e
   ·rw [pa, app_at hij, pa, app_last] at e
    rw [nmo, app_at hij, nmo, app_last]
    intro e2
    refine loo_none.1 f.new i hij ?_
    rw [np_pos h h0 hij, pa, nmo, e, e2]
  ·rcases key i hi with h1 | rfl
   ·rw [← np_len, app_np h1, np_len]; exact h.dep i h1
   ·have := f.dep
    rw [← np_len, app_np_last f.p0 f.p1]; simp; omega
/-- what stays when a node is dropped -/
def kept (t : List Nod) (k j : Nat) : Bool := !decide (k ∈ ix t j)
def cnt (t : List Nod) (k j : Nat) : Nat := ((List.range j).filter (kept t k)).length
def moved (t : List Nod) (k j : Nat) : Nod := ⟨if 0 < j then (cnt t k (pa t j).toNat : Int) else pa t j, nmo t j, va t j⟩
def dropT (t : List Nod) (k : Nat) : List Nod := ((List.range t.length).filter (kept t k)).map (moved t k)
theorem ix_le (t : List Nod) : ∀ i, ∀ k ∈ ix t i, k ≤ i := by
 intro i
 induction i using Nat.strongRecOn with
 | ind i ih =>
  intro k hk
  rw [ix] at hk
  split at hk
  ·rename_i h
   rcases List.mem_append.1 hk with h1 | h1
   ·have := ih _ h.2 k h1; omega
   ·rw [List.mem_singleton.1 h1]; exact Nat.le_refl _
  ·rw [List.mem_singleton.1 hk]; exact Nat.le_refl _
theorem ix_self (t : List Nod) (i : Nat) : i ∈ ix t i := by
 rw [ix]; split <;> simp
theorem cnt_succ (t : List Nod) (k j : Nat) : cnt t k (j + 1) = cnt t k j + (if kept t k j = true then 1 else 0) := by
 rw [cnt, cnt, List.range_succ, List.filter_append, List.length_append, List.filter_cons]
 split <;> rfl
theorem cnt_mono (t : List Nod) (k : Nat) : ∀ {i j : Nat}, i ≤ j → cnt t k i ≤ cnt t k j := by
 intro i j hij
 induction j with
 | zero => rw [show i = 0 by omega]; exact Nat.le_refl _
 | succ j ih =>
  rcases Nat.eq_or_lt_of_le hij with rfl | h
  ·exact Nat.le_refl _
  ·have := ih (by omega); rw [cnt_succ]; omega
theorem cnt_lt {k i j : Nat} (hij : i < j) (hk : kept t k i = true) : cnt t k i < cnt t k j := by
 have := cnt_mono t k (show i + 1 ≤ j from hij)
 rw [cnt_succ, if_pos hk] at this; omega
theorem cnt_le (t : List Nod) (k j : Nat) : cnt t k j ≤ j := by
 have := List.length_filter_le (kept t k) (List.range j)
 simpa [cnt] using this
theorem keep_at {k n j : Nat} (hj : j < n) (hk : kept t k j = true) : ((List.range n).filter (kept t k))[cnt t k j]? = some j := by
 induction n with
 | zero => omega
 | succ n ih =>
  rw [List.range_succ, List.filter_append]
  rcases Nat.eq_or_lt_of_le (Nat.le_of_lt_succ hj) with rfl | h
  ·rw [List.getElem?_append_right (by rw [cnt]; exact Nat.le_refl _)]
   rw [List.filter_cons, if_pos hk]
   rw [show cnt t k j - ((List.range j).filter (kept t k)).length = 0 by rw [cnt]; omega]; rfl
  ·rw [List.getElem?_append_left (by have := cnt_lt (t := t) h hk; rw [cnt, cnt] at this; exact this)]
   exact ih h
theorem keep_ex {k n m : Nat} (hm : m < cnt t k n) : ∃ j, j < n ∧ kept t k j = true ∧ cnt t k j = m := by
 induction n with
 | zero => rw [cnt] at hm; simp at hm
 | succ n ih =>
  rw [cnt_succ] at hm
  by_cases h : m < cnt t k n
  ·obtain ⟨j, h1, h2, h3⟩ := ih h
   exact ⟨j, by omega, h2, h3⟩
  ·split at hm
   ·rename_i hk; exact ⟨n, by omega, hk, by omega⟩
   ·omega
theorem dropT_len (k : Nat) : (dropT t k).length = cnt t k t.length := by rw [dropT, List.length_map]; rfl
theorem dropT_at {k j : Nat} (hj : j < t.length) (hk : kept t k j = true) : (dropT t k).getD (cnt t k j) dnod = moved t k j := by
 rw [List.getD_eq_getElem?_getD, dropT, List.getElem?_map, keep_at hj hk]; rfl
theorem kept_up (h : VT t) {k j : Nat} (h0 : 0 < j) (hj : j < t.length) (hk : kept t k j = true) : kept t k (pa t j).toNat = true := by
 simp only [kept, Bool.not_eq_true', decide_eq_false_iff_not] at hk ⊢
 intro h1
 exact hk (by rw [ix_pos h h0 hj]; exact List.mem_append_left _ h1)
theorem kept0 (h : VT t) {k : Nat} (hk0 : 0 < k) : kept t k 0 = true := by
 simp only [kept, Bool.not_eq_true', decide_eq_false_iff_not]
 intro h1
 have := ix_le t 0 k h1; omega
theorem cnt0 (t : List Nod) (k : Nat) : cnt t k 0 = 0 := rfl
theorem dropT_np (h : VT t) {k : Nat} (hk0 : 0 < k) : ∀ j, j < t.length → kept t k j = true → np (dropT t k) (cnt t k j) = np t j := by
 intro j
 induction j using Nat.strongRecOn with
 | ind j ih =>
  intro hj hk
  rcases Nat.eq_zero_or_pos j with rfl | h0
  ·rw [cnt0, np, dif_neg (by omega), np_zero h]
  ·have p := h.par j h0 hj
   have hu := kept_up h h0 hj hk
   rw [np, dropT_at hj hk]
   have e : (moved t k j).parent = (cnt t k (pa t j).toNat : Int) := by rw [moved, if_pos h0]
   rw [dif_pos ⟨by rw [e]; omega, by rw [e, Int.toNat_natCast]; exact cnt_lt p.2 hu⟩]
   simp only [e, Int.toNat_natCast]
   rw [ih _ p.2 (by omega) hu, np_pos h h0 hj]; rfl
theorem dropT_ex {k m : Nat} (hm : m < (dropT t k).length) : ∃ j, j < t.length ∧ kept t k j = true ∧ cnt t k j = m := keep_ex (by rwa [dropT_len] at hm)
theorem dropT_VT (h : VT t) {k : Nat} (hk0 : 0 < k) : VT (dropT t k) := by
 have hlo := h.lo
 have hhi := h.hi
 have hk00 := kept0 h hk0
 have at0 : (dropT t k).getD 0 dnod = moved t k 0 := by have := dropT_at hlo hk00; rwa [cnt0] at this
 refine ⟨?_, ?_, fun i hi => ?_, ?_, ?_, fun i h0 hi => ?_, fun i h0 hi => ?_, fun i j h0 hij hj e => ?_, fun i hi => ?_⟩
 ·rw [dropT_len]
  have := cnt_lt (t := t) hlo hk00
  omega
 ·rw [dropT_len]; have := cnt_le t k t.length; omega
 ·obtain ⟨j, h1, h2, rfl⟩ := dropT_ex hi
  rw [va, dropT_at h1 h2]; exact h.val j h1
 ·rw [pa, at0]; exact h.rp
 ·rw [nmo, at0]; exact h.rn
 ·obtain ⟨j, h1, h2, rfl⟩ := dropT_ex hi
  have hj0 : 0 < j := by
   rcases Nat.eq_zero_or_pos j with rfl | h
   ·rw [cnt0] at h0; omega
   ·exact h
  rw [pa, dropT_at h1 h2, moved, if_pos hj0]
  have p := h.par j hj0 h1
  exact ⟨by simp only; omega, by simp only [Int.toNat_natCast]; exact cnt_lt p.2 (kept_up h hj0 h1 h2)⟩
 ·obtain ⟨j, h1, h2, rfl⟩ := dropT_ex hi
  have hj0 : 0 < j := by
   rcases Nat.eq_zero_or_pos j with rfl | h
   ·rw [cnt0] at h0; omega
   ·exact h
  rw [nmo, dropT_at h1 h2]; exact h.nam j hj0 h1
 ·obtain ⟨a, a1, a2, rfl⟩ := dropT_ex (show i < (dropT t k).length by omega)
  obtain ⟨b, b1, b2, rfl⟩ := dropT_ex hj
  have ha0 : 0 < a := by
   rcases Nat.eq_zero_or_pos a with rfl | h
   ·rw [cnt0] at h0; omega
   ·exact h
  have hab : a < b := by
   rcases Nat.lt_or_ge a b with h | h
   ·exact h
   ·have := cnt_mono t k h; omega
  have pA := h.par a ha0 a1
  have pB := h.par b (by omega) b1
  rw [pa, dropT_at a1 a2, pa, dropT_at b1 b2, moved, moved, if_pos ha0, if_pos (by omega)] at e
  simp only at e
  rw [nmo, dropT_at a1 a2, nmo, dropT_at b1 b2]
  refine h.sib a b ha0 hab b1 ?_
  have uA := kept_up h ha0 a1 a2
  have uB := kept_up h (show 0 < b by omega) b1 b2
  rcases Nat.lt_trichotomy (pa t a).toNat (pa t b).toNat with h3 | h3 | h3
  ·have := cnt_lt h3 uA; omega
  ·omega
  ·have := cnt_lt h3 uB; omega
 ·obtain ⟨j, h1, h2, rfl⟩ := dropT_ex hi
  rw [← np_len, dropT_np h hk0 j h1 h2, np_len]; exact h.dep j h1
end
section
open Go
set_option linter.unusedVariables false
def addP (t : List Nod) (s : Str) (v : Int) : Option (List Nod) :=
 match pth s with
 | none => none
 | some l => match l.getLast?, loo t l.dropLast with
  | some n, some p => if validT (t ++ [⟨(p : Int), n, v⟩]) = true then some (t ++ [⟨(p : Int), n, v⟩]) else none
  | _, _ => none
def dropP (t : List Nod) (s : Str) : Option (List Nod) :=
 match resO t s with
 | some k => if 0 < k then some (dropT t k) else none
 | none => none
/-- one edit -/
def app1 (t : List Nod) (e : Edt) : Option (List Nod) :=
 if e.kind = 1 then (if e.value = 0 then dropP t e.path else none)
 else if e.kind = 0 then (match resO t e.path with
  | some k => if rv e.value = true then some (setT t k e.value) else none
  | none => addP t e.path e.value)
 else none
def appAll : List Nod → List Edt → Option (List Nod)
 | t, [] => some t
 | t, e :: l => match app1 t e with
  | none => none
  | some u => appAll u l
def applyR (t : List Nod) (l : List Edt) : List Nod × Bool :=
 if (validT t && decide (l.length ≤ 24)) = true then (match appAll t l with
  | some u => (u, true)
  | none => ([], false)) else ([], false)
variable {t : List Nod}
theorem addP_iff (h : VT t) {s : Str} {v : Int} {u : List Nod} : addP t s v = some u ↔ ∃ (p : Nat) (n : Str), u = t ++ [⟨(p : Int), n, v⟩] ∧ Fits t ⟨(p : Int), n, v⟩ ∧ s = ptx (np t p ++ [n]) := by
 unfold addP
 constructor
 ·intro e
  split at e
  ·cases e
  ·rename_i l hl
   split at e
   ·rename_i n p hn hp
    split at e
    ·rename_i hv
     cases e
     have f := (fits_iff h).1 (validT_iff.1 hv)
     refine ⟨p, n, rfl, f, ?_⟩
     have e2 : l = l.dropLast ++ [n] := by
      obtain ⟨ys, rfl⟩ := List.getLast?_eq_some_iff.1 hn
      rw [List.dropLast_concat]
     rw [((loo_iff h).1 hp).2, ← e2]
     exact (ptx_pth hl).symm
    ·cases e
   ·cases e
 ·rintro ⟨p, n, rfl, f, rfl⟩
  have hp : p < t.length := f.p1
  have hl : pth (ptx (np t p ++ [n])) = some (np t p ++ [n]) := pth_ptx (fun s hs => by
   rcases List.mem_append.1 hs with h1 | h1
   ·exact np_names h p hp s h1
   ·rw [List.mem_singleton.1 h1]; exact f.nam)
  rw [hl]
  simp only [List.getLast?_append, List.getLast?_singleton, Option.some_or, List.dropLast_concat, loo_np h hp]
  rw [if_pos (validT_iff.2 ((fits_iff h).2 f))]
theorem addP_VT (h : VT t) {s : Str} {v : Int} {u : List Nod} (e : addP t s v = some u) : VT u := by
 obtain ⟨p, n, rfl, f, _⟩ := (addP_iff h).1 e
 exact (fits_iff h).2 f
theorem rv_iff {v : Int} : rv v = true ↔ -1000 ≤ v ∧ v ≤ 1000 := by simp [rv]
theorem app1_VT (h : VT t) {e : Edt} {u : List Nod} (hu : app1 t e = some u) : VT u := by
 unfold app1 at hu
 split at hu
 ·split at hu
  ·unfold dropP at hu
   split at hu
   ·split at hu
    ·rename_i k hk h0; cases hu; exact dropT_VT h h0
    ·cases hu
   ·cases hu
  ·cases hu
 ·split at hu
  ·split at hu
   ·split at hu
    ·rename_i k hk hv; cases hu
     exact setT_VT h ((resO_iff h).1 hk).1 (rv_iff.1 hv)
    ·cases hu
   ·exact addP_VT h hu
  ·cases hu
theorem appAll_VT (h : VT t) : ∀ {l : List Edt} {u : List Nod}, appAll t l = some u → VT u := by
 intro l
 induction l generalizing t with
 | nil => intro u e; cases e; exact h
 | cons e l ih =>
  intro u hu
  rw [appAll] at hu
  split at hu
  ·cases hu
  ·rename_i u' hu'; exact ih (app1_VT h hu') hu
theorem applyR_VT {l : List Edt} (e : (applyR t l).2 = true) : VT (applyR t l).1 ∧ VT t ∧ l.length ≤ 24 ∧ appAll t l = some (applyR t l).1 := by
 unfold applyR at e ⊢
 split
 ·rename_i hc
  rw [if_pos hc] at e
  simp only [Bool.and_eq_true, decide_eq_true_eq] at hc
  have h := validT_iff.1 hc.1
  cases ha : appAll t l with
  | none => rw [ha] at e; cases e
  | some u => exact ⟨appAll_VT h ha, h, hc.2, rfl⟩
 ·rename_i hc; rw [if_neg hc] at e; cases e
theorem last_at (c : UInt8) : ∀ (s : Str), c ∉ s ∨ ∃ a b, s = a ++ c :: b ∧ c ∉ b
 | [] => .inl (by simp)
 | x :: s => by
  rcases last_at c s with h1 | ⟨a, b, rfl, h1⟩
  ·by_cases h : x = c
   ·subst h; exact .inr ⟨[], s, rfl, h1⟩
   ·exact .inl (by simp only [List.mem_cons, not_or]; exact ⟨Ne.symm h, h1⟩)
  ·exact .inr ⟨x :: a, b, rfl, h1⟩
theorem last_uniq {c : UInt8} {a b a' b' : Str} (h : c ∉ b) (h' : c ∉ b') (e : a ++ c :: b = a' ++ c :: b') : a = a' ∧ b = b' := by
 have key : ∀ {x y : Str} {z w : Str}, c ∉ x → c ∉ y → x ++ c :: z = y ++ c :: w → x = y ∧ z = w := by
  intro x
  induction x with
  | nil =>
   intro y z w hx hy e
   cases y with
   | nil => simpa using e
   | cons q y => simp only [List.nil_append, List.cons_append, List.cons.injEq] at e; rw [e.1] at hy; simp at hy
  | cons p x ih =>
   intro y z w hx hy e
   cases y with
   | nil => simp only [List.nil_append, List.cons_append, List.cons.injEq] at e; rw [e.1] at hx; simp at hx
   | cons q y =>
    simp only [List.cons_append, List.cons.injEq] at e
    simp only [List.mem_cons, not_or] at hx hy
    obtain ⟨h1, h2⟩ := ih hx.2 hy.2 e.2
    exact ⟨by rw [e.1, h1], h2⟩
 have e2 := congrArg List.reverse e
 simp only [List.reverse_append, List.reverse_cons, List.append_assoc, List.singleton_append] at e2
 obtain ⟨h1, h2⟩ := key (by simpa using h) (by simpa using h') e2
 exact ⟨List.reverse_inj.1 h2, List.reverse_inj.1 h1⟩
theorem ptx_snoc (l : List Str) (n : Str) : ptx (l ++ [n]) = fm 47 l ++ 47 :: n := by
 rw [ptx, if_neg (by simp), fm_app, fm_cons, fm_nil, List.append_nil]
end
section
open Go
def addT (t : List Nod) (x : Nod) : List Nod × Int × Bool := if validT t = true ∧ t.length ≠ 12 ∧ validT (t ++ [x]) = true then (t ++ [x], (t.length : Int), true) else ([], -1, false)
theorem NL.snoc {t : List Nod} (h : NL t) (hl : t.length ≤ 1000000000) {x : Nod} (hx : x.name.length ≤ 1000000000000) : NL (t ++ [x]) := by
 refine ⟨by simp; omega, fun y hy => ?_⟩
 rcases List.mem_append.1 hy with h1 | h1
 ·exact h.2 y h1
 ·rw [List.mem_singleton.1 h1]; exact hx
theorem specAdd_ex {t : List Nod} (hn : NL t) (hl : t.length ≤ 1000000) (p : Int) {s : Str} (hs : s.length ≤ 1000000000000) (v : Int) : Ex (fun n => spec_AddNode n t p s v) (· = addT t ⟨p, s, v⟩) := by
 unfold spec_AddNode
 refine Ex.be (specTree_ex hn (by omega)) ?_
 refine Ex.ite (fun h => Ex.ret ?_) (fun h => ?_)
 ·simp only [Bool.or_eq_true, decide_eq_true_eq] at h
  rw [addT, if_neg]
  rintro ⟨h1, h2, _⟩
  rw [h1] at h
  rcases h with h | h
  ·cases h
  ·omega
 ·simp only [Bool.or_eq_false_iff, decide_eq_false_iff_not] at h
  have h1 := notF h.1
  rw [view_all, List.nil_append]
  refine Ex.guard ⟨rfl, rfl, by simp; omega⟩ (Ex.guard ⟨rfl, rfl, by simp; omega⟩ ?_)
  rw [show (([(⟨p, s, v⟩ : Nod)].drop 0).take [(⟨p, s, v⟩ : Nod)].length) = [(⟨p, s, v⟩ : Nod)] from rfl]
  refine Ex.be (specTree_ex (hn.snoc (by omega) hs) (by simp; omega)) ?_
  refine Ex.ite (fun h2 => Ex.ret ?_) (fun h2 => Ex.ret ?_)
  ·rw [addT, if_neg]
   rintro ⟨_, _, h3⟩
   rw [h3] at h2; cases h2
  ·rw [addT, if_pos ⟨h1, by omega, notF h2⟩]
theorem of_ex {x1 : List Int} {k2 : Nat} (h : Rd x1 k2) {i : Int} {l : List Str} (h0 : 0 ≤ i) (h1 : i ≤ 1000000000) (hl : l.length ≤ 1000000000) (hp : 1 ≤ l.length) :
  Ex (fun _ => spec_reader_of x1 k2 i l) (fun r => r.1 = i + 1 ∧ r.2 ∈ l) := by
 unfold spec_reader_of
 refine Ex.bind (pick_ex h h0 h1 (by omega) (by omega)) (fun r hr => ?_)
 refine Ex.guard ⟨hr.1, hr.2⟩ ?_
 exact Ex.ret ⟨w64_id (by omega) (by omega), getD_mem (by omega)⟩
/-- a drawn tree -/
structure GT (t : List Nod) : Prop where
 lo : 1 ≤ t.length
 hi : t.length ≤ 12
 nm : ∀ x ∈ t, x.name.length ≤ 5
theorem GT.nl {t : List Nod} (h : GT t) : NL t := ⟨by have := h.hi; omega, fun x hx => by have := h.nm x hx; omega⟩
/-- a drawn row of nodes and a window on it -/
structure GR (x : List Nod) (k l : Nat) : Prop where
 hi : x.length ≤ 13
 nm : ∀ y ∈ x, y.name.length ≤ 5
 vw : k + l ≤ x.length
theorem GR.len {x : List Nod} {k l : Nat} (h : GR x k l) : ((x.drop k).take l).length ≤ 13 := by
 have := h.hi; simp; omega
theorem GR.names {x : List Nod} {k l : Nat} (h : GR x k l) : ∀ y ∈ (x.drop k).take l, y.name.length ≤ 5 := fun y hy => h.nm y (List.mem_of_mem_drop (List.mem_of_mem_take hy))
theorem GR.nl {x : List Nod} {k l : Nat} (h : GR x k l) : NL ((x.drop k).take l) := ⟨by have := h.len; omega, fun y hy => by have := h.names y hy; omega⟩
theorem GT.set {t : List Nod} (h : GT t) {i : Nat} {x : Nod} (hx : x.name.length ≤ 5) : GR (t.set i x) 0 (t.set i x).length := by
 refine ⟨by have := h.hi; simp; omega, fun y hy => ?_, by omega⟩
 rcases List.mem_or_eq_of_mem_set hy with h1 | rfl
 ·exact h.nm y h1
 ·exact hx
end
section
open Go
set_option linter.unusedVariables false
theorem VT.nl {t : List Nod} (h : VT t) : NL t := by
 have hhi := h.hi
 refine ⟨by omega, fun x hx => ?_⟩
 obtain ⟨i, hi, rfl⟩ := List.mem_iff_getElem.1 hx
 have e2 : t[i].name = nmo t i := by rw [nmo, List.getD_eq_getElem?_getD, List.getElem?_eq_getElem hi]; rfl
 rw [e2]
 rcases Nat.eq_zero_or_pos i with rfl | h0
 ·rw [h.rn]; simp
 ·have := name_len (h.nam i h0 hi); omega
theorem VT.le {t : List Nod} (h : VT t) : t.length ≤ 400000000 := by have := h.hi; omega
theorem pre_len (t : List Nod) (k i : Nat) : (((List.range i).filter (kept t k)).map (moved t k)).length = cnt t k i := by rw [List.length_map]; rfl
def pairO (o : Option (List Nod)) : List Nod × Bool := match o with
 | some u => (u, true)
 | none => ([], false)
theorem getD_app {α : Type} {a b : List α} {d : α} (j : Nat) : (a ++ b).getD (a.length + j) d = b.getD j d := by
 rw [List.getD_eq_getElem?_getD, List.getElem?_append_right (by omega), List.getD_eq_getElem?_getD]
 congr 2; omega
theorem addT_fits {t : List Nod} (h : VT t) {x : Nod} : addT t x = if validT (t ++ [x]) = true then (t ++ [x], (t.length : Int), true) else ([], -1, false) := by
 rw [addT]
 by_cases hv : validT (t ++ [x]) = true
 ·have := (validT_iff.1 hv).hi
  simp at this
  rw [if_pos ⟨validT_iff.2 h, by omega, hv⟩, if_pos hv]
 ·rw [if_neg (fun h => hv h.2.2), if_neg hv]
theorem res_nohead {t : List Nod} (h : VT t) {s : Str} (hs : (47 : UInt8) ∉ s) : res t s = -1 := by
 cases s with
 | nil => rfl
 | cons c r => rw [res_desc h, if_neg (by rintro rfl; simp at hs)]
theorem pth_nohead {s : Str} (hs : (47 : UInt8) ∉ s) : pth s = none := by
 cases s with
 | nil => rfl
 | cons c r => rw [pth, if_neg (by rintro rfl; simp at hs)]
/-- the node that a further path asks for -/
theorem addP_up {t : List Nod} (h : VT t) {a b : Str} {v : Int} (hb : (47 : UInt8) ∉ b) (hn : resO t (a ++ 47 :: b) = none) :
  addP t (a ++ 47 :: b) v = if validT (t ++ [⟨if a = [] then 0 else res t a, b, v⟩]) = true ∧ 0 ≤ res (t ++ [⟨if a = [] then 0 else res t a, b, v⟩]) (a ++ 47 :: b) then some (t ++ [⟨if a = [] then 0 else res t a, b, v⟩]) else none := by
 have up : ∀ (p : Nat), p < t.length → a = fm 47 (np t p) → (if a = [] then (0 : Int) else res t a) = (p : Int) := by
  intro p hp e
  by_cases ha : a = []
  ·rw [if_pos ha]
   have : np t p = [] := by
    cases hx : np t p with
    | nil => rfl
    | cons s l => rw [hx, fm_cons, ha] at e; cases e
   rw [(np_nil h hp).1 this]; rfl
  ·rw [if_neg ha]
   have : a = ptx (np t p) := by rw [ptx, if_neg (fun h => ha (by rw [e, h]; rfl)), e]
   rw [this, res, resO_np h hp]; rfl
 cases e : addP t (a ++ 47 :: b) v with
 | some u =>
  obtain ⟨p, n, rfl, f, hs⟩ := (addP_iff h).1 e
  have hp : p < t.length := f.p1
  rw [ptx_snoc] at hs
  obtain ⟨rfl, rfl⟩ := last_uniq hb (name_no f.nam).1 hs
  rw [up p hp rfl]
  have h' := (fits_iff h).2 f
  have hr : resO (t ++ [⟨(p : Int), b, v⟩]) (fm 47 (np t p) ++ 47 :: b) = some t.length := by
   rw [resO_iff h']
   refine ⟨by simp, ?_⟩
   rw [app_np_last f.p0 f.p1, ← ptx_snoc]; rfl
  have hr2 : 0 ≤ res (t ++ [⟨(p : Int), b, v⟩]) (fm 47 (np t p) ++ 47 :: b) := by rw [res, hr]; simp [oi]
  rw [if_pos ⟨validT_iff.2 h', hr2⟩]
 | none =>
  rw [eq_comm, if_neg]
  rintro ⟨h1, h2⟩
  have h' := validT_iff.1 h1
  have f := (fits_iff h).1 h'
  rw [res] at h2
  cases e2 : resO (t ++ [⟨if a = [] then 0 else res t a, b, v⟩]) (a ++ 47 :: b) with
  | none => rw [e2] at h2; simp [oi] at h2
  | some k =>
   obtain ⟨k1, k2⟩ := (resO_iff h').1 e2
   have hk : k = t.length := by
    rcases Nat.lt_or_ge k t.length with h3 | h3
    ·rw [app_np h3] at k2
     rw [(resO_iff h).2 ⟨h3, k2⟩] at hn; cases hn
    ·simp at k1; omega
   subst hk
   rw [app_np_last f.p0 f.p1] at k2
   have hp0 := f.p0
   have := (addP_iff h (s := a ++ 47 :: b) (v := v) (u := t ++ [⟨if a = [] then 0 else res t a, b, v⟩])).2 ⟨(if a = [] then (0 : Int) else res t a).toNat, b, by rw [Int.toNat_of_nonneg hp0], by rw [Int.toNat_of_nonneg hp0]; exact f, k2.symm⟩
   rw [this] at e; cases e
end
section
open Go
set_option linter.unusedVariables false
theorem reaches_loop {t : List Nod} (h : VT t) (k : Nat) : ∀ j, j < t.length → Ex (fun n => impl_reaches_L1 t (k : Int) n (j : Int)) (fun r => decide (r = (k : Int)) = decide (k ∈ ix t j)) := by
 intro j
 induction j using Nat.strongRecOn with
 | ind j ih =>
  intro hj
  refine Ex.succ ?_
  simp only [impl_reaches_L1, Int.toNat_natCast]
  rcases Nat.lt_or_ge k j with hkj | hkj
  ·have p := h.par j (by omega) hj
   have e : (t.getD j dnod).parent = (((pa t j).toNat : Nat) : Int) := by rw [Int.toNat_of_nonneg p.1]; rfl
   refine Ex.yes (decide_eq_true (by omega)) (Ex.guard (by omega) ?_)
   rw [e]
   refine Ex.mono (ih _ p.2 (by omega)) (fun r hr => ?_)
   rw [hr, ix_pos h (by omega) hj, Bool.eq_iff_iff, decide_eq_true_eq, decide_eq_true_eq, List.mem_append, List.mem_singleton]
   constructor
   ·exact .inl
   ·rintro (h1 | h1)
    ·exact h1
    ·omega
  ·refine Ex.no (decide_eq_false (by omega)) (Ex.ret ?_)
   rw [Bool.eq_iff_iff, decide_eq_true_eq, decide_eq_true_eq]
   constructor
   ·intro e
    have : j = k := by omega
    rw [this]; exact ix_self t k
   ·intro e
    have := ix_le t j k e; omega
theorem implReaches_ex {t : List Nod} (h : VT t) (k : Nat) {j : Nat} (hj : j < t.length) : Ex (fun n => impl_reaches n t (k : Int) (j : Int)) (· = !kept t k j) := by
 unfold impl_reaches
 refine Ex.bind (reaches_loop h k j hj) (fun r hr => Ex.ret ?_)
 rw [hr, kept, Bool.not_not]
theorem implDropLoop_ex {t : List Nod} (h : VT t) {k : Nat} (hk0 : 0 < k) : Ex (fun n => impl_DropNode_L1 t (k : Int) n (List.replicate t.length (0 : Int)) [] 0) (· = dropT t k) := by
 have hhi := h.hi
 refine up t.length (fun i (s : List Int × List Nod) => s.2 = ((List.range i).filter (kept t k)).map (moved t k) ∧ s.1.length = t.length ∧ ∀ j, j < i → kept t k j = true → s.1.getD j 0 = (cnt t k j : Int)) (f := fun n s i => impl_DropNode_L1 t k n s.1 s.2 i) ?_ ?_ 0 (_, []) (Nat.zero_le _) ⟨rfl, by simp, fun j hj => by omega⟩
 ·rintro i ⟨p, o⟩ hi ⟨h1, h2, h3⟩ next
  simp only at h1 h2 h3
  subst h1
  have hc := cnt_le t k i
  have hl := pre_len t k i
  simp only [impl_DropNode_L1, Int.toNat_natCast]
  refine Ex.yes (decide_eq_true (by omega)) ?_
  rw [w64_succ (by omega)]
  have er : (List.range (i + 1)).filter (kept t k) = (List.range i).filter (kept t k) ++ (if kept t k i = true then [i] else []) := by
   rw [List.range_succ, List.filter_append, List.filter_cons]; rfl
  cases hki : kept t k i with
  | false =>
   refine Ex.be (a := (p, ((List.range i).filter (kept t k)).map (moved t k))) (Ex.guard (by omega) (Ex.be (implReaches_ex h k hi) (Ex.yes (by rw [hki]; rfl) (Ex.ret rfl)))) ?_
   refine next (p, _) ⟨?_, h2, fun j hj hkj => ?_⟩
   ·rw [er, hki]; simp
   ·rcases Nat.eq_or_lt_of_le (Nat.le_of_lt_succ hj) with rfl | h6
    ·rw [hki] at hkj; cases hkj
    ·exact h3 j h6 hkj
  | true =>
   refine Ex.be (a := (p.set i (cnt t k i : Int), ((List.range i).filter (kept t k)).map (moved t k) ++ [moved t k i])) (Ex.guard (by omega) (Ex.be (implReaches_ex h k hi) (Ex.no (by rw [hki]; rfl) (Ex.guard (by omega) (Ex.be (a := (moved t k i).parent) ?_ (Ex.guard ⟨trivial, trivial, by rw [hl]; simp; omega⟩ (Ex.ret ?_))))))) ?_
   ·refine Ex.ite (fun hb => ?_) (fun hb => ?_)
    ·have h0 : 0 < i := by have := of_decide_eq_true hb; omega
     have q := h.par i h0 hi
     have q2 : 0 ≤ (t.getD i dnod).parent ∧ (t.getD i dnod).parent < ((p.set i ((((List.range i).filter (kept t k)).map (moved t k)).length : Int)).length : Int) := by
      rw [List.length_set]
      have := q.1; have := q.2; simp only [pa] at *; omega
     refine Ex.guard q2 (Ex.ret ?_)
     rw [moved, if_pos h0, getD_set' (by omega), if_neg (by have := q.2; simp only [pa] at this; omega)]
     exact h3 _ q.2 (kept_up h h0 hi hki)
    ·have h0 : ¬ 0 < i := by have := of_decide_eq_false hb; omega
     refine Ex.ret ?_
     rw [moved, if_neg h0]; rfl
   ·simp only [hl]; rfl
   ·refine next (_, _) ⟨?_, by simpa using h2, fun j hj hkj => ?_⟩
    ·rw [er, hki, if_pos rfl, List.map_append]; rfl
    ·simp only
     rw [getD_set' (by omega)]
     split
     ·rename_i e; rw [e]
     ·exact h3 j (by omega) hkj
 ·rintro ⟨o, p⟩ ⟨h1, _, _⟩
  simp only at h1
  subst h1
  simp only [impl_DropNode_L1]
  exact Ex.no (decide_eq_false (by omega)) (Ex.ret rfl)
theorem implDrop_ex {t : List Nod} (h : VT t) (s : Str) : Ex (fun n => impl_DropNode n t (res t s)) (· = pairO (dropP t s)) := by
 have hhi := h.hi
 unfold impl_DropNode
 refine Ex.be (implNode_ex (by omega) _) ?_
 rw [validT_iff.2 h, Bool.and_true, dropP, res]
 cases e : resO t s with
 | none => exact Ex.yes (by simp [oi]) (Ex.ret rfl)
 | some k =>
  have hk := ((resO_iff h).1 e).1
  have ho : oi (some k) = (k : Int) := rfl
  rw [decide_eq_true (p := 0 ≤ oi (some k) ∧ _) (by omega)]
  show Ex _ (· = pairO (if 0 < k then some (dropT t k) else none))
  by_cases h0 : 0 < k
  ·rw [if_pos h0]
   refine Ex.no (by rw [decide_eq_false (by omega)]; rfl) (Ex.guard ⟨rfl, by omega, by omega⟩ ?_)
   rw [Int.toNat_natCast]
   exact Ex.be (implDropLoop_ex h h0) (Ex.ret rfl)
  ·rw [if_neg h0]
   exact Ex.yes (by rw [decide_eq_true (by omega)]; rfl) (Ex.ret rfl)
theorem clone_nod {t : List Nod} (h : t.length ≤ 1000000000000) : slices_Clone_Node t = some t := by
 unfold slices_Clone_Node
 rw [guardO_pos (by omega)]
theorem implSet_ex {t : List Nod} (h : VT t) {k : Nat} (hk : k < t.length) (v : Int) : Ex (fun n => impl_SetValue n t (k : Int) v) (· = pairO (if rv v = true then some (setT t k v) else none)) := by
 have hhi := h.hi
 unfold impl_SetValue
 refine Ex.be (implNode_ex (by omega) _) ?_
 rw [validT_iff.2 h, decide_eq_true (by omega), show impl_within v (-1000) 1000 = rv v from rfl]
 refine Ex.ite (fun hb => Ex.ret ?_) (fun hb => ?_)
 ·rw [if_neg (by rw [show rv v = false from notT hb]; simp)]; rfl
 ·rw [if_pos (show rv v = true from notF hb)]
  exact Ex.bc (clone_nod (by omega)) (Ex.guard (by omega) (Ex.ret rfl))
theorem implAdd_ex {t : List Nod} (h : VT t) (x : Nod) : Ex (fun n => impl_AddNode n t x.parent x.name x.value) (· = addT t x) := by
 have hhi := h.hi
 unfold impl_AddNode
 refine Ex.be (implTree_ex t) ?_
 rw [validT_iff.2 h, addT_fits h]
 refine Ex.no rfl (Ex.bc (clone_nod (by omega)) (Ex.guard ⟨rfl, rfl, by simp; omega⟩ ?_))
 rw [show (([(⟨x.parent, x.name, x.value⟩ : Nod)].drop 0).take [(⟨x.parent, x.name, x.value⟩ : Nod)].length) = [x] from rfl]
 refine Ex.be (implTree_ex _) (Ex.ite (fun hb => Ex.ret ?_) (fun hb => Ex.ret ?_))
 ·rw [if_neg (by rw [notT hb]; simp)]
 ·rw [if_pos (notF hb)]
theorem lastIdx_some {a b : Str} (hb : (47 : UInt8) ∉ b) (hl : (a ++ 47 :: b).length ≤ 1000000000000) : Ex (fun n => strings_LastIndexByte n (a ++ 47 :: b) 47) (· = (a.length : Int)) := by
 have hlen : (a ++ 47 :: b).length = a.length + 1 + b.length := by simp; omega
 have hat : ∀ j, j < b.length → (a ++ 47 :: b).getD (a.length + 1 + j) 0 ≠ 47 := by
  intro j hj e
  rw [show a.length + 1 + j = a.length + (1 + j) by omega, getD_app, show 1 + j = j + 1 by omega, List.getD_cons_succ] at e
  exact hb (e ▸ getD_mem hj)
 have h0 : (a ++ 47 :: b).getD a.length 0 = 47 := by
  have := getD_app (a := a) (b := 47 :: b) (d := (0 : UInt8)) 0
  rw [Nat.add_zero] at this; rw [this]; rfl
 have key : ∀ m, m ≤ b.length → Ex (fun n => bytealg_LastIndexByteString_L1 (a ++ 47 :: b) 47 n ((a.length + m : Nat) : Int)) (· = .inl (a.length : Int)) := by
  intro m
  induction m with
  | zero =>
   intro _
   rw [Nat.add_zero]
   refine Ex.succ ?_
   simp only [bytealg_LastIndexByteString_L1, Int.toNat_natCast]
   exact Ex.yes (decide_eq_true (by omega)) (Ex.guard (by omega) (Ex.yes (decide_eq_true (by rw [h0]; rfl)) (Ex.ret rfl)))
  | succ m ih =>
   intro hm
   refine Ex.succ ?_
   simp only [bytealg_LastIndexByteString_L1, Int.toNat_natCast]
   have h1 := hat m (by omega)
   rw [show a.length + 1 + m = a.length + (m + 1) by omega] at h1
   refine Ex.yes (decide_eq_true (by omega)) (Ex.guard (by omega) (Ex.no (decide_eq_false (fun e => h1 ?_)) ?_))
   ·apply UInt8.toNat_inj.1
    rw [show (47 : UInt8).toNat = 47 from rfl]
    omega
   ·have e : w64 (((a.length + (m + 1) : Nat) : Int) - 1) = ((a.length + m : Nat) : Int) := by rw [w64_id (by omega) (by omega)]; omega
    rw [e]
    exact ih (by omega)
 unfold strings_LastIndexByte bytealg_LastIndexByteString
 have e : w64 (((a ++ 47 :: b).length : Int) - 1) = ((a.length + b.length : Nat) : Int) := by rw [w64_id (by omega) (by omega)]; omega
 rw [e]
 exact Ex.be (Ex.be (key b.length (Nat.le_refl _)) (Ex.ret rfl)) (Ex.ret rfl)
theorem lastIdx_none {s : Str} (h : (47 : UInt8) ∉ s) (hl : s.length ≤ 1000000000000) : Ex (fun n => strings_LastIndexByte n s 47) (· = -1) := by
 have key : ∀ m : Nat, m ≤ s.length → Ex (fun n => bytealg_LastIndexByteString_L1 s 47 n ((m : Int) - 1)) (· = .inr ()) := by
  intro m
  induction m with
  | zero => intro _; refine Ex.succ ?_; simp only [bytealg_LastIndexByteString_L1]; exact Ex.no (by decide) (Ex.ret rfl)
  | succ m ih =>
   intro hm
   rw [show ((m + 1 : Nat) : Int) - 1 = (m : Int) by omega]
   refine Ex.succ ?_
   simp only [bytealg_LastIndexByteString_L1, Int.toNat_natCast]
   have h1 : s.getD m 0 ≠ 47 := fun e => h (e ▸ getD_mem hm)
   refine Ex.yes (decide_eq_true (by omega)) (Ex.guard (by omega) (Ex.no (decide_eq_false (fun e => h1 ?_)) ?_))
   ·apply UInt8.toNat_inj.1
    rw [show (47 : UInt8).toNat = 47 from rfl]
    omega
   ·rw [w64_id (by omega) (by omega)]
    exact ih (by omega)
 unfold strings_LastIndexByte bytealg_LastIndexByteString
 rw [w64_id (by omega) (by omega)]
 exact Ex.be (Ex.be (key s.length (Nat.le_refl _)) (Ex.ret rfl)) (Ex.ret rfl)
/-- the further node has the path -/
theorem last_path {t : List Nod} {x : Nod} (h : VT t) (h' : VT (t ++ [x])) {s : Str} (hn : resO t s = none) : 0 ≤ res (t ++ [x]) s ↔ pathT (t ++ [x]) (t.length : Int) = s := by
 have f := (fits_iff h).1 h'
 rw [pathT_of h' (by simp)]
 rw [res]
 cases e : resO (t ++ [x]) s with
 | none =>
  simp only [oi]
  constructor
  ·intro h1; omega
  ·intro e2; exact absurd e2 ((resO_none h').1 e t.length (by simp))
 | some k =>
  obtain ⟨k1, k2⟩ := (resO_iff h').1 e
  have hk : k = t.length := by
   rcases Nat.lt_or_ge k t.length with h3 | h3
   ·rw [app_np h3] at k2
    rw [(resO_iff h).2 ⟨h3, k2⟩] at hn; cases hn
   ·simp at k1; omega
  subst hk
  simp only [oi]
  exact ⟨fun _ => k2, fun _ => by omega⟩
theorem implAddPath_ex {t : List Nod} (h : VT t) {s : Str} (hs : s.length ≤ 1000000000000) (hn : resO t s = none) (v : Int) : Ex (fun n => impl_addPath n t s v) (· = pairO (addP t s v)) := by
 have hhi := h.hi
 unfold impl_addPath
 have fin : ∀ (x : Nod), Ex (fun n => bindO (impl_AddNode n t x.parent x.name x.value) fun (x31, i32, b33) => bindO (iteO (!b33) (some true) (bindO (impl_PathText n x31 i32) fun s41 => some (!decide (s41 = s)))) fun b38 => iteO b38 (some (([] : List Nod), false)) (some (x31, true))) (· = pairO (if validT (t ++ [x]) = true ∧ 0 ≤ res (t ++ [x]) s then some (t ++ [x]) else none)) := by
  intro x
  refine Ex.be (implAdd_ex h x) ?_
  rw [addT_fits h]
  by_cases hv : validT (t ++ [x]) = true
  ·rw [if_pos hv]
   have h' := validT_iff.1 hv
   refine Ex.be (a := !decide (pathT (t ++ [x]) (t.length : Int) = s)) (Ex.no rfl (Ex.be (implPathText_ex (by have := h'.hi; omega) _) (Ex.ret rfl))) ?_
   refine Ex.ite (fun hb => Ex.ret ?_) (fun hb => Ex.ret ?_)
   ·rw [if_neg (fun h2 => by have := (last_path h h' hn).1 h2.2; rw [decide_eq_true this] at hb; cases hb)]; rfl
   ·rw [if_pos ⟨hv, (last_path h h' hn).2 (by simpa using hb)⟩]; rfl
  ·rw [if_neg hv, if_neg (fun h => hv h.1)]
   exact Ex.be (a := true) (Ex.yes rfl (Ex.ret rfl)) (Ex.yes rfl (Ex.ret rfl))
 rcases last_at 47 s with h1 | ⟨a, b, rfl, h2⟩
 ·have e1 : addP t s v = none := by rw [addP, pth_nohead h1]
  rw [e1]
  have hu : Ex (fun n => impl_upperNode n t s) (· = -1) := by
   unfold impl_upperNode
   exact Ex.be (lastIdx_none h1 hs) (Ex.yes (by decide) (Ex.ret rfl))
  refine Ex.be hu (Ex.be (lastIdx_none h1 hs) ?_)
  have e2 : w64 (-1 + 1) = 0 := by decide
  rw [e2]
  refine Ex.guard (by omega) ?_
  refine Ex.mono (fin ⟨-1, s.drop (0 : Int).toNat, v⟩) (fun r hr => ?_)
  rw [hr, if_neg]
  rintro ⟨h3, _⟩
  have := ((fits_iff h).1 (validT_iff.1 h3)).p0
  simp at this
 ·have hu : Ex (fun n => impl_upperNode n t (a ++ 47 :: b)) (· = if a = [] then 0 else res t a) := by
   unfold impl_upperNode
   refine Ex.be (lastIdx_some h2 hs) (Ex.no (decide_eq_false (by omega)) ?_)
   by_cases ha : a = []
   ·rw [if_pos ha]; exact Ex.yes (by rw [ha]; rfl) (Ex.ret rfl)
   ·rw [if_neg ha]
    have : 0 < a.length := List.length_pos_iff.2 ha
    simp only [List.length_append, List.length_cons] at hs
    refine Ex.no (decide_eq_false (by omega)) (Ex.guard (by simp; omega) ?_)
    rw [Int.toNat_natCast, List.take_left' rfl]
    have e := implRes_ex (t := t) (s := a) (by omega)
    rw [if_pos (validT_iff.2 h)] at e
    exact Ex.be e (Ex.ret rfl)
  refine Ex.be hu (Ex.be (lastIdx_some h2 hs) ?_)
  have hlen : (a ++ 47 :: b).length = a.length + 1 + b.length := by simp; omega
  rw [w64_succ (by omega)]
  refine Ex.guard (by omega) ?_
  have ed : (a ++ 47 :: b).drop ((a.length + 1 : Nat) : Int).toNat = b := by
   rw [Int.toNat_natCast]
   have e : a ++ 47 :: b = (a ++ [47]) ++ b := by simp
   rw [e]; exact List.drop_left' (by simp)
  rw [ed, addP_up h h2 hn]
  exact fin ⟨if a = [] then 0 else res t a, b, v⟩
theorem implApply_ex {t : List Nod} (h : VT t) {e : Edt} (hp : e.path.length ≤ 1000000000000) : Ex (fun n => impl_applyEdit n t e) (· = pairO (app1 t e)) := by
 have hhi := h.hi
 unfold impl_applyEdit
 have er := implRes_ex (t := t) (s := e.path) hp
 rw [if_pos (validT_iff.2 h)] at er
 refine Ex.be er ?_
 rw [app1]
 by_cases hk1 : e.kind = 1
 ·rw [if_pos hk1]
  refine Ex.yes (decide_eq_true hk1) ?_
  by_cases hv : e.value = 0
  ·rw [if_pos hv]
   exact Ex.no (by rw [decide_eq_true hv]; rfl) (Ex.be (implDrop_ex h e.path) (Ex.ret rfl))
  ·rw [if_neg hv]
   exact Ex.yes (by rw [decide_eq_false hv]; rfl) (Ex.ret rfl)
 ·rw [if_neg hk1]
  refine Ex.no (decide_eq_false hk1) ?_
  by_cases hk0 : e.kind = 0
  ·rw [if_pos hk0]
   refine Ex.yes (decide_eq_true hk0) ?_
   cases hr : resO t e.path with
   | some k =>
    have hk := ((resO_iff h).1 hr).1
    rw [res, hr]
    simp only [oi]
    exact Ex.yes (decide_eq_true (by omega)) (Ex.be (implSet_ex h hk e.value) (Ex.ret rfl))
   | none =>
    rw [res, hr]
    simp only [oi]
    exact Ex.no (by decide) (Ex.be (implAddPath_ex h hp hr e.value) (Ex.ret rfl))
  ·rw [if_neg hk0]
   exact Ex.no (decide_eq_false hk0) (Ex.ret rfl)
theorem implApplyAll_ex {t : List Nod} {l : List Edt} (hp : ∀ e ∈ l, e.path.length ≤ 1000000000000) : Ex (fun n => impl_ApplyEdits n t l) (· = applyR t l) := by
 unfold impl_ApplyEdits
 refine Ex.be (implTree_ex t) ?_
 rw [applyR]
 cases hv : validT t with
 | false => exact Ex.yes rfl (Ex.ret rfl)
 | true =>
  have h := validT_iff.1 hv
  have hhi := h.hi
  by_cases h24 : l.length ≤ 24
  ·rw [decide_eq_true h24]
   refine Ex.no (by rw [decide_eq_false (by omega)]; rfl) ?_
   rw [if_pos (show (true && true) = true from rfl)]
   have loop : ∀ (L : List Edt) (k : Nat) (u : List Nod), VT u → l.drop k = L → k ≤ l.length → Ex (fun n => impl_ApplyEdits_L1 l t n u (k : Int)) (· = match appAll u L with
     | some w => .inr w
     | none => .inl ()) := by
    intro L
    induction L with
    | nil =>
     intro k u hu h1 h2
     have h3 := List.drop_eq_nil_iff.1 h1
     refine Ex.succ ?_
     simp only [impl_ApplyEdits_L1]
     exact Ex.no (decide_eq_false (by omega)) (Ex.ret rfl)
    | cons e L ih =>
     intro k u hu h1 h2
     have hk : k < l.length := by
      rcases Nat.lt_or_ge k l.length with h3 | h3
      ·exact h3
      ·rw [List.drop_eq_nil_of_le h3] at h1; cases h1
     rw [drop_at dedt hk, List.cons.injEq] at h1
     refine Ex.succ ?_
     simp only [impl_ApplyEdits_L1, Int.toNat_natCast, h1.1]
     refine Ex.yes (decide_eq_true (by omega)) (Ex.guard (by omega) (Ex.be (implApply_ex hu (hp e (by rw [← h1.1]; exact getD_mem hk))) ?_))
     rw [appAll]
     cases ha : app1 u e with
     | none => exact Ex.yes rfl (Ex.ret rfl)
     | some w =>
      refine Ex.no rfl ?_
      rw [w64_succ (by omega)]
      exact ih (k + 1) w (app1_VT hu ha) h1.2 (by omega)
   refine Ex.bc (clone_nod (by omega)) (Ex.be (loop l 0 t h rfl (Nat.zero_le _)) ?_)
   cases ha : appAll t l with
   | none => exact Ex.ret rfl
   | some u => exact Ex.ret rfl
  ·rw [decide_eq_false h24]
   exact Ex.yes (by rw [decide_eq_true (by omega)]; rfl) (Ex.ret rfl)
end
section
open Go
set_option linter.unusedVariables false
theorem above_loop {t : List Nod} (h : VT t) (k : Nat) : ∀ j, j < t.length → Ex (fun n => spec_above_L1 t (k : Int) n (j : Int)) (fun r => decide (r = (k : Int)) = decide (k ∈ ix t j)) := by
 intro j
 induction j using Nat.strongRecOn with
 | ind j ih =>
  intro hj
  refine Ex.succ ?_
  simp only [spec_above_L1, Int.toNat_natCast]
  rcases Nat.lt_or_ge k j with hkj | hkj
  ·have p := h.par j (by omega) hj
   have e : (t.getD j dnod).parent = (((pa t j).toNat : Nat) : Int) := by rw [Int.toNat_of_nonneg p.1]; rfl
   refine Ex.yes (decide_eq_true (by omega)) (Ex.guard (by omega) ?_)
   rw [e]
   refine Ex.mono (ih _ p.2 (by omega)) (fun r hr => ?_)
   rw [hr, ix_pos h (by omega) hj, Bool.eq_iff_iff, decide_eq_true_eq, decide_eq_true_eq, List.mem_append, List.mem_singleton]
   constructor
   ·exact .inl
   ·rintro (h1 | h1)
    ·exact h1
    ·omega
  ·refine Ex.no (decide_eq_false (by omega)) (Ex.ret ?_)
   rw [Bool.eq_iff_iff, decide_eq_true_eq, decide_eq_true_eq]
   constructor
   ·intro e
    have : j = k := by omega
    rw [this]; exact ix_self t k
   ·intro e
    have := ix_le t j k e; omega
theorem specAbove_ex {t : List Nod} (h : VT t) (k : Nat) {j : Nat} (hj : j < t.length) : Ex (fun n => spec_above n t (k : Int) (j : Int)) (· = !kept t k j) := by
 unfold spec_above
 refine Ex.bind (above_loop h k j hj) (fun r hr => Ex.ret ?_)
 rw [hr, kept, Bool.not_not]
theorem specWithout_ex {t : List Nod} (h : VT t) {k : Nat} (hk0 : 0 < k) : Ex (fun n => spec_without n t (k : Int)) (· = dropT t k) := by
 have hhi := h.hi
 unfold spec_without
 refine Ex.guard ⟨rfl, by omega, by omega⟩ (Ex.be (a := dropT t k) ?_ (Ex.ret rfl))
 rw [Int.toNat_natCast]
 refine up t.length (fun i (s : List Nod × List Int) => s.1 = ((List.range i).filter (kept t k)).map (moved t k) ∧ s.2.length = t.length ∧ ∀ j, j < i → kept t k j = true → s.2.getD j 0 = (cnt t k j : Int)) (f := fun n s i => spec_without_L1 t k n s.1 s.2 i) ?_ ?_ 0 ([], _) (Nat.zero_le _) ⟨rfl, by simp, fun j hj => by omega⟩
 ·rintro i ⟨o, p⟩ hi ⟨h1, h2, h3⟩ next
  simp only at h1 h2 h3
  subst h1
  have hc := cnt_le t k i
  have hl := pre_len t k i
  simp only [spec_without_L1, Int.toNat_natCast]
  refine Ex.yes (decide_eq_true (by omega)) ?_
  rw [w64_succ (by omega)]
  have er : (List.range (i + 1)).filter (kept t k) = (List.range i).filter (kept t k) ++ (if kept t k i = true then [i] else []) := by
   rw [List.range_succ, List.filter_append, List.filter_cons]; rfl
  cases hki : kept t k i with
  | false =>
   refine Ex.be (a := (((List.range i).filter (kept t k)).map (moved t k), p)) (Ex.be (specAbove_ex h k hi) (Ex.yes (by rw [hki]; rfl) (Ex.ret rfl))) ?_
   refine next (_, p) ⟨?_, h2, fun j hj hkj => ?_⟩
   ·rw [er, hki]; simp
   ·rcases Nat.eq_or_lt_of_le (Nat.le_of_lt_succ hj) with rfl | h6
    ·rw [hki] at hkj; cases hkj
    ·exact h3 j h6 hkj
  | true =>
   refine Ex.be (a := (((List.range i).filter (kept t k)).map (moved t k) ++ [moved t k i], p.set i (cnt t k i : Int))) (Ex.be (specAbove_ex h k hi) (Ex.no (by rw [hki]; rfl) (Ex.guard (by omega) (Ex.be (a := (moved t k i).parent) ?_ (Ex.guard (by omega) (Ex.guard ⟨trivial, trivial, by rw [hl]; simp; omega⟩ (Ex.ret ?_))))))) ?_
   ·refine Ex.ite (fun hb => ?_) (fun hb => ?_)
    ·have h0 : 0 < i := by have := of_decide_eq_true hb; omega
     have q := h.par i h0 hi
     have q2 : 0 ≤ (t.getD i dnod).parent ∧ (t.getD i dnod).parent < (p.length : Int) := by
      have := q.1; have := q.2; simp only [pa] at *; omega
     refine Ex.guard q2 (Ex.ret ?_)
     rw [moved, if_pos h0]
     exact h3 _ q.2 (kept_up h h0 hi hki)
    ·have h0 : ¬ 0 < i := by have := of_decide_eq_false hb; omega
     refine Ex.ret ?_
     rw [moved, if_neg h0]; rfl
   ·simp only [hl]; rfl
   ·refine next (_, _) ⟨?_, by simpa using h2, fun j hj hkj => ?_⟩
    ·rw [er, hki, if_pos rfl, List.map_append]; rfl
    ·simp only
     rw [getD_set' (by omega)]
     split
     ·rename_i e; rw [e]
     ·exact h3 j (by omega) hkj
 ·rintro ⟨o, p⟩ ⟨h1, _, _⟩
  simp only at h1
  subst h1
  simp only [spec_without_L1]
  exact Ex.no (decide_eq_false (by omega)) (Ex.ret rfl)
theorem specDrop_ex {t : List Nod} (h : VT t) (s : Str) : Ex (fun n => spec_DropNode n t (res t s)) (· = pairO (dropP t s)) := by
 have hhi := h.hi
 unfold spec_DropNode
 refine Ex.be (specTree_ex h.nl h.le) ?_
 rw [validT_iff.2 h, Bool.not_true, Bool.false_or, w64_id (by omega) (by omega)]
 rw [dropP, res]
 cases e : resO t s with
 | none =>
  exact Ex.yes (by simp [spec_inRange, oi]) (Ex.ret rfl)
 | some k =>
  have hk := ((resO_iff h).1 e).1
  simp only [oi]
  by_cases h0 : 0 < k
  ·rw [if_pos h0]
   refine Ex.no ?_ (Ex.be (specWithout_ex h h0) (Ex.ret rfl))
   rw [Bool.not_eq_false']
   simp only [spec_inRange, Bool.and_eq_true, decide_eq_true_eq]; omega
  ·rw [if_neg h0]
   refine Ex.yes ?_ (Ex.ret rfl)
   rw [Bool.not_eq_true']
   simp only [spec_inRange, Bool.and_eq_false_iff, decide_eq_false_iff_not]; omega
theorem specSet_ex {t : List Nod} (h : VT t) {k : Nat} (hk : k < t.length) (v : Int) : Ex (fun n => spec_SetValue n t (k : Int) v) (· = pairO (if rv v = true then some (setT t k v) else none)) := by
 have hhi := h.hi
 unfold spec_SetValue
 refine Ex.be (specTree_ex h.nl h.le) ?_
 rw [validT_iff.2 h, Bool.not_true, Bool.false_or, w64_id (by omega) (by omega)]
 have e1 : spec_inRange (k : Int) 0 ((t.length : Int) - 1) = true := by
  simp only [spec_inRange, Bool.and_eq_true, decide_eq_true_eq]; omega
 rw [e1, Bool.not_true, Bool.false_or, show spec_inRange v (-1000) 1000 = rv v from rfl]
 refine Ex.ite (fun hb => Ex.ret ?_) (fun hb => ?_)
 ·rw [if_neg (by rw [notT hb]; simp)]; rfl
 ·rw [if_pos (notF hb)]
  simp only [view_all, List.nil_append, Int.toNat_natCast]
  exact Ex.guard ⟨trivial, trivial, by simp; omega⟩ (Ex.guard (by omega) (Ex.ret rfl))
/-- the loop that looks for the last slash -/
theorem specCut_some {a b : Str} (hb : (47 : UInt8) ∉ b) (hl : (a ++ 47 :: b).length ≤ 1000000000000) : Ex (fun n => spec_cut n (a ++ 47 :: b)) (· = (if a = [] then [47] else a, b)) := by
 have hlen : (a ++ 47 :: b).length = a.length + 1 + b.length := by simp; omega
 have hat : ∀ j, j < b.length → (a ++ 47 :: b).getD (a.length + 1 + j) 0 ≠ 47 := by
  intro j hj e
  rw [show a.length + 1 + j = a.length + (1 + j) by omega, getD_app, show 1 + j = j + 1 by omega, List.getD_cons_succ] at e
  exact hb (e ▸ getD_mem hj)
 have h0 : (a ++ 47 :: b).getD a.length 0 = 47 := by
  have := getD_app (a := a) (b := 47 :: b) (d := (0 : UInt8)) 0
  rw [Nat.add_zero] at this; rw [this]; rfl
 have key : ∀ m, m ≤ b.length → Ex (fun n => spec_cut_L1 (a ++ 47 :: b) n ((a.length + m : Nat) : Int)) (· = if a = [] then .inr () else .inl (a, b)) := by
  intro m
  induction m with
  | zero =>
   intro _
   rw [Nat.add_zero]
   refine Ex.succ ?_
   simp only [spec_cut_L1, Int.toNat_natCast]
   cases ha : a with
   | nil => exact Ex.no (by simp) (Ex.ret rfl)
   | cons x y =>
    rw [← ha]
    have hpos : 0 < a.length := by rw [ha]; simp
    rw [w64_succ (by omega), if_neg (by rw [ha]; simp)]
    refine Ex.yes (decide_eq_true (by omega)) (Ex.guard (by omega) (Ex.yes (decide_eq_true (by rw [h0]; rfl)) (Ex.guard (by omega) (Ex.guard (by omega) (Ex.ret ?_)))))
    rw [Int.toNat_natCast]
    congr 2
    ·simp
    ·have e : a ++ 47 :: b = (a ++ [47]) ++ b := by simp
     rw [e]; exact List.drop_left' (by simp)
  | succ m ih =>
   intro hm
   refine Ex.succ ?_
   simp only [spec_cut_L1, Int.toNat_natCast]
   have h1 := hat m (by omega)
   rw [show a.length + 1 + m = a.length + (m + 1) by omega] at h1
   refine Ex.yes (decide_eq_true (by omega)) (Ex.guard (by omega) (Ex.no (decide_eq_false (fun e => h1 ?_)) ?_))
   ·apply UInt8.toNat_inj.1
    rw [show (47 : UInt8).toNat = 47 from rfl]
    omega
   ·have e : w64 (((a.length + (m + 1) : Nat) : Int) - 1) = ((a.length + m : Nat) : Int) := by rw [w64_id (by omega) (by omega)]; omega
    rw [e]
    exact ih (by omega)
 unfold spec_cut
 have e : w64 (((a ++ 47 :: b).length : Int) - 1) = ((a.length + b.length : Nat) : Int) := by rw [w64_id (by omega) (by omega)]; omega
 rw [e]
 refine Ex.be (key b.length (Nat.le_refl _)) ?_
 cases ha : a with
 | nil =>
  rw [if_pos rfl, if_pos rfl]
  exact Ex.no (by simp; omega) (Ex.guard (by simp; omega) (Ex.ret rfl))
 | cons x y => rw [if_neg (by simp), if_neg (by simp)]; exact Ex.ret rfl
theorem specCut_none {s : Str} (h : (47 : UInt8) ∉ s) (hl : s.length ≤ 1000000000000) : Ex (fun n => spec_cut n s) (fun r => r.1.length ≤ 1000000000000 ∧ r.2.length ≤ 1000000000000) := by
 have key : ∀ m : Nat, m < s.length → Ex (fun n => spec_cut_L1 s n (m : Int)) (· = .inr ()) := by
  intro m
  induction m with
  | zero => intro _; refine Ex.succ ?_; simp only [spec_cut_L1]; exact Ex.no (by decide) (Ex.ret rfl)
  | succ m ih =>
   intro hm
   refine Ex.succ ?_
   simp only [spec_cut_L1, Int.toNat_natCast]
   have h1 : s.getD (m + 1) 0 ≠ 47 := fun e => h (e ▸ getD_mem hm)
   refine Ex.yes (decide_eq_true (by omega)) (Ex.guard (by omega) (Ex.no (decide_eq_false (fun e => h1 ?_)) ?_))
   ·apply UInt8.toNat_inj.1
    rw [show (47 : UInt8).toNat = 47 from rfl]
    omega
   ·have e : w64 (((m + 1 : Nat) : Int) - 1) = (m : Int) := by rw [w64_id (by omega) (by omega)]; omega
    rw [e]
    exact ih (by omega)
 unfold spec_cut
 cases s with
 | nil =>
  refine Ex.be (a := .inr ()) ?_ ?_
  ·refine Ex.succ ?_
   simp only [spec_cut_L1]
   exact Ex.no (by decide) (Ex.ret rfl)
  ·refine Ex.yes rfl (Ex.ret ⟨?_, ?_⟩)
   ·simp
   ·simp
 | cons x y =>
  simp only [List.length_cons] at hl
  have e : w64 (((x :: y : Str).length : Int) - 1) = ((y.length : Nat) : Int) := by rw [w64_id (by simp <;> omega) (by simp; omega)]; simp
  rw [e]
  exact Ex.be (key y.length (by simp)) (Ex.no (by simp; omega) (Ex.guard (by simp; omega) (Ex.ret ⟨by simp, by simp; omega⟩)))
theorem specApply_ex {t : List Nod} (h : VT t) {e : Edt} (hp : e.path.length ≤ 1000000000000) : Ex (fun n => spec_apply n t e) (· = pairO (app1 t e)) := by
 have hhi := h.hi
 unfold spec_apply
 refine Ex.be (specRes_ex h e.path) ?_
 rw [app1]
 by_cases hk1 : e.kind = 1
 ·rw [if_pos hk1]
  by_cases hv : e.value = 0
  ·rw [if_pos hv]
   exact Ex.yes (by rw [decide_eq_true hk1, decide_eq_true hv]; rfl) (Ex.be (specDrop_ex h e.path) (Ex.ret rfl))
  ·rw [if_neg hv]
   refine Ex.no (by rw [decide_eq_false hv]; simp) (Ex.yes (by rw [decide_eq_false (by omega)]; rfl) (Ex.ret rfl))
 ·rw [if_neg hk1]
  refine Ex.no (by rw [decide_eq_false hk1]; rfl) ?_
  by_cases hk0 : e.kind = 0
  ·rw [if_pos hk0]
   refine Ex.no (by rw [decide_eq_true hk0]; rfl) ?_
   cases hr : resO t e.path with
   | some k =>
    have hk := ((resO_iff h).1 hr).1
    rw [res, hr]
    simp only [oi]
    exact Ex.yes (decide_eq_true (by omega)) (Ex.be (specSet_ex h hk e.value) (Ex.ret rfl))
   | none =>
    rw [res, hr]
    simp only [oi]
    refine Ex.no (by decide) ?_
    have fin : ∀ (s : Str) (x : Nod), x.name.length ≤ 1000000000000 → Ex (fun n => bindO (spec_AddNode n t x.parent x.name x.value) fun (x85, i86, b87) => bindO (iteO (!b87) (some true) (bindO (spec_resolve n x85 s) fun i96 => some (decide (i96 < 0)))) fun b93 => iteO b93 (some (([] : List Nod), false)) (some (x85, true))) (· = pairO (if validT (t ++ [x]) = true ∧ 0 ≤ res (t ++ [x]) s then some (t ++ [x]) else none)) := by
     intro s x hx
     refine Ex.be (specAdd_ex h.nl (by omega) _ hx _) ?_
     rw [show (⟨x.parent, x.name, x.value⟩ : Nod) = x from rfl, addT_fits h]
     by_cases hv : validT (t ++ [x]) = true
     ·rw [if_pos hv]
      refine Ex.be (a := decide (res (t ++ [x]) s < 0)) (Ex.no rfl (Ex.be (specRes_ex (validT_iff.1 hv) s) (Ex.ret rfl))) ?_
      refine Ex.ite (fun hb => Ex.ret ?_) (fun hb => Ex.ret ?_)
      ·rw [if_neg (fun h => by have := of_decide_eq_true hb; omega)]; rfl
      ·rw [if_pos ⟨hv, by have := of_decide_eq_false hb; omega⟩]; rfl
     ·rw [if_neg hv, if_neg (fun h => hv h.1)]
      exact Ex.be (a := true) (Ex.yes rfl (Ex.ret rfl)) (Ex.yes rfl (Ex.ret rfl))
    rcases last_at 47 e.path with h1 | ⟨a, b, h1, h2⟩
    ·have e1 : addP t e.path e.value = none := by rw [addP, pth_nohead h1]
     rw [e1]
     refine Ex.bind (specCut_none h1 hp) ?_
     rintro ⟨p, q⟩ ⟨hp1, hq1⟩
     simp only at hp1 hq1
     refine Ex.be (specRes_ex h p) ?_
     refine Ex.mono (fin e.path ⟨res t p, q, e.value⟩ hq1) (fun r hr => ?_)
     rw [hr, if_neg]
     rintro ⟨h3, h4⟩
     rw [res_nohead (validT_iff.1 h3) h1] at h4; omega
    ·rw [h1] at hp hr ⊢
     refine Ex.be (specCut_some h2 hp) ?_
     simp only
     refine Ex.be (specRes_ex h _) ?_
     have e3 : res t (if a = [] then [47] else a) = if a = [] then 0 else res t a := by
      split
      ·rw [res_desc h, if_pos rfl, if_pos rfl]
      ·rfl
     rw [e3, addP_up h h2 hr]
     refine Ex.mono (fin (a ++ 47 :: b) ⟨if a = [] then 0 else res t a, b, e.value⟩ (by simp at hp; simp; omega)) (fun r hr => hr)
  ·rw [if_neg hk0]
   exact Ex.yes (by rw [decide_eq_false hk0]; rfl) (Ex.ret rfl)
theorem specApplyAll_ex {t : List Nod} (hn : NL t) (hl : t.length ≤ 400000000) {l : List Edt} (hp : ∀ e ∈ l, e.path.length ≤ 1000000000000) : Ex (fun n => spec_ApplyEdits n t l) (· = applyR t l) := by
 unfold spec_ApplyEdits
 refine Ex.be (specTree_ex hn hl) ?_
 rw [applyR]
 cases hv : validT t with
 | false => exact Ex.yes rfl (Ex.ret rfl)
 | true =>
  have h := validT_iff.1 hv
  by_cases h24 : l.length ≤ 24
  ·rw [decide_eq_true h24]
   refine Ex.no (by rw [decide_eq_false (by omega)]; rfl) ?_
   rw [if_pos (show (true && true) = true from rfl)]
   have loop : ∀ (L : List Edt) (k : Nat) (u : List Nod), VT u → l.drop k = L → k ≤ l.length → Ex (fun n => spec_ApplyEdits_L1 l t n u (k : Int)) (· = match appAll u L with
     | some w => .inr w
     | none => .inl ()) := by
    intro L
    induction L with
    | nil =>
     intro k u hu h1 h2
     have h3 := List.drop_eq_nil_iff.1 h1
     refine Ex.succ ?_
     simp only [spec_ApplyEdits_L1]
     exact Ex.no (decide_eq_false (by omega)) (Ex.ret rfl)
    | cons e L ih =>
     intro k u hu h1 h2
     have hk : k < l.length := by
      rcases Nat.lt_or_ge k l.length with h3 | h3
      ·exact h3
      ·rw [List.drop_eq_nil_of_le h3] at h1; cases h1
     rw [drop_at dedt hk, List.cons.injEq] at h1
     refine Ex.succ ?_
     simp only [spec_ApplyEdits_L1, Int.toNat_natCast, h1.1]
     refine Ex.yes (decide_eq_true (by omega)) (Ex.guard (by omega) (Ex.be (specApply_ex hu (hp e (by rw [← h1.1]; exact getD_mem hk))) ?_))
     rw [appAll]
     cases ha : app1 u e with
     | none => exact Ex.yes rfl (Ex.ret rfl)
     | some w =>
      refine Ex.no rfl ?_
      rw [w64_succ (by omega)]
      exact ih (k + 1) w (app1_VT hu ha) h1.2 (by omega)
   cases l with
   | nil =>
    refine Ex.be (a := .inr (.inr ())) (Ex.no (by simp) (Ex.ret rfl)) ?_
    simp only [view_all, List.nil_append]
    exact Ex.guard ⟨trivial, trivial, by have := h.hi; simp; omega⟩ (Ex.ret rfl)
   | cons e L =>
    rw [appAll]
    refine Ex.be (a := match app1 t e with
     | none => .inl ()
     | some u => match appAll u L with
      | none => .inl ()
      | some w => .inr (.inl w)) ?_ ?_
    ·have e0 : (e :: L).getD 0 dedt = e := rfl
     simp only [e0]
     refine Ex.yes (by simp) (Ex.guard (by simp) (Ex.be (specApply_ex h (hp e (by simp))) ?_))
     cases ha : app1 t e with
     | none => exact Ex.yes rfl (Ex.ret rfl)
     | some u =>
      refine Ex.no rfl ?_
      have e1 : w64 (0 + 1) = ((1 : Nat) : Int) := by decide
      rw [e1]
      refine Ex.be (loop L 1 u (app1_VT h ha) rfl (by simp)) ?_
      cases hb : appAll u L with
      | none => exact Ex.ret (by simp only [hb])
      | some w => exact Ex.ret (by simp only [hb])
    ·cases ha : app1 t e with
     | none => exact Ex.ret rfl
     | some u =>
      cases hb : appAll u L with
      | none => simp only [hb]; exact Ex.ret rfl
      | some w =>
       have hw := (appAll_VT (app1_VT h ha) hb).hi
       simp only [hb, view_all, List.nil_append]
       exact Ex.guard ⟨trivial, trivial, by simp; omega⟩ (Ex.ret rfl)
  ·rw [decide_eq_false h24]
   exact Ex.yes (by rw [decide_eq_true (by omega)]; rfl) (Ex.ret rfl)
end
section
open Go
set_option linter.unusedVariables false
theorem specSplit_ex {s : Str} (hs : s.length ≤ 1000000000) (c : UInt8) {ci : Int} (hc : ci = (c.toNat : Int)) : Ex (fun n => spec_splitAt n s ci) (· = spl c s) := by
 subst hc
 unfold spec_splitAt
 refine Ex.bind (P := fun r => ∃ f : Nat, r.2 = (f : Int) ∧ f ≤ s.length ∧ r.1.length ≤ s.length ∧ r.1 ++ [s.drop f] = spl c s) ?_ ?_
 ·refine up s.length (fun k (r : List Str × Int) => ∃ f : Nat, r.2 = (f : Int) ∧ f ≤ k ∧ r.1.length ≤ k ∧ c ∉ (s.take k).drop f ∧ r.1 ++ spl c (s.drop f) = spl c s) (f := fun n r i => spec_splitAt_L1 s (c.toNat : Int) n r.1 r.2 i) ?_ ?_ 0 ([], 0) (Nat.zero_le _) ⟨0, rfl, Nat.le_refl _, by simp, by simp, rfl⟩
  ·rintro k ⟨x, _⟩ hk ⟨f, rfl, hf, hxl, hno, he⟩ next
   simp only at hxl he
   simp only [spec_splitAt_L1, Int.toNat_natCast]
   refine Ex.yes (decide_eq_true (by omega)) (Ex.guard (by omega) ?_)
   have hst : s.drop f = (s.take k).drop f ++ s.getD k 0 :: s.drop (k + 1) := by
    have h1 : s = s.take k ++ s.getD k 0 :: s.drop (k + 1) := by
     have := List.take_append_drop k s
     rw [drop_at 0 hk] at this
     exact this.symm
    have h2 : f ≤ (s.take k).length := by simp; omega
    calc s.drop f = (s.take k ++ s.getD k 0 :: s.drop (k + 1)).drop f := by rw [← h1]
     _ = _ := List.drop_append_of_le_length h2
   have htk : (s.take (k + 1)).drop f = (s.take k).drop f ++ [s.getD k 0] := by
    have h1 : s[k]? = some (s.getD k 0) := by rw [List.getD_eq_getElem?_getD, List.getElem?_eq_getElem hk]; rfl
    rw [List.take_add_one, h1, Option.toList, List.drop_append_of_le_length (by simp; omega)]
   by_cases hb : s.getD k 0 = c
   ·refine Ex.be (a := (x ++ [(s.take k).drop f], ((k + 1 : Nat) : Int))) (Ex.yes (decide_eq_true (by rw [hb])) (Ex.guard (by omega) (Ex.guard (by simp; omega) (Ex.ret ?_)))) ?_
    ·rw [w64_succ (by omega)]; rfl
    ·simp only
     rw [w64_succ (by omega)]
     refine next (_, _) ⟨k + 1, rfl, Nat.le_refl _, by simp; omega, by simp, ?_⟩
     rw [hst, hb, spl_at hno] at he
     rw [List.append_assoc]; exact he
   ·refine Ex.be (a := (x, (f : Int))) (Ex.no (decide_eq_false (fun e => hb (UInt8.toNat_inj.1 (by omega)))) (Ex.ret rfl)) ?_
    simp only
    rw [w64_succ (by omega)]
    refine next (_, _) ⟨f, rfl, by omega, by simp only; omega, ?_, he⟩
    rw [htk]
    simp only [List.mem_append, List.mem_singleton, not_or]
    exact ⟨hno, fun e => hb e.symm⟩
  ·rintro ⟨x, _⟩ ⟨f, rfl, hf, hxl, hno, he⟩
   simp only at hxl he
   simp only [spec_splitAt_L1]
   refine Ex.no (decide_eq_false (by omega)) (Ex.ret ⟨f, rfl, hf, hxl, ?_⟩)
   rw [List.take_length] at hno
   rw [spl_none hno] at he
   exact he
 ·rintro ⟨x, _⟩ ⟨f, rfl, hf, hxl, he⟩
  simp only at hxl he ⊢
  rw [Int.toNat_natCast]
  exact Ex.guard (by omega) (Ex.guard (by simp; omega) (Ex.ret (by rw [← he]; simp)))
/-- the number with a numeral of at most five bytes -/
def pI (s : Str) : Int × Bool := match Lib.atoiAll s with
 | .ok v => if Lib.itoa v = s ∧ s.length ≤ 5 then (v, true) else (0, false)
 | _ => (0, false)
theorem pI_some {s : Str} {v : Int} (h : pI s = (v, true)) : Lib.atoiAll s = .ok v ∧ Lib.itoa v = s ∧ s.length ≤ 5 := by
 unfold pI at h
 split at h
 ·rename_i u hu
  split at h
  ·rename_i h2
   cases h
   exact ⟨hu, h2⟩
  ·cases h
 ·cases h
theorem pI_none {s : Str} (h : ∀ v, Lib.itoa v = s → s.length ≤ 5 → False) : pI s = (0, false) := by
 unfold pI
 split
 ·rename_i u hu
  rw [if_neg (fun h2 => h u h2.1 h2.2)]
 ·rfl
theorem pI_itoa {v : Int} (h0 : -1000000 ≤ v) (h1 : v ≤ 1000000) (hl : (Lib.itoa v).length ≤ 5) : pI (Lib.itoa v) = (v, true) := by
 unfold pI
 rw [atoi_itoa h0 h1]
 show (if Lib.itoa v = Lib.itoa v ∧ (Lib.itoa v).length ≤ 5 then (v, true) else (0, false)) = _
 rw [if_pos ⟨rfl, hl⟩]
/-- the digits of a numeral -/
def dgs (s : Str) : Str := if s.head? = some 45 then s.drop 1 else s
theorem itoa_pos {v : Int} {k : Nat} (hk : k < (Lib.itoa v).length) : (48 ≤ ((Lib.itoa v).getD k 0).toNat ∧ ((Lib.itoa v).getD k 0).toNat ≤ 57) ∨ (k = 0 ∧ ((Lib.itoa v).getD k 0).toNat = 45) := by
 unfold Lib.itoa at hk ⊢
 split
 ·rename_i h
  rw [if_pos h] at hk
  cases k with
  | zero => exact .inr ⟨rfl, rfl⟩
  | succ k =>
   left
   have : k < (Lib.decDigits v.natAbs).length := by simpa using hk
   rw [List.getD_cons_succ]
   exact digits_ok _ _ (getD_mem this)
 ·rename_i h
  rw [if_neg h] at hk
  exact .inl (digits_ok _ _ (getD_mem hk))
theorem atoi_dgs {s : Str} {v u : Int} (h : Lib.atoiAll s = .ok v) (hu : Lib.parseUint10 0 (dgs s) = .ok u.toNat) (hu0 : 0 ≤ u) (h43 : s.head? ≠ some 43) : v = if s.head? = some 45 then -u else u := by
 cases s with
 | nil => cases h
 | cons c r =>
  by_cases hc : c = 45
  ·subst hc
   rw [Lib.atoiAll_minus] at h
   simp only [dgs, List.head?_cons, if_true, List.drop_succ_cons, List.drop_zero] at hu ⊢
   rw [Lib.parseMag] at h
   split at h
   ·cases h
   ·rw [hu] at h
    simp only [Lib.signed] at h
    split at h
    ·cases h
    ·injection h with h
     omega
  ·have hn : ¬ ((c :: r).head? = some 45) := by simpa using hc
   have h45 : c.toNat ≠ 45 := fun e => hc (UInt8.toNat_inj.1 e)
   have h43' : c.toNat ≠ 43 := fun e => h43 (by rw [List.head?_cons, UInt8.toNat_inj.1 (show c.toNat = (43 : UInt8).toNat from e)])
   rw [Lib.atoiAll_plain c r h43' h45] at h
   rw [dgs, if_neg hn] at hu
   rw [if_neg hn]
   rw [Lib.parseMag, if_neg (by simp), hu] at h
   simp only [Lib.signless] at h
   split at h
   ·cases h
   ·injection h with h
    omega
theorem pu_snoc {l : Str} {c : UInt8} {u : Nat} (h : Lib.parseUint10 0 l = .ok u) (hc : 48 ≤ c.toNat ∧ c.toNat ≤ 57) (hu : u ≤ 1000000000) : Lib.parseUint10 0 (l ++ [c]) = .ok (u * 10 + (c.toNat - 48)) := by
 rw [pu_app l [c] 0 u h]
 simp only [Lib.parseUint10]
 rw [if_pos hc, if_neg (by omega), if_neg (by omega)]
theorem specInt_ex (s : Str) : Ex (fun n => spec_parseInt n s) (· = pI s) := by
 unfold spec_parseInt
 by_cases h5 : 5 < s.length
 ·refine Ex.be (a := .inr 0) ?_ ?_
  ·refine Ex.succ ?_
   simp only [spec_parseInt_L1]
   exact Ex.no (by rw [decide_eq_false (p := ((s.length : Nat) : Int) ≤ 5) (by omega), Bool.and_false]) (Ex.ret rfl)
  ·have hp : pI s = (0, false) := pI_none (fun v _ h => by omega)
   have e0 : w64 (0 - 0) = 0 := by decide
   refine Ex.bind (P := fun _ => True) (Ex.ite (fun hb => Ex.guard (by omega) (Ex.ret trivial)) (fun _ => Ex.ret trivial)) (fun b _ => ?_)
   refine Ex.be (a := 0) (Ex.ite (fun _ => Ex.ret e0) (fun _ => Ex.ret rfl)) ?_
   refine Ex.be (a := true) (Ex.ite (fun _ => Ex.ret rfl) (fun _ => Ex.yes (decide_eq_true (by omega)) (Ex.ret rfl))) (Ex.yes rfl (Ex.ret hp.symm))
 ·refine Ex.bind (P := fun v => match v with | .inl _ => pI s = (0, false) | .inr r => 0 ≤ r ∧ r ≤ 99999 ∧ Lib.parseUint10 0 (dgs s) = .ok r.toNat ∧ s.head? ≠ some 43) ?_ ?_
  ·have hpow : ∀ k : Nat, k < 5 → (10 : Int) ^ (k + 1) ≤ 100000 ∧ (10 : Int) ^ (k + 1) = 10 * 10 ^ k := by
    intro k hk
    have : k = 0 ∨ k = 1 ∨ k = 2 ∨ k = 3 ∨ k = 4 := by omega
    rcases this with rfl | rfl | rfl | rfl | rfl <;> decide
   have hdg : ∀ k, k ≤ s.length → dgs (s.take k) = (if s.head? = some 45 then (s.take k).drop 1 else s.take k) := by
    intro k hk
    cases s with
    | nil => simp [dgs]
    | cons c r =>
     cases k with
     | zero => simp [dgs]
     | succ k => simp [dgs]
   refine up s.length (fun k (r : Int) => 0 ≤ r ∧ r < 10 ^ k ∧ Lib.parseUint10 0 (if s.head? = some 45 then (s.take k).drop 1 else s.take k) = .ok r.toNat ∧ (0 < k → s.head? ≠ some 43)) (f := fun n r i => spec_parseInt_L1 s n r i) ?_ ?_ 0 0 (Nat.zero_le _) ⟨by omega, by decide, by simp [Lib.parseUint10], fun h => by omega⟩
   ·rintro k r hk ⟨h0, h1, h2, h3⟩ next
    obtain ⟨hp1, hp2⟩ := hpow k (by omega)
    have hst : s.take (k + 1) = s.take k ++ [s.getD k 0] := by
     have h1 : s[k]? = some (s.getD k 0) := by rw [List.getD_eq_getElem?_getD, List.getElem?_eq_getElem hk]; rfl
     rw [List.take_add_one, h1]; rfl
    have hb256 : (s.getD k 0).toNat < 256 := (s.getD k 0).toNat_lt
    simp only [spec_parseInt_L1, Int.toNat_natCast]
    refine Ex.yes (by rw [decide_eq_true (by omega), decide_eq_true (by omega)]; rfl) (Ex.guard (by omega) ?_)
    rw [w64_id (n := ((s.getD k 0).toNat : Int)) (by omega) (by omega), w64_id (n := 10 * r) (by omega) (by omega), w64_id (n := 10 * r + ((s.getD k 0).toNat : Int)) (by omega) (by omega), w64_id (n := 10 * r + ((s.getD k 0).toNat : Int) - 48) (by omega) (by omega), w64_succ (by omega)]
    by_cases hd : 48 ≤ (s.getD k 0).toNat ∧ (s.getD k 0).toNat ≤ 57
    ·refine Ex.be (a := .inl (10 * r + ((s.getD k 0).toNat : Int) - 48)) (Ex.yes ?_ (Ex.guard (by omega) (Ex.ret rfl))) ?_
     ·unfold spec_inRange
      rw [decide_eq_true (by omega), decide_eq_true (by omega)]; rfl
     refine next _ ⟨by omega, by omega, ?_, fun _ => ?_⟩
     ·have e : (10 * r + ((s.getD k 0).toNat : Int) - 48).toNat = r.toNat * 10 + ((s.getD k 0).toNat - 48) := by omega
      rw [e]
      split
      ·rename_i h45
       rw [if_pos h45] at h2
       have hk0 : 0 < k := by
        rcases Nat.eq_zero_or_pos k with h | h
        ·subst h
         exfalso
         cases s with
         | nil => cases h45
         | cons c r' =>
          cases h45
          have : (((45 : UInt8) :: r').getD 0 0).toNat = 45 := rfl
          omega
        ·exact h
       rw [hst, List.drop_append_of_le_length (by simp; omega)]
       exact pu_snoc h2 hd (by omega)
      ·rename_i h45
       rw [if_neg h45] at h2
       rw [hst]
       exact pu_snoc h2 hd (by omega)
     ·rcases Nat.eq_zero_or_pos k with h | h
      ·subst h
       cases s with
       | nil => simp
       | cons c r' =>
        intro e
        cases e
        have : (((43 : UInt8) :: r').getD 0 0).toNat = 43 := rfl
        omega
      ·exact h3 h
    ·refine Ex.be (a := if k = 0 ∧ (s.getD k 0).toNat = 45 then .inl r else .inr ()) (Ex.no ?_ (Ex.be (a := !decide (k = 0 ∧ (s.getD k 0).toNat = 45)) ?_ ?_)) ?_
     ·unfold spec_inRange
      by_cases h48 : 48 ≤ (s.getD k 0).toNat
      ·rw [decide_eq_false (p := ((s.getD k 0).toNat : Int) ≤ 57) (by omega), Bool.and_false]
      ·rw [decide_eq_false (p := (48 : Int) ≤ ((s.getD k 0).toNat : Int)) (by omega), Bool.false_and]
     ·refine Ex.ite (fun hb => Ex.ret ?_) (fun hb => Ex.guard (by omega) (Ex.ret ?_))
      ·have := of_decide_eq_true hb
       rw [decide_eq_false (by omega)]; rfl
      ·have := of_decide_eq_false hb
       congr 1
       rw [decide_eq_decide]
       omega
     ·by_cases hz : k = 0 ∧ (s.getD k 0).toNat = 45
      ·rw [if_pos hz]
       exact Ex.no (by simp only [decide_eq_true hz]; rfl) (Ex.ret rfl)
      ·rw [if_neg hz]
       exact Ex.yes (by simp only [decide_eq_false hz]; rfl) (Ex.ret rfl)
     ·by_cases hz : k = 0 ∧ (s.getD k 0).toNat = 45
      ·rw [if_pos hz]
       obtain ⟨rfl, hz⟩ := hz
       have hh : s.head? = some 45 := by
        cases s with
        | nil => simp at hk
        | cons c r' =>
         have : c = 45 := UInt8.toNat_inj.1 hz
         rw [this]; rfl
       refine next _ ⟨h0, by omega, ?_, fun _ => by rw [hh]; simp⟩
       rw [if_pos hh] at h2 ⊢
       rw [hst]
       simpa using h2
      ·rw [if_neg hz]
       refine Ex.ret (pI_none fun v hv _ => ?_)
       subst hv
       rcases itoa_pos hk with h | h
       ·exact hd h
       ·exact hz h
   ·rintro r ⟨h0, h1, h2, h3⟩
    simp only [spec_parseInt_L1]
    refine Ex.no (by rw [decide_eq_false (by omega)]; rfl) (Ex.ret ⟨h0, ?_, ?_, ?_⟩)
    ·rcases Nat.eq_zero_or_pos s.length with h | h
     ·rw [h] at h1; omega
     ·obtain ⟨m, hm⟩ : ∃ m, s.length = m + 1 := ⟨s.length - 1, by omega⟩
      have := (hpow m (by omega)).1
      rw [hm] at h1; omega
    ·rw [List.take_length] at h2
     exact h2
    ·rcases Nat.eq_zero_or_pos s.length with h | h
     ·rw [List.eq_nil_of_length_eq_zero h]; simp
     ·exact h3 h
  ·rintro (u | r) hr
   ·exact Ex.ret hr.symm
   ·obtain ⟨h0, h1, h2, h3⟩ := hr
    refine Ex.be (a := decide (s.head? = some 45)) ?_ ?_
    ·refine Ex.ite (fun hb => Ex.guard (by have := of_decide_eq_true hb; omega) (Ex.ret ?_)) (fun hb => Ex.ret ?_)
     ·cases s with
      | nil => simp at hb
      | cons c r' =>
       rw [decide_eq_decide]
       constructor
       ·intro e
        have : c = 45 := UInt8.toNat_inj.1 (by have e : (((c :: r').getD 0 0).toNat : Int) = 45 := e; have e2 : (c.toNat : Int) = 45 := e; show c.toNat = 45; omega)
        rw [this]; rfl
       ·intro e
        cases e; rfl
     ·have hl := of_decide_eq_false hb
      have : s = [] := List.eq_nil_of_length_eq_zero (by omega)
      subst this; rfl
    ·refine Ex.be (a := if s.head? = some 45 then -r else r) ?_ ?_
     ·refine Ex.ite (fun hb => Ex.ret ?_) (fun hb => Ex.ret ?_)
      ·rw [if_pos (of_decide_eq_true hb), w64_id (by omega) (by omega)]; omega
      ·rw [if_neg (of_decide_eq_false hb)]
     ·have hb0 : -99999 ≤ (if s.head? = some 45 then -r else r) ∧ (if s.head? = some 45 then -r else r) ≤ 99999 := by split <;> omega
      have hv : ∀ v, pI s = (v, true) → v = (if s.head? = some 45 then -r else r) := fun v hv => atoi_dgs (pI_some hv).1 h2 h0 h3
      generalize (if s.head? = some 45 then -r else r) = m at hb0 hv
      refine Ex.be (a := !decide (s ≠ [] ∧ Lib.itoa m = s)) ?_ ?_
      ·refine Ex.ite (fun hb => Ex.ret ?_) (fun hb => ?_)
       ·have : s = [] := List.eq_nil_of_length_eq_zero (by have := of_decide_eq_true hb; omega)
        subst this; rfl
       ·have hne : s ≠ [] := fun e => of_decide_eq_false hb (by rw [e]; rfl)
        refine Ex.no (decide_eq_false (by omega)) (Ex.be (decimal_ex (by omega) (by omega)) (Ex.ret ?_))
        congr 1
        rw [decide_eq_decide]
        exact ⟨fun h => ⟨hne, h⟩, fun h => h.2⟩
      ·by_cases hc : s ≠ [] ∧ Lib.itoa m = s
       ·refine Ex.no (by rw [decide_eq_true hc]; rfl) (Ex.ret ?_)
        have := pI_itoa (v := m) (by omega) (by omega) (by rw [hc.2]; omega)
        rw [hc.2] at this
        exact this.symm
       ·refine Ex.yes (by rw [decide_eq_false hc]; rfl) (Ex.ret ?_)
        cases hp : pI s with
        | mk v q =>
         cases q with
         | true =>
          exfalso
          have h6 := pI_some hp
          have := hv v hp
          subst this
          exact hc ⟨fun e => itoa_ne v (by rw [h6.2.1, e]), h6.2.1⟩
         | false =>
          unfold pI at hp
          split at hp
          ·split at hp
           ·cases hp
           ·exact hp
          ·exact hp
end
section
open Go
set_option linter.unusedVariables false
def needM (m : Int) : Int := if m = 3 then 1 else 2
theorem specNeed {m : Int} (h : m = 3 ∨ m = 5) : spec_needAbove m = some (needM m) := by
 rcases h with rfl | rfl <;> decide
theorem implNeed {m : Int} (h : m = 3 ∨ m = 5) : impl_NeedAbove m = some (needM m) := by
 rcases h with rfl | rfl <;> decide
/-- the locks for a node: on the nodes above it, then on it -/
def locksF (t : List Nod) (w : Int) (k : Nat) (m : Int) : List Lck := ((nix t k).dropLast.map fun j => ⟨w, j, needM m⟩) ++ [⟨w, (k : Int), m⟩]
theorem take_last {α : Type} (l : List α) : l.dropLast = l.take (l.length - 1) := List.dropLast_eq_take
theorem map_step {α β : Type} (f : α → β) (d : α) {l : List α} {k : Nat} (h : k < l.length) : (l.take (k + 1)).map f = (l.take k).map f ++ [f (l.getD k d)] := by
 have : l[k]? = some (l.getD k d) := by rw [List.getD_eq_getElem?_getD, List.getElem?_eq_getElem h]; rfl
 rw [List.take_add_one, this, List.map_append]; rfl
theorem nix_bound {t : List Nod} (h : VT t) {k : Nat} (hk : k < t.length) : 1 ≤ (nix t k).length ∧ (nix t k).length ≤ 5 := by
 rw [nix_len]
 have := h.dep k hk
 omega
theorem locksF_len {t : List Nod} (h : VT t) {k : Nat} (hk : k < t.length) (w m : Int) : (locksF t w k m).length ≤ 5 := by
 have := nix_bound h hk
 rw [locksF]; simp; omega
theorem specLocksFor_ex {t : List Nod} (h : VT t) {k : Nat} (hk : k < t.length) (w : Int) {m : Int} (hm : m = 3 ∨ m = 5) : Ex (fun n => spec_locksFor n t w (k : Int) m) (· = locksF t w k m) := by
 have hb := nix_bound h hk
 unfold spec_locksFor
 refine Ex.be (specPathTo_ex h hk) ?_
 unfold locksF
 generalize nix t k = p at hb
 have hl : (p.dropLast.map fun j => (⟨w, j, needM m⟩ : Lck)).length ≤ 4 := by simp; omega
 refine Ex.be (a := p.dropLast.map fun j => ⟨w, j, needM m⟩) ?_ (Ex.guard (by simp; omega) (Ex.ret (by simp)))
 rw [take_last]
 refine up (p.length - 1) (fun i (x : List Lck) => x = (p.take i).map fun j => ⟨w, j, needM m⟩) (f := fun n x i => spec_locksFor_L1 w (k : Int) m p t n x i) ?_ ?_ 0 [] (Nat.zero_le _) rfl
 ·rintro i _ hi rfl next
  simp only [spec_locksFor_L1, Int.toNat_natCast]
  rw [w64_succ (by omega)]
  refine Ex.yes (decide_eq_true (by omega)) (Ex.guard (by omega) (Ex.bc (specNeed hm) (Ex.guard (by simp; omega) ?_)))
  refine next _ ?_
  rw [map_step _ 0 (by omega)]; simp
 ·rintro _ rfl
  simp only [spec_locksFor_L1]
  refine Ex.no (decide_eq_false ?_) (Ex.ret rfl)
  rw [w64_succ (by omega)]; omega
theorem implLocksFor_ex {t : List Nod} (h : VT t) {k : Nat} (hk : k < t.length) {w : Int} (hw : 0 ≤ w ∧ w ≤ 3) {m : Int} (hm : m = 3 ∨ m = 5) : Ex (fun n => impl_LocksFor n t w (k : Int) m) (· = locksF t w k m) := by
 have hb := nix_bound h hk
 have hhi := h.hi
 have hask : impl_isAsk w (k : Int) m = true := (okL_iff (x := ⟨w, (k : Int), m⟩)).2 ⟨hw, ⟨by simp, by simp only; omega⟩, by simp only; omega⟩
 unfold impl_LocksFor
 refine Ex.be (implNode_ex (by omega) _) ?_
 rw [validT_iff.2 h, decide_eq_true (by omega), hask]
 refine Ex.no rfl (Ex.be (implPathTo_ex (by omega) _) ?_)
 rw [validT_iff.2 h, decide_eq_true (by omega), if_pos (show (true && true) = true from rfl), Int.toNat_natCast]
 unfold locksF
 generalize nix t k = p at hb
 have hl : (p.dropLast.map fun j => (⟨w, j, needM m⟩ : Lck)).length ≤ 4 := by simp; omega
 have ew : w64 (((p.length : Nat) : Int) - 1) = ((p.length - 1 : Nat) : Int) := by rw [w64_id (by omega) (by omega)]; omega
 rw [ew]
 refine Ex.guard (by omega) (Ex.be (a := p.dropLast.map fun j => ⟨w, j, needM m⟩) ?_ (Ex.guard (by simp; omega) (Ex.ret (by simp))))
 rw [take_last]
 refine up (p.length - 1) (fun i (x : List Lck) => x = (p.take i).map fun j => ⟨w, j, needM m⟩) (f := fun n x i => impl_LocksFor_L1 w (k : Int) m p t n x i) ?_ ?_ 0 [] (Nat.zero_le _) rfl
 ·rintro i _ hi rfl next
  simp only [impl_LocksFor_L1, Int.toNat_natCast, ew]
  refine Ex.yes (decide_eq_true (by omega)) (Ex.guard (by omega) (Ex.bc (implNeed hm) (Ex.guard (by simp; omega) ?_)))
  rw [w64_succ (by omega)]
  refine next _ ?_
  rw [map_step _ 0 (by omega)]; simp
 ·rintro _ rfl
  simp only [impl_LocksFor_L1, ew, Int.toNat_natCast]
  exact Ex.no (decide_eq_false (by omega)) (Ex.ret rfl)
/-- may one with these locks read (3) or write (5) a node -/
def mayM (t : List Nod) (l : List Lck) (w : Int) (k : Nat) (m : Int) : Bool := (nix t k).any fun j => decide (m ≤ heldL w j l)
theorem specMay_loop {l : List Lck} (hl : l.length ≤ 1000) {w : Int} {p : List Int} (hp : p.length ≤ 5) {f : Nat → Int → Option (Unit ⊕ Unit)} {q : Int → Bool}
  (h1 : ∀ (k : Nat) n, f (n + 1) (k : Int) = iteO (decide ((k : Int) < ((p.length : Nat) : Int))) (guardO (0 ≤ (k : Int) ∧ (k : Int) < ((p.length : Nat) : Int)) <| bindO (spec_held n l w (p.getD k 0)) fun i90 => iteO (q i90) (some (.inl ())) (f n (w64 ((k : Int) + 1)))) (some (.inr ()))) :
  Ex (fun n => f n 0) (· = if (p.any fun j => q (heldL w j l)) = true then .inl () else .inr ()) := by
 refine any_loop p 0 (fun j => q (heldL w j l)) ?_ ?_ ?_
 ·intro k hk hq
  simp only [h1]
  refine Ex.yes (decide_eq_true (by omega)) (Ex.guard (by omega) (Ex.be (specHeld_ex (by omega) _ _) (Ex.yes hq (Ex.ret rfl))))
 ·intro k hk hq r hr
  simp only [h1]
  rw [w64_succ (by omega)]
  refine Ex.yes (decide_eq_true (by omega)) (Ex.guard (by omega) (Ex.be (specHeld_ex (by omega) _ _) (Ex.no hq hr)))
 ·simp only [h1]
  exact Ex.no (decide_eq_false (by omega)) (Ex.ret rfl)
theorem specMayRead_ex {t : List Nod} (h : VT t) {l : List Lck} (hv : validB l = true) {k : Nat} (hk : k < t.length) (w : Int) : Ex (fun n => spec_mayRead n t l w (k : Int)) (· = mayM t l w k 3) := by
 have h48 := (validB_iff.1 hv).1
 have hb := nix_bound h hk
 unfold spec_mayRead
 refine Ex.be (specPathTo_ex h hk) (Ex.be (specMay_loop (l := l) (by omega) (w := w) hb.2 (f := fun n i => spec_mayRead_L1 l w (nix t k) t n i) (q := fun x => decide (3 ≤ x)) (fun k n => by simp only [spec_mayRead_L1, Int.toNat_natCast])) ?_)
 unfold mayM
 cases (nix t k).any fun j => decide (3 ≤ heldL w j l) with
 | true => exact Ex.ret rfl
 | false => exact Ex.ret rfl
theorem specMayWrite_ex {t : List Nod} (h : VT t) {l : List Lck} (hv : validB l = true) {k : Nat} (hk : k < t.length) (w : Int) : Ex (fun n => spec_mayWrite n t l w (k : Int)) (· = mayM t l w k 5) := by
 obtain ⟨h48, hg⟩ := validB_iff.1 hv
 have hb := nix_bound h hk
 unfold spec_mayWrite
 refine Ex.be (specPathTo_ex h hk) (Ex.be (specMay_loop (l := l) (by omega) (w := w) hb.2 (f := fun n i => spec_mayWrite_L1 l w (nix t k) t n i) (q := fun x => decide (x = 5)) (fun k n => by simp only [spec_mayWrite_L1, Int.toNat_natCast])) ?_)
 have e : ((nix t k).any fun j => decide (heldL w j l = 5)) = mayM t l w k 5 := by
  unfold mayM
  congr 1
  funext j
  have := held_in (good_ok hg) w j
  rw [decide_eq_decide]; omega
 rw [e]
 cases mayM t l w k 5 with
 | true => exact Ex.ret rfl
 | false => exact Ex.ret rfl
theorem ix_dec {t : List Nod} (h : VT t) (k : Nat) (hk : k < t.length) : ix t k = if 0 < k then ix t (pa t k).toNat ++ [k] else [0] := by
 rw [ix]
 by_cases h0 : 0 < k
 ·have hp := h.par k h0 hk
  rw [dif_pos ⟨hp.1, hp.2⟩, if_pos h0]; rfl
 ·have : k = 0 := by omega
  subst this
  have hr : (t.getD 0 dnod).parent = -1 := h.rp
  rw [dif_neg (by rw [hr]; omega), if_neg h0]
theorem onPath_loop {t : List Nod} (h : VT t) {l : List Lck} (hv : validB l = true) (w : Int) {m : Int} (hm : m = 3 ∨ m = 5) : ∀ k, k < t.length →
  Ex (fun n => impl_hasOnPath_L1 t l w m n (k : Int)) (· = if mayM t l w k m = true then .inl () else .inr ()) := by
 obtain ⟨h48, hg⟩ := validB_iff.1 hv
 intro k
 induction k using Nat.strongRecOn with
 | ind k ih =>
  intro hk
  have hin := held_in (good_ok hg) w (k : Int)
  refine Ex.succ ?_
  simp only [impl_hasOnPath_L1, Int.toNat_natCast]
  have e : mayM t l w k m = ((if 0 < k then mayM t l w (pa t k).toNat m else false) || decide (m ≤ heldL w (k : Int) l)) := by
   rw [mayM, nix, ix_dec h k hk]
   split
   ·rename_i h0
    rw [List.map_append, List.any_append]
    congr 1
    simp
   ·have : k = 0 := by omega
    subst this
    simp
  refine Ex.yes (decide_eq_true (by omega)) (Ex.be (implHeld_ex (by omega) _ _) (Ex.bc (strong_ex hin hm) (Ex.ite (fun hb => Ex.ret ?_) (fun hb => Ex.guard (by omega) ?_))))
  ·rw [e, hb, Bool.or_true, if_pos rfl]
  ·rw [e, hb, Bool.or_false]
   by_cases h0 : 0 < k
   ·have hp := h.par k h0 hk
    have ep : (t.getD k dnod).parent = (((pa t k).toNat : Nat) : Int) := by show pa t k = _; omega
    rw [if_pos h0, ep]
    exact ih _ hp.2 (by omega)
   ·have : k = 0 := by omega
    subst this
    have hr : (t.getD 0 dnod).parent = -1 := h.rp
    rw [if_neg h0, hr, if_neg (by simp)]
    refine Ex.succ ?_
    simp only [impl_hasOnPath_L1]
    exact Ex.no (by decide) (Ex.ret rfl)
theorem onPath_ex {t : List Nod} (h : VT t) {l : List Lck} (hv : validB l = true) (w : Int) {m : Int} (hm : m = 3 ∨ m = 5) (i : Int) :
  Ex (fun n => impl_hasOnPath n t l w i m) (· = (decide (0 ≤ i ∧ i < t.length) && mayM t l w i.toNat m)) := by
 have hhi := h.hi
 unfold impl_hasOnPath
 refine Ex.be (implNode_ex (by omega) _) ?_
 rw [validT_iff.2 h, Bool.and_true]
 by_cases hi : 0 ≤ i ∧ i < t.length
 ·rw [decide_eq_true hi]
  obtain ⟨k, rfl⟩ : ∃ k : Nat, i = (k : Int) := ⟨i.toNat, by omega⟩
  refine Ex.be (a := false) (Ex.no rfl (Ex.be (implTable_ex l) (Ex.ret (by rw [hv]; rfl)))) (Ex.no rfl (Ex.be (onPath_loop h hv w hm k (by omega)) ?_))
  rw [Int.toNat_natCast, Bool.true_and]
  cases mayM t l w k m with
  | true => exact Ex.ret rfl
  | false => exact Ex.ret rfl
 ·rw [decide_eq_false hi]
  exact Ex.be (a := true) (Ex.yes rfl (Ex.ret rfl)) (Ex.yes rfl (Ex.ret rfl))
/-- numbers as the program reads them -/
theorem numberOf_ex (s : Str) (hs : s.length ≤ 1000000000) : impl_numberOf s = some (pI s) := by
 unfold impl_numberOf pI
 by_cases h5 : 5 < s.length
 ·rw [iteO_eq, if_pos (decide_eq_true (by omega))]
  split
  ·rw [if_neg (by omega)]
  ·rfl
 ·rw [iteO_eq, if_neg (by simp; omega)]
  unfold strconv_Atoi
  rw [guardO_pos (by omega)]
  rcases h : Lib.atoiAll s with v | _ | _
  ·have hb := Lib.atoiAll_bounds h
   simp only [bindO, iteO_eq]
   rw [if_neg (by simp), itoa_some hb.1 hb.2]
   by_cases hc : Lib.itoa v = s
   ·rw [if_pos (show Lib.itoa v = s ∧ s.length ≤ 5 from ⟨hc, by omega⟩)]
    simp [hc]
   ·rw [if_neg (show ¬ (Lib.itoa v = s ∧ s.length ≤ 5) from fun h => hc h.1)]
    simp [hc]
  ·simp [bindO, iteO_eq]
  ·simp [bindO, iteO_eq]
theorem txnOf_ex (s : Str) (hs : s.length ≤ 1000000000) : impl_txnOf s = some (if (pI s).2 = true ∧ 0 ≤ (pI s).1 ∧ (pI s).1 ≤ 3 then ((pI s).1, true) else (0, false)) := by
 unfold impl_txnOf
 rw [numberOf_ex s hs]
 obtain ⟨v, b⟩ := pI s
 simp only [bindO, iteO_eq]
 by_cases hc : b = true ∧ 0 ≤ v ∧ v ≤ 3
 ·have e : (!b || !impl_within v 0 3) = false := by
   rw [hc.1]
   simp [impl_within, hc.2.1, hc.2.2]
  rw [if_pos hc, e, if_neg (by simp)]
 ·have e : (!b || !impl_within v 0 3) = true := by
   cases b with
   | false => rfl
   | true =>
    simp only [true_and] at hc
    simp only [impl_within, Bool.not_true, Bool.false_or, Bool.not_eq_true', Bool.and_eq_false_iff, decide_eq_false_iff_not]
    omega
  rw [if_neg hc, e, if_pos rfl]
end
section
open Go
set_option linter.unusedVariables false
theorem spl_lens (c : UInt8) : ∀ (s : Str), (spl c s).length ≤ s.length + 1 ∧ ∀ p ∈ spl c s, p.length ≤ s.length
 | [] => by simp [spl]
 | x :: s => by
  have ih := spl_lens c s
  rw [spl]
  split
  ·refine ⟨by simp; omega, fun p hp => ?_⟩
   rcases List.mem_cons.1 hp with rfl | h
   ·simp
   ·have := ih.2 p h; simp; omega
  ·split
   ·simp
   ·rename_i a r e
    rw [e] at ih
    refine ⟨by have := ih.1; simp at this ⊢; omega, fun p hp => ?_⟩
    rcases List.mem_cons.1 hp with rfl | h
    ·have := ih.2 a (by simp); simp; omega
    ·have := ih.2 p (by simp [h]); simp; omega
end
section
open Go
set_option linter.unusedVariables false
theorem split_spl : ∀ (m : Nat) (s : Str), s.length ≤ m → Lib.split s [32] = spl 32 s := by
 intro m
 induction m with
 | zero =>
  intro s hs
  have : s = [] := List.eq_nil_of_length_eq_zero (by omega)
  subst this; rfl
 | succ m ih =>
  intro s hs
  rcases cut_at 32 s with h | ⟨a, b, rfl, h⟩
  ·have hi : Lib.index s [32] = -1 := by rw [Lib.index_one, idx_none h]
   rw [spl_none h, Lib.split, Lib.count_miss hi]; rfl
  ·have hi : Lib.index (a ++ 32 :: b) [32] = a.length := by rw [Lib.index_one, idx_at h]
   have ed : (a ++ 32 :: b).drop (a.length + ([32] : Str).length) = b := by
    rw [show a ++ 32 :: b = (a ++ [32]) ++ b by simp]
    exact List.drop_left' (by simp)
   have := ih b (by simp at hs; omega)
   rw [spl_at h, Lib.split, Lib.count_hit (by simp) hi, ed, Nat.add_comm, Lib.splitK, hi, if_neg (by simp), Int.toNat_natCast, ed, Nat.add_zero, List.take_left' rfl, ← this]; rfl
theorem split_ex {s : Str} (hs : s.length ≤ 1000000000) : strings_Split s [32] = some (spl 32 s) := by
 unfold strings_Split
 rw [guardO_pos ⟨by omega, by decide⟩, split_spl s.length s (Nat.le_refl _)]
/-- a transaction -/
def txn (s : Str) : Option Int := if (pI s).2 = true ∧ 0 ≤ (pI s).1 ∧ (pI s).1 ≤ 3 then some (pI s).1 else none
theorem txn_in {s : Str} {w : Int} (h : txn s = some w) : 0 ≤ w ∧ w ≤ 3 := by
 unfold txn at h
 split at h
 ·rename_i hc; cases h; exact hc.2
 ·cases h
def okS : Str := [111, 107]
def noS : Str := [110, 111]
def lockM (t : List Nod) (l : List Lck) (a p : Str) (m : Int) : List Lck × Str :=
 match txn a, resO t p with
 | some w, some k => match takeA l (locksF t w k m) with
  | some l' => (l', okS)
  | none => (l, noS)
 | _, _ => (l, noS)
def getM (t : List Nod) (l : List Lck) (a p : Str) : Str :=
 match txn a, resO t p with
 | some w, some k => if mayM t l w k 3 = true then Lib.itoa (va t k) else noS
 | _, _ => noS
/-- what stands ahead of the last slash -/
def upS (s : Str) : Str := s.take (s.length - 1 - (s.reverse.takeWhile fun c => !decide (c = 47)).length)
theorem upS_at {a b : Str} (h : (47 : UInt8) ∉ b) : upS (a ++ 47 :: b) = a := by
 have e : ((a ++ 47 :: b).reverse.takeWhile fun c => !decide (c = 47)) = b.reverse := by
  rw [List.reverse_append, List.reverse_cons, List.append_assoc, List.takeWhile_append_of_pos]
  ·simp
  ·intro x hx
   have hx : x ∈ b := by simpa using hx
   have : x ≠ 47 := fun e => h (e ▸ hx)
   simp [this]
 have e2 : (a ++ 47 :: b).length - 1 - b.reverse.length = a.length := by simp
 rw [upS, e, e2, List.take_left' rfl]
/-- the node where a write is asked for -/
def atN (t : List Nod) (p : Str) : Int := if res t p < 0 then (if upS p = [] then 0 else res t (upS p)) else res t p
def setM (t : List Nod) (l : List Lck) (a p v : Str) : List Nod × Str :=
 match txn a with
 | some w => if (pI v).2 = true ∧ (47 : UInt8) ∈ p ∧ 0 ≤ atN t p ∧ mayM t l w (atN t p).toNat 5 = true ∧ (applyR t [⟨0, p, (pI v).1⟩]).2 = true then ((applyR t [⟨0, p, (pI v).1⟩]).1, okS) else (t, noS)
 | none => (t, noS)
def freeM (l : List Lck) (a : Str) : List Lck × Str :=
 match txn a with
 | some w => (freeL l w, okS)
 | none => (l, noS)
def isC (w : List Str) (c : Str) (n : Nat) : Bool := decide (w.getD 0 [] = c) && decide (w.length = n)
def stepW (t : List Nod) (l : List Lck) (w : List Str) : List Nod × List Lck × Str :=
 if isC w [114, 101, 97, 100] 3 = true then (t, lockM t l (w.getD 1 []) (w.getD 2 []) 3)
 else if isC w [119, 114, 105, 116, 101] 3 = true then (t, lockM t l (w.getD 1 []) (w.getD 2 []) 5)
 else if isC w [103, 101, 116] 3 = true then (t, l, getM t l (w.getD 1 []) (w.getD 2 []))
 else if isC w [115, 101, 116] 4 = true then ((setM t l (w.getD 1 []) (w.getD 2 []) (w.getD 3 [])).1, l, (setM t l (w.getD 1 []) (w.getD 2 []) (w.getD 3 [])).2)
 else if isC w [102, 114, 101, 101] 2 = true then (t, freeM l (w.getD 1 []))
 else if isC w [116, 114, 101, 101] 1 = true then (t, l, fmtR t)
 else if isC w [108, 111, 99, 107, 115] 1 = true then (t, l, fmtLR l)
 else (t, l, [119, 104, 97, 116])
def stepM (t : List Nod) (l : List Lck) (s : Str) : List Nod × List Lck × Str := stepW t l (spl 32 s)
def runM : List Nod → List Lck → List Str → Str
 | _, _, [] => []
 | t, l, s :: r => (stepM t l s).2.2 ++ 10 :: runM (stepM t l s).1 (stepM t l s).2.1 r
def sesM (x : List Str) : Str := runM [⟨-1, [], 0⟩] [] (x.take 20)
theorem txnOf_eq {s : Str} (hs : s.length ≤ 1000000000) : impl_txnOf s = some (match txn s with | some w => (w, true) | none => (0, false)) := by
 rw [txnOf_ex s hs]
 unfold txn
 split <;> rfl
theorem resO_lt {t : List Nod} (h : VT t) {p : Str} {k : Nat} (e : resO t p = some k) : k < t.length := ((resO_iff h).1 e).1
theorem implLock_ex {t : List Nod} (h : VT t) {l : List Lck} (hv : validB l = true) {a p : Str} (ha : a.length ≤ 1000000000) (hp : p.length ≤ 1000000000) {m : Int} (hm : m = 3 ∨ m = 5) :
  Ex (fun n => impl_session_lock n t t.length l l.length a p m) (· = ((lockM t l a p m).1.length, (lockM t l a p m).1, (lockM t l a p m).2)) := by
 unfold impl_session_lock
 simp only [view_all]
 refine Ex.bc (txnOf_eq ha) ?_
 have hr := implRes_ex (t := t) (s := p) (by omega)
 rw [if_pos (validT_iff.2 h)] at hr
 unfold lockM
 cases hx : txn a with
 | none =>
  simp only
  exact Ex.be hr (Ex.yes rfl (Ex.ret rfl))
 | some w =>
  simp only
  refine Ex.be hr ?_
  cases hy : resO t p with
  | none =>
   have : res t p = -1 := by rw [res, hy]; rfl
   rw [this]
   exact Ex.yes rfl (Ex.ret rfl)
  | some k =>
   have hk := resO_lt h hy
   have : res t p = (k : Int) := by rw [res, hy]; rfl
   rw [this]
   have hl := locksF_len h hk w m
   refine Ex.no (by simp) (Ex.be (implLocksFor_ex h hk (txn_in hx) hm) (Ex.be (implTakeAll_ex hv (by omega)) ?_))
   simp only
   cases takeA l (locksF t w k m) with
   | none => exact Ex.yes rfl (Ex.ret rfl)
   | some l' => exact Ex.no rfl (Ex.ret rfl)
theorem implFreeS_ex {t : List Nod} {l : List Lck} (hv : validB l = true) {a : Str} (ha : a.length ≤ 1000000000) :
  Ex (fun n => impl_session_free n t t.length l l.length a) (· = ((freeM l a).1.length, (freeM l a).1, (freeM l a).2)) := by
 unfold impl_session_free
 simp only [view_all]
 refine Ex.bc (txnOf_eq ha) ?_
 unfold freeM
 cases txn a with
 | none => exact Ex.yes rfl (Ex.ret rfl)
 | some w => exact Ex.no rfl (Ex.be (implFree_ex hv w) (Ex.ret rfl))
theorem implGet_ex {t : List Nod} (h : VT t) {l : List Lck} (hv : validB l = true) {a p : Str} (ha : a.length ≤ 1000000000) (hp : p.length ≤ 1000000000) :
  Ex (fun n => impl_session_get n t t.length l l.length a p) (· = getM t l a p) := by
 unfold impl_session_get
 simp only [view_all]
 refine Ex.bc (txnOf_eq ha) ?_
 have hr := implRes_ex (t := t) (s := p) (by omega)
 rw [if_pos (validT_iff.2 h)] at hr
 cases hx : txn a with
 | none =>
  have eg : getM t l a p = noS := by simp only [getM, hx]
  rw [eg]
  simp only
  exact Ex.be hr (Ex.be (a := true) (Ex.yes rfl (Ex.ret rfl)) (Ex.yes rfl (Ex.ret rfl)))
 | some w =>
  simp only
  refine Ex.be hr ?_
  cases hy : resO t p with
  | none =>
   have eg : getM t l a p = noS := by simp only [getM, hx, hy]
   have : res t p = -1 := by rw [res, hy]; rfl
   rw [this, eg]
   exact Ex.be (a := true) (Ex.no rfl (Ex.yes rfl (Ex.ret rfl))) (Ex.yes rfl (Ex.ret rfl))
  | some k =>
   have hk := resO_lt h hy
   have eg : getM t l a p = if mayM t l w k 3 = true then Lib.itoa (va t k) else noS := by simp only [getM, hx, hy]
   have : res t p = (k : Int) := by rw [res, hy]; rfl
   rw [this, eg]
   have hm : Ex (fun n => impl_MayRead n t l w (k : Int)) (· = mayM t l w k 3) := by
    unfold impl_MayRead
    refine Ex.be (onPath_ex h hv w (.inl rfl) _) (Ex.ret ?_)
    rw [decide_eq_true (by omega), Int.toNat_natCast, Bool.true_and]
   have hva := h.val k hk
   refine Ex.be (a := !mayM t l w k 3) (Ex.no rfl (Ex.no (decide_eq_false (by omega)) (Ex.be hm (Ex.ret rfl)))) ?_
   cases mayM t l w k 3 with
   | false => exact Ex.yes rfl (Ex.ret rfl)
   | true =>
    refine Ex.no rfl (Ex.guard (by omega) ?_)
    rw [Int.toNat_natCast]
    exact Ex.bc (itoa_some (by show _ ≤ va t k; omega) (by show va t k ≤ _; omega)) (Ex.ret rfl)
theorem apply_no {t : List Nod} {p : Str} (hp : (47 : UInt8) ∉ p) (v : Int) : (applyR t [⟨0, p, v⟩]).2 = false := by
 unfold applyR
 split
 ·have h1 : app1 t ⟨0, p, v⟩ = none := by simp [app1, resO, pth_nohead hp, addP]
  have : appAll t [⟨0, p, v⟩] = none := by rw [appAll, h1]
  rw [this]
 ·rfl
theorem upper_ex {t : List Nod} (h : VT t) {p : Str} (hp : p.length ≤ 1000000000) : Ex (fun n => impl_upperNode n t p) (· = if (47 : UInt8) ∈ p then (if upS p = [] then 0 else res t (upS p)) else -1) := by
 unfold impl_upperNode
 rcases last_at 47 p with h1 | ⟨a, b, rfl, h2⟩
 ·rw [if_neg h1]
  exact Ex.be (lastIdx_none h1 (by omega)) (Ex.yes (by decide) (Ex.ret rfl))
 ·rw [if_pos (by simp), upS_at h2]
  refine Ex.be (lastIdx_some h2 (by omega)) (Ex.no (decide_eq_false (by omega)) ?_)
  by_cases ha : a = []
  ·rw [if_pos ha]; exact Ex.yes (by rw [ha]; rfl) (Ex.ret rfl)
  ·rw [if_neg ha]
   have : 0 < a.length := List.length_pos_iff.2 ha
   simp only [List.length_append, List.length_cons] at hp
   refine Ex.no (decide_eq_false (by omega)) (Ex.guard (by simp; omega) ?_)
   rw [Int.toNat_natCast, List.take_left' rfl]
   have e := implRes_ex (t := t) (s := a) (by omega)
   rw [if_pos (validT_iff.2 h)] at e
   exact Ex.be e (Ex.ret rfl)
theorem res_lt' {t : List Nod} (h : VT t) (p : Str) : res t p < t.length := by
 rw [res]
 cases e : resO t p with
 | none => simp only [oi]; omega
 | some k => have := resO_lt h e; simp only [oi]; omega
theorem atN_lt {t : List Nod} (h : VT t) (p : Str) : atN t p < t.length := by
 have hlo := h.lo
 unfold atN
 split
 ·split
  ·omega
  ·exact res_lt' h _
 ·exact res_lt' h _
theorem implSet_ex' {t : List Nod} (h : VT t) {l : List Lck} (hv : validB l = true) {a p v : Str} (ha : a.length ≤ 1000000000) (hp : p.length ≤ 1000000000) (hvl : v.length ≤ 1000000000) :
  Ex (fun n => impl_session_set n t t.length l l.length a p v) (· = ((setM t l a p v).1.length, (setM t l a p v).1, (setM t l a p v).2)) := by
 unfold impl_session_set
 simp only [view_all]
 refine Ex.bc (txnOf_eq ha) ?_
 refine Ex.bc (numberOf_ex v hvl) ?_
 have hr := implRes_ex (t := t) (s := p) (by omega)
 rw [if_pos (validT_iff.2 h)] at hr
 unfold setM
 obtain ⟨x, b⟩ := pI v
 cases hx : txn a with
 | none => exact Ex.yes rfl (Ex.ret rfl)
 | some w =>
  simp only
  cases b with
  | false => exact Ex.yes rfl (Ex.ret (by simp [noS]))
  | true =>
   refine Ex.no rfl (Ex.be hr (Ex.be (a := if (47 : UInt8) ∈ p then atN t p else -1) ?_ ?_))
   ·refine Ex.ite (fun hb => ?_) (fun hb => Ex.ret ?_)
    ·have hb := of_decide_eq_true hb
     refine Ex.be (upper_ex h hp) (Ex.ret ?_)
     rw [atN, if_pos hb]
    ·have hb := of_decide_eq_false hb
     have h47 : (47 : UInt8) ∈ p := by
      false_or_by_contra
      rename_i hn
      rw [res_nohead h hn] at hb
      omega
     rw [if_pos h47, atN, if_neg hb]
   ·by_cases h47 : (47 : UInt8) ∈ p
    ·rw [if_pos h47]
     have hlt := atN_lt h p
     have hm : Ex (fun n => impl_MayWrite n t l w (atN t p)) (· = (decide (0 ≤ atN t p) && mayM t l w (atN t p).toNat 5)) := by
      unfold impl_MayWrite
      refine Ex.be (onPath_ex h hv w (.inr rfl) _) (Ex.ret ?_)
      congr 1
      rw [decide_eq_decide]; omega
     refine Ex.be hm ?_
     by_cases hc : 0 ≤ atN t p ∧ mayM t l w (atN t p).toNat 5 = true
     ·rw [decide_eq_true hc.1, hc.2]
      refine Ex.no rfl (Ex.be (implApplyAll_ex (t := t) (fun e he => ?_)) ?_)
      ·rw [List.mem_singleton.1 he]; show p.length ≤ _; omega
      ·generalize applyR t [⟨0, p, x⟩] = r
       obtain ⟨u, q⟩ := r
       simp only
       cases q with
       | false => exact Ex.yes rfl (Ex.ret (by simp [noS]))
       | true => exact Ex.no rfl (Ex.ret (by simp [h47, hc.1, okS]))
     ·refine Ex.yes ?_ (Ex.ret ?_)
      ·cases h3 : mayM t l w (atN t p).toNat 5 with
       | false => rw [Bool.and_false]; rfl
       | true =>
        rw [decide_eq_false (fun h4 => hc ⟨h4, h3⟩)]; rfl
      ·rw [if_neg (fun h4 => hc ⟨h4.2.2.1, h4.2.2.2.1⟩)]; rfl
    ·rw [if_neg h47]
     have hm : Ex (fun n => impl_MayWrite n t l w (-1)) (· = false) := by
      unfold impl_MayWrite
      refine Ex.be (onPath_ex h hv w (.inr rfl) _) (Ex.ret ?_)
      rw [decide_eq_false (by omega)]; rfl
     refine Ex.be hm (Ex.yes rfl (Ex.ret ?_))
     rw [if_neg (fun h4 => h47 h4.2.1)]; rfl
end
section
open Go
set_option linter.unusedVariables false
theorem isC_eq (w : List Str) (c : Str) (n : Nat) {i : Int} (hi : i = n) : (decide (w.getD 0 [] = c) && decide (((w.length : Nat) : Int) = i)) = isC w c n := by
 subst hi
 unfold isC
 congr 1
 rw [decide_eq_decide]; omega
theorem isC_len {w : List Str} {c : Str} {n : Nat} (h : isC w c n = true) : w.length = n := by
 simp only [isC, Bool.and_eq_true, decide_eq_true_eq] at h; exact h.2
theorem isC_ne {w : List Str} {c c' : Str} {n n' : Nat} (h : isC w c n = true) (hc : c ≠ c') : isC w c' n' = false := by
 simp only [isC, Bool.and_eq_true, decide_eq_true_eq] at h
 rw [isC, decide_eq_false (fun e => hc (h.1.symm.trans e))]; rfl
def out5 (r : List Nod × List Lck × Str) : Nat × Nat × List Nod × List Lck × Str := (r.1.length, r.2.1.length, r.1, r.2.1, r.2.2)
theorem word_le {w : List Str} (hl : ∀ p ∈ w, p.length ≤ 1000000000) (k : Nat) : (w.getD k []).length ≤ 1000000000 := by
 by_cases h : k < w.length
 ·exact hl _ (getD_mem h)
 ·rw [List.getD_eq_getElem?_getD, List.getElem?_eq_none (by omega)]; simp
theorem implExec_ex {t : List Nod} (h : VT t) {l : List Lck} (hv : validB l = true) {w : List Str} (hw : w ≠ []) (hl : ∀ p ∈ w, p.length ≤ 1000000000) :
  Ex (fun n => impl_session_execute n t t.length l l.length w) (· = out5 (stepW t l w)) := by
 have hpos : 0 < w.length := List.length_pos_iff.2 hw
 have g := word_le hl
 unfold impl_session_execute
 refine Ex.guard (by omega) (Ex.ite (fun h1 => ?_) (fun h1 => ?_))
 ·rw [isC_eq w _ 3 (i := 3) rfl] at h1
  have := isC_len h1
  rw [show stepW t l w = (t, lockM t l (w.getD 1 []) (w.getD 2 []) 3) by rw [stepW, if_pos h1]]
  exact Ex.guard (by omega) (Ex.guard (by omega) (Ex.be (implLock_ex h hv (g 1) (g 2) (.inl rfl)) (Ex.ret rfl)))
 rw [isC_eq w _ 3 (i := 3) rfl] at h1
 refine Ex.guard (by omega) (Ex.ite (fun h2 => ?_) (fun h2 => ?_))
 ·rw [isC_eq w _ 3 (i := 3) rfl] at h2
  have := isC_len h2
  rw [show stepW t l w = (t, lockM t l (w.getD 1 []) (w.getD 2 []) 5) by rw [stepW, h1, if_neg (by simp), if_pos h2]]
  exact Ex.guard (by omega) (Ex.guard (by omega) (Ex.be (implLock_ex h hv (g 1) (g 2) (.inr rfl)) (Ex.ret rfl)))
 rw [isC_eq w _ 3 (i := 3) rfl] at h2
 refine Ex.guard (by omega) (Ex.ite (fun h3 => ?_) (fun h3 => ?_))
 ·rw [isC_eq w _ 3 (i := 3) rfl] at h3
  have := isC_len h3
  rw [show stepW t l w = (t, l, getM t l (w.getD 1 []) (w.getD 2 [])) by rw [stepW, h1, if_neg (by simp), h2, if_neg (by simp), if_pos h3]]
  exact Ex.guard (by omega) (Ex.guard (by omega) (Ex.be (implGet_ex h hv (g 1) (g 2)) (Ex.ret rfl)))
 rw [isC_eq w _ 3 (i := 3) rfl] at h3
 refine Ex.guard (by omega) (Ex.ite (fun h4 => ?_) (fun h4 => ?_))
 ·rw [isC_eq w _ 4 (i := 4) rfl] at h4
  have := isC_len h4
  rw [show stepW t l w = ((setM t l (w.getD 1 []) (w.getD 2 []) (w.getD 3 [])).1, l, (setM t l (w.getD 1 []) (w.getD 2 []) (w.getD 3 [])).2) by rw [stepW, h1, if_neg (by simp), h2, if_neg (by simp), h3, if_neg (by simp), if_pos h4]]
  exact Ex.guard (by omega) (Ex.guard (by omega) (Ex.guard (by omega) (Ex.be (implSet_ex' h hv (g 1) (g 2) (g 3)) (Ex.ret rfl))))
 rw [isC_eq w _ 4 (i := 4) rfl] at h4
 refine Ex.guard (by omega) (Ex.ite (fun h5 => ?_) (fun h5 => ?_))
 ·rw [isC_eq w _ 2 (i := 2) rfl] at h5
  have := isC_len h5
  rw [show stepW t l w = (t, freeM l (w.getD 1 [])) by rw [stepW, h1, if_neg (by simp), h2, if_neg (by simp), h3, if_neg (by simp), h4, if_neg (by simp), if_pos h5]]
  exact Ex.guard (by omega) (Ex.be (implFreeS_ex hv (g 1)) (Ex.ret rfl))
 rw [isC_eq w _ 2 (i := 2) rfl] at h5
 refine Ex.guard (by omega) (Ex.ite (fun h6 => ?_) (fun h6 => ?_))
 ·rw [isC_eq w _ 1 (i := 1) rfl] at h6
  rw [show stepW t l w = (t, l, fmtR t) by rw [stepW, h1, if_neg (by simp), h2, if_neg (by simp), h3, if_neg (by simp), h4, if_neg (by simp), h5, if_neg (by simp), if_pos h6], view_all]
  exact Ex.be (implFormat_ex t) (Ex.ret rfl)
 rw [isC_eq w _ 1 (i := 1) rfl] at h6
 refine Ex.guard (by omega) (Ex.ite (fun h7 => ?_) (fun h7 => ?_))
 ·rw [isC_eq w _ 1 (i := 1) rfl] at h7
  rw [show stepW t l w = (t, l, fmtLR l) by rw [stepW, h1, if_neg (by simp), h2, if_neg (by simp), h3, if_neg (by simp), h4, if_neg (by simp), h5, if_neg (by simp), h6, if_neg (by simp), if_pos h7], view_all]
  exact Ex.be (implLocks_ex l) (Ex.ret rfl)
 rw [isC_eq w _ 1 (i := 1) rfl] at h7
 refine Ex.ret ?_
 rw [stepW, h1, if_neg (by simp), h2, if_neg (by simp), h3, if_neg (by simp), h4, if_neg (by simp), h5, if_neg (by simp), h6, if_neg (by simp), h7, if_neg (by simp)]
 rfl

/-! the specification -/
theorem txn_of {s : Str} {x : Int} {b : Bool} (e : pI s = (x, b)) : txn s = if b = true ∧ 0 ≤ x ∧ x ≤ 3 then some x else none := by rw [txn, e]
theorem range3 (x : Int) : spec_inRange x 0 3 = decide (0 ≤ x ∧ x ≤ 3) := by
 unfold spec_inRange
 rw [← Bool.decide_and]
theorem specLock_ex {t : List Nod} (h : VT t) {l : List Lck} (hv : validB l = true) (a p : Str) {m : Int} (hm : m = 3 ∨ m = 5) :
  Ex (fun n => spec_desk_lock n t t.length l l.length a p m) (· = ((lockM t l a p m).1.length, (lockM t l a p m).1, (lockM t l a p m).2)) := by
 have h48 := (validB_iff.1 hv).1
 unfold spec_desk_lock
 simp only [view_all]
 refine Ex.be (specInt_ex a) (Ex.be (specRes_ex h p) ?_)
 obtain ⟨x, b, e⟩ : ∃ x b, pI a = (x, b) := ⟨_, _, rfl⟩
 have ht := txn_of e
 rw [e]
 simp only [range3]
 by_cases hc : b = true ∧ 0 ≤ x ∧ x ≤ 3
 ·rw [if_pos hc] at ht
  cases hy : resO t p with
  | none =>
   have e1 : lockM t l a p m = (l, noS) := by simp only [lockM, ht, hy]
   have : res t p = -1 := by rw [res, hy]; rfl
   rw [this, e1]
   exact Ex.yes (by rw [hc.1]; rfl) (Ex.ret rfl)
  | some k =>
   have hk := resO_lt h hy
   have e1 : lockM t l a p m = match takeA l (locksF t x k m) with | some l' => (l', okS) | none => (l, noS) := by simp only [lockM, ht, hy] <;> rfl
   have : res t p = (k : Int) := by rw [res, hy]; rfl
   rw [this, e1]
   have hl := locksF_len h hk x m
   refine Ex.no (by rw [hc.1, decide_eq_true hc.2, decide_eq_false (by omega)]; rfl) (Ex.be (specLocksFor_ex h hk x hm) (Ex.be (specTakeAll_ex (by omega) (by omega)) ?_))
   cases takeA l (locksF t x k m) with
   | none => exact Ex.yes rfl (Ex.ret rfl)
   | some l' => exact Ex.no rfl (Ex.ret rfl)
 ·rw [if_neg hc] at ht
  have e1 : lockM t l a p m = (l, noS) := by simp only [lockM, ht]
  rw [e1]
  refine Ex.yes ?_ (Ex.ret rfl)
  cases b with
  | false => rfl
  | true => rw [decide_eq_false (p := 0 ≤ x ∧ x ≤ 3) (fun h => hc ⟨rfl, h⟩)]; simp
theorem specFreeS_ex {t : List Nod} {l : List Lck} (hv : validB l = true) (a : Str) :
  Ex (fun n => spec_desk_free n t t.length l l.length a) (· = ((freeM l a).1.length, (freeM l a).1, (freeM l a).2)) := by
 unfold spec_desk_free
 simp only [view_all]
 refine Ex.be (specInt_ex a) ?_
 obtain ⟨x, b, e⟩ : ∃ x b, pI a = (x, b) := ⟨_, _, rfl⟩
 have ht := txn_of e
 rw [e]
 simp only [range3]
 by_cases hc : b = true ∧ 0 ≤ x ∧ x ≤ 3
 ·rw [if_pos hc] at ht
  have e1 : freeM l a = (freeL l x, okS) := by simp only [freeM, ht]
  rw [e1]
  exact Ex.no (by rw [hc.1, decide_eq_true hc.2]; rfl) (Ex.be (specFree_ex hv x) (Ex.ret rfl))
 ·rw [if_neg hc] at ht
  have e1 : freeM l a = (l, noS) := by simp only [freeM, ht]
  rw [e1]
  refine Ex.yes ?_ (Ex.ret rfl)
  cases b with
  | false => rfl
  | true => rw [decide_eq_false (p := 0 ≤ x ∧ x ≤ 3) (fun h => hc ⟨rfl, h⟩)]; rfl
theorem specGet_ex {t : List Nod} (h : VT t) {l : List Lck} (hv : validB l = true) (a p : Str) :
  Ex (fun n => spec_desk_get n t t.length l l.length a p) (· = getM t l a p) := by
 unfold spec_desk_get
 simp only [view_all]
 refine Ex.be (specInt_ex a) (Ex.be (specRes_ex h p) ?_)
 obtain ⟨x, b, e⟩ : ∃ x b, pI a = (x, b) := ⟨_, _, rfl⟩
 have ht := txn_of e
 rw [e]
 simp only [range3]
 by_cases hc : b = true ∧ 0 ≤ x ∧ x ≤ 3
 ·rw [if_pos hc] at ht
  rw [hc.1, decide_eq_true hc.2]
  cases hy : resO t p with
  | none =>
   have eg : getM t l a p = noS := by simp only [getM, ht, hy]
   have : res t p = -1 := by rw [res, hy]; rfl
   rw [this, eg]
   exact Ex.be (a := true) (Ex.no rfl (Ex.yes rfl (Ex.ret rfl))) (Ex.yes rfl (Ex.ret rfl))
  | some k =>
   have hk := resO_lt h hy
   have eg : getM t l a p = if mayM t l x k 3 = true then Lib.itoa (va t k) else noS := by simp only [getM, ht, hy]
   have : res t p = (k : Int) := by rw [res, hy]; rfl
   rw [this, eg]
   have hva := h.val k hk
   refine Ex.be (a := !mayM t l x k 3) (Ex.no rfl (Ex.no (decide_eq_false (by omega)) (Ex.no rfl (Ex.be (specMayRead_ex h hv hk x) (Ex.ret rfl))))) ?_
   cases mayM t l x k 3 with
   | false => exact Ex.yes rfl (Ex.ret rfl)
   | true =>
    refine Ex.no rfl (Ex.guard (by omega) ?_)
    rw [Int.toNat_natCast]
    exact Ex.be (decimal_ex (by show _ ≤ va t k; omega) (by show va t k ≤ _; omega)) (Ex.ret rfl)
 ·rw [if_neg hc] at ht
  have eg : getM t l a p = noS := by simp only [getM, ht]
  rw [eg]
  refine Ex.be (a := true) (Ex.ite (fun _ => Ex.ret rfl) (fun hb => Ex.ite (fun _ => Ex.ret rfl) (fun _ => Ex.yes ?_ (Ex.ret rfl)))) (Ex.yes rfl (Ex.ret rfl))
  rw [decide_eq_false (p := 0 ≤ x ∧ x ≤ 3) (fun h => hc ⟨notF hb, h⟩)]; rfl
theorem res_root {t : List Nod} (h : VT t) : res t [47] = 0 := by
 have hlo := h.lo
 have e : ptx (np t 0) = [47] := by rw [(np_nil h (by omega)).2 rfl]; rfl
 have := resO_np h (k := 0) (by omega)
 rw [e] at this
 rw [res, this]; rfl
theorem specSetS_ex {t : List Nod} (h : VT t) {l : List Lck} (hv : validB l = true) {a p v : Str} (hp : p.length ≤ 1000000000) :
  Ex (fun n => spec_desk_set n t t.length l l.length a p v) (· = ((setM t l a p v).1.length, (setM t l a p v).1, (setM t l a p v).2)) := by
 unfold spec_desk_set
 simp only [view_all]
 refine Ex.be (specInt_ex a) (Ex.be (specInt_ex v) (Ex.be (specRes_ex h p) ?_))
 obtain ⟨x, b, e⟩ : ∃ x b, pI a = (x, b) := ⟨_, _, rfl⟩
 obtain ⟨y, c, e2⟩ : ∃ y c, pI v = (y, c) := ⟨_, _, rfl⟩
 have ht := txn_of e
 rw [e, e2]
 simp only [range3]
 by_cases hc : b = true ∧ 0 ≤ x ∧ x ≤ 3
 ·rw [if_pos hc] at ht
  rw [hc.1, decide_eq_true hc.2]
  cases c with
  | false =>
   have e1 : setM t l a p v = (t, noS) := by simp only [setM, ht, e2]; simp
   rw [e1]
   exact Ex.yes rfl (Ex.ret rfl)
  | true =>
   have e1 : setM t l a p v = if (47 : UInt8) ∈ p ∧ 0 ≤ atN t p ∧ mayM t l x (atN t p).toNat 5 = true ∧ (applyR t [⟨0, p, y⟩]).2 = true then ((applyR t [⟨0, p, y⟩]).1, okS) else (t, noS) := by
    simp only [setM, ht, e2, true_and]
   rw [e1]
   refine Ex.no rfl ?_
   have hap : Ex (fun n => spec_ApplyEdits n t [⟨0, p, y⟩]) (· = applyR t [⟨0, p, y⟩]) := specApplyAll_ex h.nl h.le (fun e he => by rw [List.mem_singleton.1 he]; show p.length ≤ _; omega)
   have fin : ∀ i : Int, i < t.length → (((47 : UInt8) ∈ p → i = atN t p)) →
     Ex (fun n => bindO (iteO (decide (i < 0)) (some true) (bindO (spec_mayWrite n t l x i) fun b77 => some (!b77))) fun b79 => iteO b79 (some (t.length, t, ([110, 111] : Str))) (bindO (spec_ApplyEdits n t [(⟨0, p, y⟩ : Edt)]) fun (x83, b84) => iteO (!b84) (some (t.length, t, [110, 111])) (some (x83.length, x83, [111, 107]))))
      (· = ((if (47 : UInt8) ∈ p ∧ 0 ≤ atN t p ∧ mayM t l x (atN t p).toNat 5 = true ∧ (applyR t [⟨0, p, y⟩]).2 = true then ((applyR t [⟨0, p, y⟩]).1, okS) else (t, noS)).1.length,
       (if (47 : UInt8) ∈ p ∧ 0 ≤ atN t p ∧ mayM t l x (atN t p).toNat 5 = true ∧ (applyR t [⟨0, p, y⟩]).2 = true then ((applyR t [⟨0, p, y⟩]).1, okS) else (t, noS)).1,
       (if (47 : UInt8) ∈ p ∧ 0 ≤ atN t p ∧ mayM t l x (atN t p).toNat 5 = true ∧ (applyR t [⟨0, p, y⟩]).2 = true then ((applyR t [⟨0, p, y⟩]).1, okS) else (t, noS)).2)) := by
    intro i hi h47
    by_cases h0 : i < 0
    ·refine Ex.be (a := true) (Ex.yes (decide_eq_true h0) (Ex.ret rfl)) (Ex.yes rfl (Ex.ret ?_))
     rw [if_neg (fun hh => by have := h47 hh.1; omega)]; rfl
    ·obtain ⟨k, rfl⟩ : ∃ k : Nat, i = (k : Int) := ⟨i.toNat, by omega⟩
     refine Ex.be (a := !mayM t l x k 5) (Ex.no (decide_eq_false h0) (Ex.be (specMayWrite_ex h hv (by omega) x) (Ex.ret rfl))) ?_
     refine Ex.ite (fun hb => Ex.ret ?_) (fun hb => Ex.be hap ?_)
     ·rw [if_neg (fun hh => by
       have h1 := h47 hh.1
       have h2 := hh.2.2.1
       rw [← h1, Int.toNat_natCast] at h2
       rw [h2] at hb; cases hb)]; rfl
     ·by_cases hq : (applyR t [⟨0, p, y⟩]).2 = true
      ·have hin : (47 : UInt8) ∈ p := by
        false_or_by_contra
        rename_i hn
        rw [apply_no hn] at hq; cases hq
       have h1 := h47 hin
       rw [if_pos ⟨hin, by omega, by rw [← h1, Int.toNat_natCast]; exact notF hb, hq⟩]
       generalize applyR t [⟨0, p, y⟩] = r at hq
       obtain ⟨u, q⟩ := r
       simp only at hq
       subst hq
       exact Ex.no rfl (Ex.ret rfl)
      ·rw [if_neg (fun hh => hq hh.2.2.2)]
       generalize applyR t [⟨0, p, y⟩] = r at hq
       obtain ⟨u, q⟩ := r
       simp only at hq
       exact Ex.yes (by simpa using hq) (Ex.ret rfl)
   rcases last_at 47 p with h1 | ⟨a', b', hpe, h2⟩
   ·refine Ex.bind (specCut_none h1 (by omega)) ?_
    rintro ⟨s65, s66⟩ _
    refine Ex.be (a := if res t p < 0 then res t s65 else res t p) ?_ ?_
    ·refine Ex.ite (fun hb => Ex.be (specRes_ex h s65) (Ex.ret ?_)) (fun hb => Ex.ret ?_)
     ·rw [if_pos (of_decide_eq_true hb)]
     ·rw [if_neg (of_decide_eq_false hb)]
    ·exact fin _ (by split; exact res_lt' h _; exact res_lt' h _) (fun hh => absurd hh h1)
   ·have hcut := specCut_some (a := a') h2 (by rw [← hpe]; omega)
    rw [← hpe] at hcut
    have hup : upS p = a' := by rw [hpe]; exact upS_at h2
    refine Ex.be hcut ?_
    simp only
    refine Ex.be (a := atN t p) ?_ (fin _ (atN_lt h p) (fun _ => rfl))
    refine Ex.ite (fun hb => Ex.be (specRes_ex h _) (Ex.ret ?_)) (fun hb => Ex.ret ?_)
    ·rw [atN, if_pos (of_decide_eq_true hb), hup]
     by_cases ha : a' = []
     ·rw [if_pos ha, if_pos ha, res_root h]
     ·rw [if_neg ha, if_neg ha]
    ·rw [atN, if_neg (of_decide_eq_false hb)]
 ·rw [if_neg hc] at ht
  have e1 : setM t l a p v = (t, noS) := by simp only [setM, ht]
  rw [e1]
  refine Ex.yes ?_ (Ex.ret rfl)
  cases b with
  | false => rfl
  | true => rw [decide_eq_false (p := 0 ≤ x ∧ x ≤ 3) (fun h => hc ⟨rfl, h⟩)]; simp
end
end Go.Proofs.YtghdgncfcfdlfaaGreatDoor
