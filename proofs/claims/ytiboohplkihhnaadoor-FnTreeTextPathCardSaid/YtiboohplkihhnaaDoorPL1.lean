/- Plain facts for the law FnTreeTextPath. Conditions: none. -/
import Derived.Test.YtiboohplkihhnaaDoorTLx
import Derived.Test.YtiboohplkihhnaaDoorTLzb
import Derived.Lib.ItoaNum
import Derived.Test.YtiboohplkihhnaaDoorTT
namespace Go.Proofs.YtiboohplkihhnaaDoor
section
open Go
theorem w64_id {n : Int} (h1 : -9223372036854775808 ≤ n) (h2 : n ≤ 9223372036854775807) : w64 n = n := by
  show IntKind.i64.wrap n = n
  unfold IntKind.wrap
  simp [IntKind.bits, IntKind.signed]
  omega
theorem w64_succ {k : Nat} (h : k < 1099511627776) : w64 ((k : Int) + 1) = ((k + 1 : Nat) : Int) := by
  rw [w64_id (by omega) (by omega)]; omega
end
section
open Go
/-- with enough fuel f comes to something that P holds of -/
def Ex {α : Type} (f : Nat → Option α) (P : α → Prop) : Prop := ∃ r, P r ∧ ∃ N, ∀ n, N ≤ n → f n = some r
theorem Ex.ret {α : Type} {P : α → Prop} {r : α} (h : P r) : Ex (fun _ => some r) P := ⟨r, h, 0, fun _ _ => rfl⟩
theorem Ex.const {α : Type} {P : α → Prop} {x : Option α} {r : α} (e : x = some r) (h : P r) : Ex (fun _ => x) P := ⟨r, h, 0, fun _ _ => e⟩
theorem Ex.mono {α : Type} {f : Nat → Option α} {P Q : α → Prop} (h : Ex f P) (k : ∀ r, P r → Q r) : Ex f Q := by
  obtain ⟨r, h1, h2⟩ := h; exact ⟨r, k r h1, h2⟩
theorem Ex.bind {α β : Type} {f : Nat → Option α} {g : Nat → α → Option β} {P : α → Prop} {Q : β → Prop} (h : Ex f P) (k : ∀ a, P a → Ex (fun n => g n a) Q) : Ex (fun n => bindO (f n) (g n)) Q := by
  obtain ⟨a, h1, N, h2⟩ := h
  obtain ⟨r, k1, M, k2⟩ := k a h1
  refine ⟨r, k1, max N M, fun n hn => ?_⟩
  show bindO (f n) (g n) = some r
  rw [h2 n (by omega)]
  exact k2 n (by omega)
/-- a call that comes to one value -/
theorem Ex.be {α β : Type} {f : Nat → Option α} {g : Nat → α → Option β} {a : α} {Q : β → Prop} (h : Ex f (· = a)) (k : Ex (fun n => g n a) Q) : Ex (fun n => bindO (f n) (g n)) Q := Ex.bind h (fun b hb => by subst hb; exact k)
/-- a call without fuel that comes to one value -/
theorem Ex.bc {α β : Type} {x : Option α} {g : Nat → α → Option β} {a : α} {Q : β → Prop} (h : x = some a) (k : Ex (fun n => g n a) Q) : Ex (fun n => bindO x (g n)) Q := by subst h; exact k
theorem Ex.guard {α : Type} {c : Prop} [Decidable c] {f : Nat → Option α} {P : α → Prop} (h : c) (k : Ex f P) : Ex (fun n => guardO c (f n)) P := by
  have : (fun n => guardO c (f n)) = f := by funext n; exact guardO_pos h
  rw [this]; exact k
theorem Ex.ite {α : Type} {b : Bool} {f g : Nat → Option α} {P : α → Prop} (h1 : b = true → Ex f P) (h2 : b = false → Ex g P) : Ex (fun n => iteO b (f n) (g n)) P := by
  cases b with
  | true => exact h1 rfl
  | false => exact h2 rfl
theorem Ex.yes {α : Type} {b : Bool} {f g : Nat → Option α} {P : α → Prop} (h : b = true) (k : Ex f P) : Ex (fun n => iteO b (f n) (g n)) P := by subst h; exact k
theorem Ex.no {α : Type} {b : Bool} {f g : Nat → Option α} {P : α → Prop} (h : b = false) (k : Ex g P) : Ex (fun n => iteO b (f n) (g n)) P := by subst h; exact k
theorem Ex.succ {α : Type} {f : Nat → Option α} {P : α → Prop} (h : Ex (fun n => f (n + 1)) P) : Ex f P := by
  obtain ⟨r, h1, N, h2⟩ := h
  refine ⟨r, h1, N + 1, fun n hn => ?_⟩
  obtain ⟨m, rfl⟩ : ∃ m, n = m + 1 := ⟨n - 1, by omega⟩
  exact h2 m (by omega)
theorem Ex.get {α : Type} {f : Nat → Option α} {r : α} (h : Ex f (· = r)) : ∃ n, f n = some r := by
  obtain ⟨a, rfl, N, h⟩ := h; exact ⟨N, h N (Nat.le_refl _)⟩
theorem u8_wf {xs : List Int} (h : ∀ x ∈ xs, RC.wf .u8 x) : ∀ x ∈ xs, 0 ≤ x ∧ x ≤ 255 := by
  intro x hx
  obtain ⟨n, h1, h2, h3⟩ := (h x hx).1
  cases h1
  exact ⟨h2, h3⟩
theorem getD_mem {α : Type} {xs : List α} {k : Nat} {d : α} (h : k < xs.length) : xs.getD k d ∈ xs := by
  rw [List.getD_eq_getElem?_getD, List.getElem?_eq_getElem h]; exact List.getElem_mem h
theorem view_all {α : Type} (xs : List α) : (xs.drop 0).take xs.length = xs := by simp
theorem Ex.code {f : Nat → Option Bool} {x1 : List Int} {P : Bool → Prop} (ht : P true) (h : x1.length ≤ 1048576 → Ex f P) : Ex (fun n => iteO (decide (1048576 < ((x1.length : Nat) : Int))) (some true) (f n)) P := by
  refine Ex.ite (fun _ => Ex.ret ht) (fun hb => h ?_)
  have := of_decide_eq_false hb
  omega
end
section
open Go
/-- a loop with a state: what holds ahead of each round -/
theorem up {σ α : Type} (len : Nat) (inv : Nat → σ → Prop) {f : Nat → σ → Int → Option α} {Q : α → Prop}
    (h1 : ∀ (k : Nat) (s : σ), k < len → inv k s → (∀ s', inv (k + 1) s' → Ex (fun n => f n s' ((k + 1 : Nat) : Int)) Q) → Ex (fun n => f (n + 1) s (k : Int)) Q)
    (h2 : ∀ s, inv len s → Ex (fun n => f (n + 1) s (len : Int)) Q) (k : Nat) (s : σ) (hk : k ≤ len) (hi : inv k s) : Ex (fun n => f n s (k : Int)) Q := by
  have key : ∀ (m k : Nat) (s : σ), k + m = len → inv k s → Ex (fun n => f n s (k : Int)) Q := by
    intro m
    induction m with
    | zero =>
      intro k s hk hs
      obtain rfl : k = len := by omega
      exact Ex.succ (h2 s hs)
    | succ m ih =>
      intro k s hk hs
      exact Ex.succ (h1 k s (by omega) hs (fun s' hs' => ih (k + 1) s' (by omega) hs'))
  exact key (len - k) k s (by omega) hi
/-- the same without a state -/
theorem upU {α : Type} (len : Nat) (inv : Nat → Prop) {f : Nat → Int → Option α} {Q : α → Prop}
    (h1 : ∀ (k : Nat), k < len → inv k → (inv (k + 1) → Ex (fun n => f n ((k + 1 : Nat) : Int)) Q) → Ex (fun n => f (n + 1) (k : Int)) Q)
    (h2 : inv len → Ex (fun n => f (n + 1) (len : Int)) Q) (k : Nat) (hk : k ≤ len) (hi : inv k) : Ex (fun n => f n (k : Int)) Q :=
  up (σ := Unit) len (fun k _ => inv k) (f := fun n _ i => f n i) (fun k _ hk hi h => h1 k hk hi (fun h' => h () h')) (fun _ h => h2 h) k () hk hi
theorem notT {b : Bool} (h : (!b) = true) : b = false := by cases b; rfl; cases h
theorem notF {b : Bool} (h : (!b) = false) : b = true := by cases b; cases h; rfl
theorem drop_at {α : Type} {xs : List α} {k : Nat} (d : α) (h : k < xs.length) : xs.drop k = xs.getD k d :: xs.drop (k + 1) := by
  rw [List.drop_eq_getElem_cons h, List.getD_eq_getElem?_getD, List.getElem?_eq_getElem h]; rfl
def ch (b : UInt8) : Bool := decide (97 ≤ b.toNat) && decide (b.toNat ≤ 122)
def nameOk (s : Str) : Bool := (decide (1 ≤ s.length) && decide (s.length ≤ 4)) && s.all ch
theorem all_split {α : Type} (p : α → Bool) {xs : List α} {k : Nat} (d : α) (h : k < xs.length) : (xs.drop k).all p = (p (xs.getD k d) && (xs.drop (k + 1)).all p) := by
  rw [drop_at d h, List.all_cons]
/-- same parent, same name -/
def sib (p : Int) (s : Str) (x : Nod) : Bool := decide (x.parent = p) && decide (x.name = s)
/-- the place of the first -/
def firstAt {α : Type} (q : α → Bool) : List α → Nat → Int
  | [], _ => -1
  | x :: l, k => if q x = true then (k : Int) else firstAt q l (k + 1)
theorem firstAt_iff {α : Type} (q : α → Bool) : ∀ (l : List α) (k : Nat), (0 ≤ firstAt q l k) ↔ l.any q = true
  | [], k => by simp [firstAt]
  | x :: l, k => by
    rw [firstAt, List.any_cons]
    cases q x with
    | true => simp
    | false => simpa using firstAt_iff q l (k + 1)
def NL (t : List Nod) : Prop := t.length ≤ 1000000000000 ∧ ∀ x ∈ t, x.name.length ≤ 1000000000000
/-- how deep a node lies -/
def dp (t : List Nod) (i : Nat) : Nat :=
  if h : 0 ≤ (t.getD i dnod).parent ∧ (t.getD i dnod).parent.toNat < i then dp t (t.getD i dnod).parent.toNat + 1 else 0
termination_by i
decreasing_by exact h.2
def rv (n : Int) : Bool := decide (-1000 ≤ n) && decide (n ≤ 1000)
def nodeOk (t : List Nod) (i : Nat) : Bool :=
  rv (t.getD i dnod).value && (if i = 0 then decide ((t.getD i dnod).parent = -1) && decide ((t.getD i dnod).name = [])
    else (decide (0 ≤ (t.getD i dnod).parent) && decide ((t.getD i dnod).parent ≤ (i : Int) - 1)) && (nameOk (t.getD i dnod).name && (!(t.take i).any (sib (t.getD i dnod).parent (t.getD i dnod).name) && decide (dp t i ≤ 4))))
def validT (t : List Nod) : Bool := (decide (1 ≤ t.length) && decide (t.length ≤ 12)) && (List.range t.length).all (nodeOk t)
/-- where the parent lies -/
def PO (t : List Nod) (j : Nat) : Prop := if j = 0 then (t.getD j dnod).parent = -1 else 0 ≤ (t.getD j dnod).parent ∧ (t.getD j dnod).parent.toNat < j
theorem nodeOk_PO {t : List Nod} {j : Nat} (h : nodeOk t j = true) : PO t j := by
  unfold PO
  simp only [nodeOk, Bool.and_eq_true] at h
  split
  · rename_i h0
    rw [if_pos h0] at h
    simpa using (Bool.and_eq_true_iff.1 h.2).1
  · rename_i h0
    rw [if_neg h0] at h
    simp only [Bool.and_eq_true, decide_eq_true_eq] at h
    omega
theorem dp_le {t : List Nod} : ∀ i, dp t i ≤ i := by
  intro i
  induction i using Nat.strongRecOn with
  | ind i ih =>
    rw [dp]
    split
    · rename_i h; have := ih _ h.2; omega
    · omega
def okTo (t : List Nod) (k : Nat) : Prop := ∀ j, j < k → nodeOk t j = true
theorem no_root {t : List Nod} (h0 : PO t 0) {p : Int} (hp : 0 ≤ p) (s : Str) {i : Nat} (hi : 0 < i) (hlt : i < t.length) : (firstAt (sib p s) ((t.take i).drop 1) 1 < 0) ↔ (t.take i).any (sib p s) = false := by
  rw [PO, if_pos rfl] at h0
  have e : t.take i = t.getD 0 dnod :: (t.take i).drop 1 := by
    have := drop_at (xs := t.take i) (k := 0) dnod (by simp; omega)
    rw [List.drop_zero] at this
    rw [this]
    congr 1
    rw [List.getD_eq_getElem?_getD, List.getElem?_take_of_lt hi, List.getD_eq_getElem?_getD]
  have h := firstAt_iff (sib p s) ((t.take i).drop 1) 1
  have h2 : (t.take i).any (sib p s) = ((t.take i).drop 1).any (sib p s) := by
    conv => lhs; rw [e]
    rw [List.any_cons]
    have : sib p s (t.getD 0 dnod) = false := by rw [sib, decide_eq_false (by omega)]; rfl
    rw [this, Bool.false_or]
  rw [h2, ← Bool.not_eq_true, ← h]; omega
theorem all_range {n : Nat} {p : Nat → Bool} : (List.range n).all p = true ↔ ∀ j, j < n → p j = true := by
  simp [List.all_eq_true]
theorem all_range_false {n : Nat} {p : Nat → Bool} {k : Nat} (hk : k < n) (h : p k = false) : (List.range n).all p = false := by
  rw [Bool.eq_false_iff]; intro h'; rw [all_range.1 h' k hk] at h; cases h
theorem getD_set' {α : Type} {xs : List α} {i : Nat} {x d : α} (h : i < xs.length) (j : Nat) : (xs.set i x).getD j d = if i = j then x else xs.getD j d := by
  rw [List.getD_eq_getElem?_getD, List.getElem?_set]
  split
  · rfl
  · rw [List.getD_eq_getElem?_getD]
end
section
open Go
set_option linter.unusedVariables false
def pa (t : List Nod) (i : Nat) : Int := (t.getD i dnod).parent
def nmo (t : List Nod) (i : Nat) : Str := (t.getD i dnod).name
def va (t : List Nod) (i : Nat) : Int := (t.getD i dnod).value
structure VT (t : List Nod) : Prop where
  lo : 1 ≤ t.length
  hi : t.length ≤ 12
  val : ∀ i, i < t.length → -1000 ≤ va t i ∧ va t i ≤ 1000
  rp : pa t 0 = -1
  rn : nmo t 0 = []
  par : ∀ i, 0 < i → i < t.length → 0 ≤ pa t i ∧ (pa t i).toNat < i
  nam : ∀ i, 0 < i → i < t.length → nameOk (nmo t i) = true
  sib : ∀ i j, 0 < i → i < j → j < t.length → pa t i = pa t j → nmo t i ≠ nmo t j
  dep : ∀ i, i < t.length → dp t i ≤ 4
theorem take_any {t : List Nod} {i : Nat} {q : Nod → Bool} (hi : i ≤ t.length) : (t.take i).any q = true ↔ ∃ j, j < i ∧ q (t.getD j dnod) = true := by
  rw [List.any_eq_true]
  constructor
  · rintro ⟨x, hx, hq⟩
    obtain ⟨j, hj, rfl⟩ := List.mem_iff_getElem.1 hx
    have hj' : j < i := by simp at hj; omega
    refine ⟨j, hj', ?_⟩
    rw [List.getElem_take] at hq
    rwa [List.getD_eq_getElem?_getD, List.getElem?_eq_getElem (by omega)]
  · rintro ⟨j, hj, hq⟩
    refine ⟨t.getD j dnod, ?_, hq⟩
    rw [List.getD_eq_getElem?_getD, List.getElem?_eq_getElem (by omega : j < t.length)]
    show t[j] ∈ t.take i
    rw [List.mem_take_iff_getElem]
    exact ⟨j, by omega, rfl⟩
theorem validT_iff {t : List Nod} : validT t = true ↔ VT t := by
  constructor
  · intro h
    simp only [validT, Bool.and_eq_true, decide_eq_true_eq] at h
    obtain ⟨⟨h1, h2⟩, h3⟩ := h
    have h3 := all_range.1 h3
    have h4 : ∀ i, 0 < i → i < t.length → rv (va t i) = true ∧ (0 ≤ pa t i ∧ pa t i ≤ (i : Int) - 1) ∧ nameOk (nmo t i) = true ∧ (t.take i).any (Go.Proofs.YtiboohplkihhnaaDoor.sib (pa t i) (nmo t i)) = false ∧ dp t i ≤ 4 := by
      intro i h0 hi
      have := h3 i hi
      rw [nodeOk, if_neg (by omega)] at this
      simp only [Bool.and_eq_true, decide_eq_true_eq] at this
      exact ⟨this.1, this.2.1, this.2.2.1, notT this.2.2.2.1, this.2.2.2.2⟩
    have h5 := h3 0 (by omega)
    rw [nodeOk, if_pos rfl] at h5
    simp only [Bool.and_eq_true, decide_eq_true_eq] at h5
    have hr : ∀ i, i < t.length → rv (va t i) = true := by
      intro i hi
      rcases Nat.eq_zero_or_pos i with rfl | h0
      · exact h5.1
      · exact (h4 i h0 hi).1
    refine ⟨h1, h2, fun i hi => ?_, h5.2.1, h5.2.2, fun i h0 hi => ?_, fun i h0 hi => (h4 i h0 hi).2.2.1, fun i j h0 hij hj e1 e2 => ?_, fun i hi => ?_⟩
    · have := hr i hi
      simp only [rv, Bool.and_eq_true, decide_eq_true_eq] at this
      exact this
    · have := (h4 i h0 hi).2.1; omega
    · have := (h4 j (by omega) hj).2.2.2.1
      rw [← Bool.not_eq_true, take_any (by omega)] at this
      refine this ⟨i, hij, ?_⟩
      simp only [Go.Proofs.YtiboohplkihhnaaDoor.sib, Bool.and_eq_true, decide_eq_true_eq]
      exact ⟨e1, e2⟩
    · rcases Nat.eq_zero_or_pos i with rfl | h0
      · rw [dp, dif_neg (by have := h5.2.1; omega)]; omega
      · exact (h4 i h0 hi).2.2.2.2
  · intro h
    have := h.lo
    have := h.hi
    simp only [validT, Bool.and_eq_true, decide_eq_true_eq]
    refine ⟨⟨by omega, by omega⟩, all_range.2 fun i hi => ?_⟩
    have hv : rv (t.getD i dnod).value = true := by
      have := h.val i hi
      simp only [rv, Bool.and_eq_true, decide_eq_true_eq]
      exact this
    rw [nodeOk, hv, Bool.true_and]
    split
    · rename_i e
      subst e
      have := h.rp
      have := h.rn
      simp only [Bool.and_eq_true, decide_eq_true_eq]
      exact ⟨h.rp, h.rn⟩
    · rename_i e
      have h1 := h.par i (by omega) hi
      simp only [pa] at h1
      simp only [Bool.and_eq_true, decide_eq_true_eq]
      refine ⟨by omega, h.nam i (by omega) hi, ?_, h.dep i hi⟩
      rw [Bool.not_eq_true', ← Bool.not_eq_true, take_any (by omega)]
      rintro ⟨j, hj, hq⟩
      simp only [Go.Proofs.YtiboohplkihhnaaDoor.sib, Bool.and_eq_true, decide_eq_true_eq] at hq
      rcases Nat.eq_zero_or_pos j with rfl | h0
      · have := h.rp; simp only [pa] at this; omega
      · exact h.sib j i h0 hj hi hq.1 hq.2
/-- the names on the way to a node -/
def np (t : List Nod) (i : Nat) : List Str :=
  if h : 0 ≤ (t.getD i dnod).parent ∧ (t.getD i dnod).parent.toNat < i then np t (t.getD i dnod).parent.toNat ++ [(t.getD i dnod).name] else []
termination_by i
decreasing_by exact h.2
/-- the nodes on the way to a node -/
def ix (t : List Nod) (i : Nat) : List Nat :=
  if h : 0 ≤ (t.getD i dnod).parent ∧ (t.getD i dnod).parent.toNat < i then ix t (t.getD i dnod).parent.toNat ++ [i] else [i]
termination_by i
decreasing_by exact h.2
theorem np_ix {t : List Nod} : ∀ i, (ix t i).map (nmo t) = nmo t ((ix t i).headD 0) :: np t i ∧ (ix t i).length = dp t i + 1 := by
  intro i
  induction i using Nat.strongRecOn with
  | ind i ih =>
    rw [ix, np, dp]
    split
    · rename_i h
      obtain ⟨h1, h2⟩ := ih _ h.2
      refine ⟨?_, by rw [List.length_append, h2]; rfl⟩
      rw [List.map_append, h1, List.cons_append]
      have : (ix t (t.getD i dnod).parent.toNat ++ [i]).headD 0 = (ix t (t.getD i dnod).parent.toNat).headD 0 := by
        cases hx : ix t (t.getD i dnod).parent.toNat with
        | nil => rw [hx] at h2; simp at h2
        | cons a l => rfl
      rw [this]
      rfl
    · exact ⟨rfl, rfl⟩
variable {t : List Nod}
theorem np_zero (h : VT t) : np t 0 = [] := by
  rw [np, dif_neg (by omega)]
theorem np_pos (h : VT t) {i : Nat} (h0 : 0 < i) (hi : i < t.length) : np t i = np t (pa t i).toNat ++ [nmo t i] := by
  have := h.par i h0 hi
  simp only [pa] at this
  rw [np, dif_pos this]; rfl
theorem dp_pos (h : VT t) {i : Nat} (h0 : 0 < i) (hi : i < t.length) : dp t i = dp t (pa t i).toNat + 1 := by
  have := h.par i h0 hi
  simp only [pa] at this
  rw [dp, dif_pos this]; rfl
theorem ix_pos (h : VT t) {i : Nat} (h0 : 0 < i) (hi : i < t.length) : ix t i = ix t (pa t i).toNat ++ [i] := by
  have := h.par i h0 hi
  simp only [pa] at this
  rw [ix, dif_pos this]; rfl
theorem np_len : ∀ i, (np t i).length = dp t i := by
  intro i
  induction i using Nat.strongRecOn with
  | ind i ih =>
    rw [np, dp]
    split
    · rename_i h; rw [List.length_append, ih _ h.2]; rfl
    · rfl
theorem np_names (h : VT t) : ∀ i, i < t.length → ∀ s ∈ np t i, nameOk s = true := by
  intro i
  induction i using Nat.strongRecOn with
  | ind i ih =>
    intro hi s hs
    rcases Nat.eq_zero_or_pos i with rfl | hi0
    · rw [np_zero h] at hs; cases hs
    · rw [np_pos h hi0 hi] at hs
      rcases List.mem_append.1 hs with h1 | h1
      · have := h.par i hi0 hi
        exact ih _ this.2 (by omega) s h1
      · rw [List.mem_singleton.1 h1]; exact h.nam i hi0 hi
end
section
open Go
set_option linter.unusedVariables false
/-- texts put together, each behind a byte -/
def fm (c : UInt8) (l : List Str) : Str := l.flatMap fun s => c :: s
theorem fm_nil (c : UInt8) : fm c [] = [] := rfl
theorem fm_cons (c : UInt8) (s : Str) (l : List Str) : fm c (s :: l) = c :: (s ++ fm c l) := by simp [fm]
/-- the text of a path -/
def ptx (l : List Str) : Str := if l = [] then [47] else fm 47 l
variable {t : List Nod}
end
section
open Go
set_option linter.unusedVariables false
theorem u8wrap {x : Int} (h0 : 0 ≤ x) (h1 : x < 256) : IntKind.u8.wrap x = x := by
  unfold IntKind.wrap
  simp [IntKind.bits, IntKind.signed]
  omega
theorem dig_small {u : Nat} (h : u < 10) : Lib.decDigits u = [UInt8.ofNat (48 + u)] := by rw [Lib.decDigits, dif_pos h]
theorem dig_big {u : Nat} (h : ¬ u < 10) : Lib.decDigits u = Lib.decDigits (u / 10) ++ [UInt8.ofNat (48 + u % 10)] := by rw [Lib.decDigits, dif_neg h]
theorem digits_len : ∀ (k u : Nat), u < 10 ^ (k + 1) → (Lib.decDigits u).length ≤ k + 1
  | 0, u, h => by rw [dig_small (by simpa using h)]; simp
  | k + 1, u, h => by
    by_cases h1 : u < 10
    · rw [dig_small h1]; simp
    · rw [dig_big h1, List.length_append]
      have := digits_len k (u / 10) (by rw [Nat.pow_succ] at h; omega)
      simp; omega
theorem itoa_len {n : Int} (h0 : -1000 ≤ n) (h1 : n ≤ 1000) : (Lib.itoa n).length ≤ 5 := by
  unfold Lib.itoa
  split
  · have := digits_len 3 n.natAbs (by omega)
    simp; omega
  · have := digits_len 3 n.toNat (by omega)
    omega
/-- parts with a semicolon and a space between two of them -/
def sepk (f : Nat → Str) : Nat → Str
  | 0 => []
  | k + 1 => sepk f k ++ (if 0 < k then [59, 32] else []) ++ f k
theorem sepk_congr {f g : Nat → Str} : ∀ {k : Nat}, (∀ j, j < k → f j = g j) → sepk f k = sepk g k
  | 0, _ => rfl
  | k + 1, h => by rw [sepk, sepk, sepk_congr (fun j hj => h j (by omega)), h k (by omega)]
theorem sepk_len {f : Nat → Str} {B : Nat} : ∀ {k : Nat}, (∀ j, j < k → (f j).length ≤ B) → (sepk f k).length ≤ (B + 2) * k
  | 0, _ => by simp [sepk]
  | k + 1, h => by
    have h1 := sepk_len (f := f) (B := B) (k := k) (fun j hj => h j (by omega))
    have h2 := h k (by omega)
    rw [sepk, List.length_append, List.length_append, Nat.mul_succ]
    split <;> simp <;> omega
theorem sepk_ne {f : Nat → Str} {k : Nat} (hk : 0 < k) (h : f (k - 1) ≠ []) : sepk f k ≠ [] := by
  cases k with
  | zero => omega
  | succ k =>
    rw [sepk]
    intro e
    have := (List.append_eq_nil_iff.1 e).2
    exact h this
/-- a part of the text of a tree -/
def pcs (t : List Nod) (i : Nat) : Str := ptx (np t i) ++ 32 :: Lib.itoa (va t i)
def fmtT (t : List Nod) : Str := sepk (pcs t) t.length
end
section
open Go
theorem implName_ex (s : Str) : Ex (fun n => impl_isName n s) (· = nameOk s) := by
  unfold impl_isName
  cases hw : impl_within ((s.length : Nat) : Int) 1 4 with
  | false =>
    refine Ex.yes rfl (Ex.ret ?_)
    simp only [impl_within, Bool.and_eq_false_iff, decide_eq_false_iff_not] at hw
    rw [eq_comm, Bool.eq_false_iff]
    intro h
    simp only [nameOk, Bool.and_eq_true, decide_eq_true_eq] at h
    omega
  | true =>
    simp only [impl_within, Bool.and_eq_true, decide_eq_true_eq] at hw
    have e : nameOk s = s.all ch := by
      simp only [nameOk]
      rw [decide_eq_true (by omega), decide_eq_true (by omega)]; simp
    refine Ex.no rfl ?_
    refine Ex.be (a := if s.all ch = true then .inr () else .inl ()) ?_ ?_
    · refine upU s.length (fun k => (s.drop k).all ch = s.all ch) ?_ ?_ 0 (Nat.zero_le _) (by simp)
      · intro k hk hi next
        simp only [impl_isName_L1, Int.toNat_natCast]
        rw [all_split ch 0 hk] at hi
        refine Ex.yes (decide_eq_true (by omega)) (Ex.guard (by omega) ?_)
        refine Ex.be (a := !ch (s.getD k 0)) ?_ ?_
        · refine Ex.ite (fun h => Ex.ret ?_) (fun h => Ex.guard (by omega) (Ex.ret ?_))
          · have := of_decide_eq_true h
            rw [ch, decide_eq_false (by omega)]; rfl
          · have := of_decide_eq_false h
            rw [ch, decide_eq_true (p := 97 ≤ _) (by omega), Bool.true_and]
            rcases Nat.lt_or_ge 122 (s.getD k 0).toNat with h | h
            · rw [decide_eq_true (by omega), decide_eq_false (by omega)]; rfl
            · rw [decide_eq_false (by omega), decide_eq_true (by omega)]; rfl
        · cases hc : ch (s.getD k 0) with
          | false =>
            rw [hc, Bool.false_and] at hi
            refine Ex.yes rfl (Ex.ret ?_)
            rw [← hi]; rfl
          | true =>
            rw [hc, Bool.true_and] at hi
            rw [w64_succ (by omega)]
            exact Ex.no rfl (next hi)
      · intro hi
        simp only [impl_isName_L1]
        refine Ex.no (decide_eq_false (by omega)) (Ex.ret ?_)
        rw [← hi]; simp
    · rw [e]
      cases s.all ch with
      | true => exact Ex.ret rfl
      | false => exact Ex.ret rfl
theorem specName_ex {s : Str} (hs : s.length ≤ 1000000000000) : Ex (fun n => spec_validName n s) (· = nameOk s) := by
  unfold spec_validName
  refine Ex.be (a := if s.all ch = true then .inr () else .inl ()) ?_ ?_
  · refine upU s.length (fun k => (s.drop k).all ch = s.all ch) ?_ ?_ 0 (Nat.zero_le _) (by simp)
    · intro k hk hi next
      simp only [spec_validName_L1, Int.toNat_natCast]
      rw [all_split ch 0 hk] at hi
      refine Ex.yes (decide_eq_true (by omega)) (Ex.guard (by omega) ?_)
      have hlt := UInt8.toNat_lt (s.getD k 0)
      have e : spec_inRange (w64 ((s.getD k 0).toNat : Int)) 97 122 = ch (s.getD k 0) := by
        rw [w64_id (by omega) (by omega), spec_inRange, ch, Bool.eq_iff_iff]
        simp only [Bool.and_eq_true, decide_eq_true_eq]; omega
      rw [e]
      cases hc : ch (s.getD k 0) with
      | false =>
        rw [hc, Bool.false_and] at hi
        refine Ex.yes rfl (Ex.ret ?_)
        rw [← hi]; rfl
      | true =>
        rw [hc, Bool.true_and] at hi
        rw [w64_succ (by omega)]
        exact Ex.no rfl (next hi)
    · intro hi
      simp only [spec_validName_L1]
      refine Ex.no (decide_eq_false (by omega)) (Ex.ret ?_)
      rw [← hi]; simp
  · have e : spec_inRange ((s.length : Nat) : Int) 1 4 = (decide (1 ≤ s.length) && decide (s.length ≤ 4)) := by
      rw [spec_inRange, Bool.eq_iff_iff]
      simp only [Bool.and_eq_true, decide_eq_true_eq]; omega
    rw [nameOk, e]
    cases s.all ch with
    | true => exact Ex.ret (by simp)
    | false => exact Ex.ret (by simp)
theorem implKid_ex {l : List Nod} (hl : l.length ≤ 1000000000000) (p : Int) (s : Str) : Ex (fun n => impl_kidIn n l p s) (· = firstAt (sib p s) l 0) := by
  unfold impl_kidIn
  refine Ex.bind (P := fun v => (match v with | .inl i => i | .inr _ => -1) = firstAt (sib p s) l 0) ?_ ?_
  · refine upU l.length (fun k => firstAt (sib p s) (l.drop k) k = firstAt (sib p s) l 0) ?_ ?_ 0 (Nat.zero_le _) rfl
    · intro k hk hi next
      simp only [impl_kidIn_L1, Int.toNat_natCast]
      rw [drop_at dnod hk, firstAt] at hi
      refine Ex.yes (decide_eq_true (by omega)) (Ex.guard (by omega) ?_)
      refine Ex.ite (fun h => Ex.ret ?_) (fun h => ?_)
      · have h : sib p s (l.getD k dnod) = true := h
        rw [if_pos h] at hi; exact hi
      · have h : sib p s (l.getD k dnod) = false := h
        rw [if_neg (by rw [h]; simp)] at hi
        rw [w64_succ (by omega)]
        exact next hi
    · intro hi
      simp only [impl_kidIn_L1]
      refine Ex.no (decide_eq_false (by omega)) (Ex.ret ?_)
      rw [List.drop_length, firstAt] at hi; exact hi
  · intro v hv
    rcases v with i | u
    · exact Ex.ret hv
    · exact Ex.ret hv
theorem specKid_ex {l : List Nod} (hl : l.length ≤ 1000000000000) (p : Int) (s : Str) : Ex (fun n => spec_kid n l p s) (· = firstAt (sib p s) (l.drop 1) 1) := by
  unfold spec_kid
  refine Ex.bind (P := fun v => (match v with | .inl i => i | .inr _ => -1) = firstAt (sib p s) (l.drop 1) 1) ?_ ?_
  · rcases Nat.eq_zero_or_pos l.length with hz | hz
    · have : l = [] := List.eq_nil_of_length_eq_zero hz
      subst this
      refine Ex.succ ?_
      simp only [spec_kid_L1]
      exact Ex.no rfl (Ex.ret rfl)
    · refine upU l.length (fun k => firstAt (sib p s) (l.drop k) k = firstAt (sib p s) (l.drop 1) 1) ?_ ?_ 1 hz rfl
      · intro k hk hi next
        simp only [spec_kid_L1, Int.toNat_natCast]
        rw [drop_at dnod hk, firstAt] at hi
        refine Ex.yes (decide_eq_true (by omega)) (Ex.guard (by omega) ?_)
        refine Ex.be (a := sib p s (l.getD k dnod)) (Ex.ite (fun h => Ex.guard (by omega) (Ex.ret ?_)) (fun h => Ex.ret ?_)) ?_
        · rw [sib, h]; simp
        · rw [sib, h]; simp
        · cases h : sib p s (l.getD k dnod) with
          | true => rw [if_pos h] at hi; exact Ex.yes rfl (Ex.ret hi)
          | false =>
            rw [if_neg (by rw [h]; simp)] at hi
            rw [w64_succ (by omega)]
            exact Ex.no rfl (next hi)
      · intro hi
        simp only [spec_kid_L1]
        refine Ex.no (decide_eq_false (by omega)) (Ex.ret ?_)
        rw [List.drop_length, firstAt] at hi; exact hi
  · intro v hv
    rcases v with i | u
    · exact Ex.ret hv
    · exact Ex.ret hv
theorem depth_loop {t : List Nod} (hl : t.length ≤ 1000000000) : ∀ (i : Nat) (d : Int), i < t.length → (∀ j, j ≤ i → PO t j) → 0 ≤ d → d + i ≤ 1000000000 →
    Ex (fun n => spec_depth_L1 t n (i : Int) d) (· = d + (dp t i : Nat)) := by
  intro i
  induction i using Nat.strongRecOn with
  | ind i ih =>
    intro d hi hp hd hdi
    refine Ex.succ ?_
    simp only [spec_depth_L1, Int.toNat_natCast]
    have hpi := hp i (Nat.le_refl _)
    refine Ex.guard (by omega) ?_
    rcases Nat.eq_zero_or_pos i with hz | hz
    · have e : (t.getD i dnod).parent = -1 := by rw [PO, if_pos hz] at hpi; exact hpi
      refine Ex.no (decide_eq_false (by omega)) (Ex.ret ?_)
      rw [dp, dif_neg (by omega)]; simp
    · rw [PO, if_neg (by omega)] at hpi
      refine Ex.yes (decide_eq_true hpi.1) (Ex.guard (by omega) ?_)
      rw [w64_id (by omega) (by omega)]
      have := ih (t.getD i dnod).parent.toNat hpi.2 (d + 1) (by omega) (fun j hj => hp j (by omega)) (by omega) (by omega)
      rw [Int.toNat_of_nonneg hpi.1] at this
      refine Ex.mono this ?_
      intro r hr
      rw [hr, dp.eq_1 t i, dif_pos hpi]; omega
theorem depth_ex {t : List Nod} (hl : t.length ≤ 400000000) {i : Nat} (hi : i < t.length) (hp : ∀ j, j ≤ i → PO t j) : Ex (fun n => spec_depth n t (i : Int)) (· = (dp t i : Nat)) := by
  unfold spec_depth
  refine Ex.be (depth_loop (by omega) i 0 hi hp (Int.le_refl 0) (by omega)) (Ex.ret (by simp))
theorem specNode_ex {t : List Nod} (hn : NL t) (hl : t.length ≤ 400000000) {i : Nat} (hi : i < t.length) (ho : okTo t i) : Ex (fun n => spec_validNode n t (i : Int)) (· = nodeOk t i) := by
  unfold spec_validNode
  simp only [Int.toNat_natCast]
  refine Ex.guard (by omega) ?_
  have e : spec_inRange (t.getD i dnod).value (-1000) 1000 = rv (t.getD i dnod).value := rfl
  rw [e, nodeOk]
  cases hr : rv (t.getD i dnod).value with
  | false => exact Ex.yes rfl (Ex.ret rfl)
  | true =>
    refine Ex.no rfl ?_
    rw [Bool.true_and]
    rcases Nat.eq_zero_or_pos i with hz | hz
    · refine Ex.yes (decide_eq_true (by omega)) (Ex.guard (by omega) (Ex.be (a := decide ((t.getD i dnod).parent = -1) && decide ((t.getD i dnod).name = [])) ?_ (Ex.ret ?_)))
      · refine Ex.ite (fun h => Ex.guard (by omega) (Ex.ret ?_)) (fun h => Ex.ret ?_)
        · rw [h]; rfl
        · rw [h]; rfl
      · rw [if_pos hz]
    · refine Ex.no (decide_eq_false (by omega)) (Ex.guard (by omega) ?_)
      rw [w64_id (by omega) (by omega), if_neg (by omega)]
      refine Ex.bind (P := fun r => r = _) ?_ (fun r hr => Ex.ret hr)
      have e2 : spec_inRange (t.getD i dnod).parent 0 ((i : Int) - 1) = (decide (0 ≤ (t.getD i dnod).parent) && decide ((t.getD i dnod).parent ≤ (i : Int) - 1)) := rfl
      rw [e2]
      refine Ex.ite (fun h => ?_) (fun h => ?_)
      · rw [h, Bool.true_and]
        simp only [Bool.and_eq_true, decide_eq_true_eq] at h
        refine Ex.guard (by omega) (Ex.be (specName_ex (hn.2 _ (getD_mem hi))) ?_)
        refine Ex.ite (fun h1 => ?_) (fun h1 => ?_)
        · rw [h1, Bool.true_and]
          refine Ex.guard (by omega) (Ex.guard (by omega) (Ex.guard (by omega) ?_))
          rw [List.drop_zero]
          refine Ex.be (specKid_ex (by simp; omega) _ _) ?_
          have h3 := no_root (nodeOk_PO (ho 0 hz)) h.1 (t.getD i dnod).name hz hi
          refine Ex.ite (fun h4 => ?_) (fun h4 => ?_)
          · rw [h3.1 (of_decide_eq_true h4)]
            refine Ex.be (depth_ex hl hi (fun j hj => ?_)) (Ex.ret (by simp; omega))
            rcases Nat.eq_or_lt_of_le hj with rfl | hj
            · rw [PO, if_neg (by omega)]; omega
            · exact nodeOk_PO (ho j hj)
          · have := of_decide_eq_false h4
            have h5 : (t.take i).any (sib (t.getD i dnod).parent (t.getD i dnod).name) = true := by
              rw [← Bool.not_eq_false]; exact fun h => this (h3.2 h)
            rw [h5]; exact Ex.ret rfl
        · rw [h1]; exact Ex.ret rfl
      · rw [h]; exact Ex.ret rfl
theorem specTree_ex {t : List Nod} (hn : NL t) (hl : t.length ≤ 400000000) : Ex (fun n => spec_validTree n t) (· = validT t) := by
  unfold spec_validTree
  refine Ex.be (a := if (List.range t.length).all (nodeOk t) = true then .inr () else .inl ()) ?_ ?_
  · refine upU t.length (fun k => okTo t k) ?_ ?_ 0 (Nat.zero_le _) (fun j hj => by omega)
    · intro k hk hi next
      simp only [spec_validTree_L1]
      refine Ex.yes (decide_eq_true (by omega)) (Ex.be (specNode_ex hn hl hk hi) ?_)
      cases h : nodeOk t k with
      | false =>
        refine Ex.yes rfl (Ex.ret ?_)
        rw [all_range_false hk h]; rfl
      | true =>
        rw [w64_succ (by omega)]
        refine Ex.no rfl (next (fun j hj => ?_))
        rcases Nat.eq_or_lt_of_le (Nat.le_of_lt_succ hj) with rfl | h1
        · exact h
        · exact hi j h1
    · intro hi
      simp only [spec_validTree_L1]
      refine Ex.no (decide_eq_false (by omega)) (Ex.ret ?_)
      rw [all_range.2 hi]; rfl
  · have e : spec_inRange ((t.length : Nat) : Int) 1 12 = (decide (1 ≤ t.length) && decide (t.length ≤ 12)) := by
      rw [spec_inRange, Bool.eq_iff_iff]
      simp only [Bool.and_eq_true, decide_eq_true_eq]; omega
    rw [validT, e]
    cases (List.range t.length).all (nodeOk t) with
    | true => exact Ex.ret (by simp)
    | false => exact Ex.ret (by simp)
theorem implTree_ex (t : List Nod) : Ex (fun n => impl_ValidTree n t) (· = validT t) := by
  unfold impl_ValidTree
  refine Ex.ite (fun h => Ex.ret ?_) (fun h => ?_)
  · simp only [Bool.or_eq_true, decide_eq_true_eq] at h
    rw [eq_comm, Bool.eq_false_iff]
    intro h'
    simp only [validT, Bool.and_eq_true, decide_eq_true_eq] at h'
    omega
  · simp only [Bool.or_eq_false_iff, decide_eq_false_iff_not] at h
    have hl : 1 ≤ t.length ∧ t.length ≤ 12 := by omega
    refine Ex.guard (by omega) ?_
    have hbad : (decide ((t.getD 0 dnod).parent = -1) && decide ((t.getD 0 dnod).name = [])) = false → validT t = false := by
      intro hf
      rw [Bool.eq_false_iff]
      intro h'
      simp only [validT, Bool.and_eq_true] at h'
      have := all_range.1 h'.2 0 (by omega)
      rw [nodeOk, if_pos rfl, hf, Bool.and_false] at this
      cases this
    refine Ex.be (a := !(decide ((t.getD 0 dnod).parent = -1) && decide ((t.getD 0 dnod).name = []))) ?_ ?_
    · cases hp : decide ((t.getD 0 dnod).parent = -1) with
      | true => exact Ex.no rfl (Ex.guard (by omega) (Ex.ret rfl))
      | false => exact Ex.yes rfl (Ex.ret rfl)
    · refine Ex.ite (fun hb => Ex.ret ?_) (fun hb => ?_)
      · rw [hbad (notT hb)]
      · have hroot : (decide ((t.getD 0 dnod).parent = -1) && decide ((t.getD 0 dnod).name = [])) = true := notF hb
        have e : validT t = (List.range t.length).all (nodeOk t) := by
          rw [validT, decide_eq_true hl.1, decide_eq_true hl.2]; simp
        refine Ex.guard (by omega) ?_
        refine Ex.be (a := if (List.range t.length).all (nodeOk t) = true then .inr () else .inl ()) ?_ ?_
        · refine up t.length (fun k (ds : List Int) => ds.length = t.length ∧ okTo t k ∧ ∀ j, j < t.length → (j < k ∨ j = 0) → ds.getD j 0 = (dp t j : Nat)) (f := fun n ds i => impl_ValidTree_L1 t n ds i) ?_ ?_ 0 _ (Nat.zero_le _) ⟨by simp, fun j hj => by omega, ?_⟩
          · rintro k ds hk ⟨h1, h2, h3⟩ next
            simp only [impl_ValidTree_L1, Int.toNat_natCast]
            refine Ex.yes (decide_eq_true (by omega)) ?_
            refine Ex.bind (P := fun v => (nodeOk t k = false ∧ v = .inl ()) ∨ (nodeOk t k = true ∧ ∃ ds' : List Int, v = .inr ds' ∧ (ds'.length = t.length ∧ ∀ j, j < t.length → (j < k + 1 ∨ j = 0) → ds'.getD j 0 = ((dp t j : Nat) : Int)))) ?_ ?_
            · refine Ex.guard (by omega) ?_
              have e1 : impl_within (t.getD k dnod).value (-1000) 1000 = rv (t.getD k dnod).value := rfl
              rw [e1, nodeOk]
              cases hr : rv (t.getD k dnod).value with
              | false => exact Ex.yes rfl (Ex.ret (.inl ⟨rfl, rfl⟩))
              | true =>
                rw [Bool.true_and]
                refine Ex.no rfl ?_
                rcases Nat.eq_zero_or_pos k with hz | hz
                · subst hz
                  refine Ex.yes rfl (Ex.ret (.inr ⟨?_, ds, rfl, h1, fun j hj hj' => h3 j hj (by omega)⟩))
                  rw [if_pos rfl]; exact hroot
                · refine Ex.no (decide_eq_false (by omega)) ?_
                  rw [if_neg (by omega), w64_id (by omega) (by omega)]
                  have e2 : impl_within (t.getD k dnod).parent 0 ((k : Int) - 1) = (decide (0 ≤ (t.getD k dnod).parent) && decide ((t.getD k dnod).parent ≤ (k : Int) - 1)) := rfl
                  rw [e2]
                  refine Ex.be (a := !((decide (0 ≤ (t.getD k dnod).parent) && decide ((t.getD k dnod).parent ≤ (k : Int) - 1)) && nameOk (t.getD k dnod).name)) ?_ ?_
                  · cases (decide (0 ≤ (t.getD k dnod).parent) && decide ((t.getD k dnod).parent ≤ (k : Int) - 1)) with
                    | false => exact Ex.yes rfl (Ex.ret rfl)
                    | true => exact Ex.no rfl (Ex.be (implName_ex _) (Ex.ret rfl))
                  · rw [← Bool.and_assoc]
                    refine Ex.ite (fun hb1 => ?_) (fun hb1 => ?_)
                    · rw [show ((decide (0 ≤ (t.getD k dnod).parent) && decide ((t.getD k dnod).parent ≤ (k : Int) - 1)) && nameOk (t.getD k dnod).name) = false from notT hb1]
                      exact Ex.ret (.inl ⟨rfl, rfl⟩)
                    · have hb2 : ((decide (0 ≤ (t.getD k dnod).parent) && decide ((t.getD k dnod).parent ≤ (k : Int) - 1)) && nameOk (t.getD k dnod).name) = true := notF hb1
                      rw [hb2, Bool.true_and]
                      simp only [Bool.and_eq_true, decide_eq_true_eq] at hb2
                      refine Ex.guard (by omega) ?_
                      rw [List.drop_zero]
                      refine Ex.be (implKid_ex (by simp; omega) _ _) ?_
                      have hf := firstAt_iff (sib (t.getD k dnod).parent (t.getD k dnod).name) (t.take k) 0
                      refine Ex.ite (fun h4 => ?_) (fun h4 => ?_)
                      · rw [hf.1 (of_decide_eq_true h4)]; exact Ex.ret (.inl ⟨rfl, rfl⟩)
                      · have h5 : (t.take k).any (sib (t.getD k dnod).parent (t.getD k dnod).name) = false := by
                          rw [← Bool.not_eq_true, ← hf]; exact of_decide_eq_false h4
                        rw [h5]
                        refine Ex.guard (by omega) (Ex.guard (by omega) (Ex.guard (by simp; omega) ?_))
                        have e3 := h3 (t.getD k dnod).parent.toNat (by omega) (.inl (by omega))
                        have e4 : dp t k = dp t (t.getD k dnod).parent.toNat + 1 := by rw [dp.eq_1 t k, dif_pos (by omega)]
                        have e5 := dp_le (t := t) (t.getD k dnod).parent.toNat
                        have e6 : w64 (ds.getD (t.getD k dnod).parent.toNat 0 + 1) = (dp t k : Nat) := by
                          rw [e3, w64_id (by omega) (by omega)]; omega
                        refine Ex.ite (fun h6 => ?_) (fun h6 => ?_)
                        · have := of_decide_eq_true h6
                          rw [getD_set' (by omega), if_pos rfl, e6] at this
                          rw [decide_eq_false (by omega)]; exact Ex.ret (.inl ⟨rfl, rfl⟩)
                        · have := of_decide_eq_false h6
                          rw [getD_set' (by omega), if_pos rfl, e6] at this
                          rw [decide_eq_true (by omega), e6]
                          refine Ex.ret (.inr ⟨rfl, _, rfl, by simpa using h1, fun j hj hj' => ?_⟩)
                          rw [getD_set' (by omega)]
                          split
                          · rename_i e; subst e; omega
                          · exact h3 j hj (by omega)
            · rintro v (⟨hf, rfl⟩ | ⟨hf, ds', rfl, h4, h5⟩)
              · refine Ex.ret ?_
                rw [all_range_false hk hf]; rfl
              · show Ex (fun n => impl_ValidTree_L1 t n ds' (w64 ((k : Int) + 1))) _
                rw [w64_succ (by omega)]
                refine next ds' ⟨h4, fun j hj => ?_, h5⟩
                rcases Nat.eq_or_lt_of_le (Nat.le_of_lt_succ hj) with rfl | h6
                · exact hf
                · exact h2 j h6
          · rintro ds ⟨h1, h2, h3⟩
            simp only [impl_ValidTree_L1]
            refine Ex.no (decide_eq_false (by omega)) (Ex.ret ?_)
            rw [all_range.2 h2]; rfl
          · intro j hj hj'
            obtain rfl : j = 0 := by omega
            have hp : (t.getD 0 dnod).parent = -1 := by simpa using (Bool.and_eq_true_iff.1 hroot).1
            rw [dp, dif_neg (by omega), List.getD_eq_getElem?_getD, List.getElem?_replicate]
            split
            · rfl
            · rfl
        · rw [e]
          cases (List.range t.length).all (nodeOk t) with
          | true => exact Ex.ret rfl
          | false => exact Ex.ret rfl
end
section
open Go
set_option linter.unusedVariables false
def nix (t : List Nod) (i : Nat) : List Int := (ix t i).map fun (k : Nat) => (k : Int)
theorem nix_len {t : List Nod} (i : Nat) : (nix t i).length = dp t i + 1 := by rw [nix, List.length_map, (np_ix i).2]
theorem ix_lt {t : List Nod} (h : VT t) : ∀ i, i < t.length → ∀ k ∈ ix t i, k < t.length := by
  intro i
  induction i using Nat.strongRecOn with
  | ind i ih =>
    intro hi k hk
    rcases Nat.eq_zero_or_pos i with rfl | h0
    · rw [ix, dif_neg (by omega)] at hk
      rw [List.mem_singleton.1 hk]; exact hi
    · rw [ix_pos h h0 hi] at hk
      have p := h.par i h0 hi
      rcases List.mem_append.1 hk with h1 | h1
      · exact ih _ p.2 (by omega) k h1
      · rw [List.mem_singleton.1 h1]; exact hi
theorem ix_names {t : List Nod} (i : Nat) : ((ix t i).drop 1).map (nmo t) = np t i := by
  rw [List.map_drop, (np_ix i).1]; rfl
theorem specPathTo_ex {t : List Nod} (h : VT t) {i : Nat} (hi : i < t.length) : Ex (fun n => spec_pathTo n t (i : Int)) (· = nix t i) := by
  have key : ∀ i, i < t.length → ∀ r : List Int, r.length + i ≤ 100 → Ex (fun n => spec_pathTo_L1 t n ((i : Int) :: r) (i : Int)) (· = nix t i ++ r) := by
    intro i
    induction i using Nat.strongRecOn with
    | ind i ih =>
      intro hi r hr
      refine Ex.succ ?_
      simp only [spec_pathTo_L1]
      rcases Nat.eq_zero_or_pos i with rfl | h0
      · refine Ex.no (decide_eq_false (by omega)) (Ex.ret ?_)
        rw [nix, ix, dif_neg (by omega)]; rfl
      · have p := h.par i h0 hi
        refine Ex.yes (decide_eq_true (by omega)) (Ex.guard (by omega) (Ex.guard (by simp; omega) ?_))
        rw [view_all, Int.toNat_natCast]
        have e : (t.getD i dnod).parent = (((pa t i).toNat : Nat) : Int) := by rw [Int.toNat_of_nonneg p.1]; rfl
        rw [e]
        have := ih _ p.2 (by omega) ((i : Int) :: r) (by simp; omega)
        refine Ex.mono this ?_
        rintro x rfl
        rw [nix, nix, ix_pos h h0 hi]; simp
  unfold spec_pathTo
  refine Ex.be (a := nix t i) ?_ (Ex.ret rfl)
  have := key i hi [] (by have := h.hi; simp; omega)
  rwa [List.append_nil] at this
theorem name_len {s : Str} (h : nameOk s = true) : s.length ≤ 4 := by
  simp only [nameOk, Bool.and_eq_true, decide_eq_true_eq] at h; exact h.1.2
theorem fm_len {c : UInt8} : ∀ {l : List Str}, (∀ s ∈ l, nameOk s = true) → (fm c l).length ≤ 5 * l.length
  | [], _ => by simp [fm_nil]
  | s :: l, h => by
    have := name_len (h s (by simp))
    have := fm_len (c := c) (l := l) (fun x hx => h x (by simp [hx]))
    rw [fm_cons]; simp only [List.length_cons, List.length_append]; omega
theorem np_le {t : List Nod} (h : VT t) {i : Nat} (hi : i < t.length) : (np t i).length ≤ 4 := by rw [np_len]; exact h.dep i hi
theorem ptx_len {t : List Nod} (h : VT t) {i : Nat} (hi : i < t.length) : (ptx (np t i)).length ≤ 20 := by
  have := np_le h hi
  rw [ptx]
  split
  · simp
  · have := fm_len (c := 47) (np_names h i hi); omega
theorem np_nil {t : List Nod} (h : VT t) {i : Nat} (hi : i < t.length) : np t i = [] ↔ i = 0 := by
  constructor
  · intro e
    rcases Nat.eq_zero_or_pos i with rfl | h0
    · rfl
    · rw [np_pos h h0 hi] at e; simp at e
  · rintro rfl; exact np_zero h
theorem nix_at {t : List Nod} (h : VT t) {i : Nat} (hi : i < t.length) {k : Nat} (hk : k < (ix t i).length) : (nix t i).getD k 0 = (((ix t i).getD k 0 : Nat) : Int) ∧ (ix t i).getD k 0 < t.length := by
  refine ⟨?_, ix_lt h i hi _ (getD_mem hk)⟩
  rw [nix, List.getD_eq_getElem?_getD, List.getElem?_map, List.getD_eq_getElem?_getD, List.getElem?_eq_getElem hk]; rfl
theorem specPathText_ex {t : List Nod} (h : VT t) {i : Nat} (hi : i < t.length) : Ex (fun n => spec_pathText n t (i : Int)) (· = ptx (np t i)) := by
  unfold spec_pathText
  refine Ex.be (specPathTo_ex h hi) (Ex.be (a := fm 47 (np t i)) ?_ ?_)
  · have hlen : (ix t i).length = (nix t i).length := by simp [nix]
    have hd := np_le h hi
    have hl2 := (np_ix (t := t) i).2
    rw [np_len] at hd
    refine up (nix t i).length (fun k (s : Str) => s ++ fm 47 (((ix t i).drop k).map (nmo t)) = fm 47 (np t i) ∧ s.length ≤ 5 * k) (f := fun n s i' => spec_pathText_L1 t i (nix t i) n s i') ?_ ?_ 1 [] (by omega) ⟨by rw [ix_names]; rfl, by simp⟩
    · rintro k s hk ⟨h1, h2⟩ next
      obtain ⟨a1, a2⟩ := nix_at h hi (k := k) (by omega)
      have hnm : (nmo t ((ix t i).getD k 0)).length ≤ 4 := by
        rcases Nat.eq_zero_or_pos ((ix t i).getD k 0) with e | e
        · rw [e, h.rn]; simp
        · exact name_len (h.nam _ e a2)
      simp only [spec_pathText_L1, Int.toNat_natCast, a1]
      rw [nmo] at hnm
      refine Ex.yes (decide_eq_true (by omega)) (Ex.guard (by simp; omega) (Ex.guard (by omega) (Ex.guard (by omega) (Ex.guard (by simp only [List.length_append, List.length_singleton]; omega) ?_))))
      rw [w64_succ (by omega)]
      refine next _ ⟨?_, by simp only [List.length_append, List.length_singleton]; omega⟩
      rw [← h1, drop_at 0 (show k < (ix t i).length by omega), List.map_cons, fm_cons, nmo]
      simp
    · rintro s ⟨h1, h2⟩
      simp only [spec_pathText_L1]
      refine Ex.no (decide_eq_false (by omega)) (Ex.ret ?_)
      rw [← h1, List.drop_eq_nil_of_le (by omega)]; simp [fm_nil]
  · rw [ptx]
    refine Ex.ite (fun hb => Ex.ret ?_) (fun hb => Ex.ret ?_)
    · have := of_decide_eq_true hb
      rw [if_pos ((np_nil h hi).2 (by omega))]
    · have := of_decide_eq_false hb
      rw [if_neg (fun e => this (by rw [(np_nil h hi).1 e]; rfl))]
theorem implNode_ex {t : List Nod} (hl : t.length ≤ 1000000000000) (i : Int) : Ex (fun n => impl_isNode n t i) (· = (decide (0 ≤ i ∧ i < t.length) && validT t)) := by
  unfold impl_isNode
  rw [w64_id (by omega) (by omega)]
  refine Ex.bind (P := fun r => r = _) ?_ (fun r hr => Ex.ret hr)
  have e : impl_within i 0 ((t.length : Int) - 1) = decide (0 ≤ i ∧ i < t.length) := by
    rw [impl_within, Bool.eq_iff_iff]; simp only [Bool.and_eq_true, decide_eq_true_eq]; omega
  rw [e]
  refine Ex.ite (fun hb => ?_) (fun hb => ?_)
  · rw [hb, Bool.true_and]; exact Ex.be (implTree_ex t) (Ex.ret rfl)
  · rw [hb]; exact Ex.ret rfl
theorem reverse_ex (x : List Int) (hx : x.length ≤ 1000000) : Ex (fun n => slices_Reverse_int_int n x x.length) (· = x.reverse) := by
  have key : ∀ (m i j : Nat) (s : List Int), i + j + 1 = x.length → j ≤ m + i → s.length = x.length → (∀ k, k < x.length → s.getD k 0 = if k < i ∨ j < k then x.reverse.getD k 0 else x.getD k 0) → Ex (fun n => slices_Reverse_int_int_L1 x.length n s i j) (· = x.reverse) := by
    intro m
    induction m with
    | zero =>
      intro i j s h1 h2 h3 h4
      refine Ex.succ ?_
      simp only [slices_Reverse_int_int_L1]
      refine Ex.no (decide_eq_false (by omega)) (Ex.ret ?_)
      refine List.ext_getElem (by simpa using h3) (fun k k1 k2 => ?_)
      have := h4 k (by omega)
      rw [List.getD_eq_getElem?_getD, List.getElem?_eq_getElem k1] at this
      simp only [Option.getD_some] at this
      rw [this]
      split
      · rw [List.getD_eq_getElem?_getD, List.getElem?_eq_getElem k2]; rfl
      · have e : k = i ∧ k = j := by omega
        rw [List.getElem_reverse, List.getD_eq_getElem?_getD, List.getElem?_eq_getElem (by omega)]
        simp only [Option.getD_some]
        congr 1; omega
    | succ m ih =>
      intro i j s h1 h2 h3 h4
      rcases Nat.lt_or_ge i j with hij | hij
      · refine Ex.succ ?_
        simp only [slices_Reverse_int_int_L1, Int.toNat_natCast]
        refine Ex.yes (decide_eq_true (by omega)) (Ex.guard (by omega) (Ex.guard (by omega) (Ex.guard (by omega) (Ex.guard (by omega) ?_))))
        have e : w64 ((j : Int) - 1) = ((j - 1 : Nat) : Int) := by rw [w64_id (by omega) (by omega)]; omega
        rw [w64_succ (by omega), e]
        refine ih (i + 1) (j - 1) _ (by omega) (by omega) (by simpa using h3) (fun k hk => ?_)
        rw [getD_set' (by simp; omega), getD_set' (by omega)]
        have r : ∀ a, a < x.length → x.reverse.getD a 0 = x.getD (x.length - 1 - a) 0 := by
          intro a ha
          rw [List.getD_eq_getElem?_getD, List.getElem?_reverse ha, List.getD_eq_getElem?_getD]
        split
        · rename_i hjk
          subst hjk
          rw [if_pos (by omega), h4 i (by omega), if_neg (by omega), r j (by omega)]
          congr 1; omega
        · split
          · rename_i hik
            subst hik
            rw [if_pos (by omega), h4 j (by omega), if_neg (by omega), r i (by omega)]
            congr 1; omega
          · rw [h4 k hk]
            split
            · rw [if_pos (by omega)]
            · rw [if_neg (by omega)]
      · exact ih i j s h1 (by omega) h3 h4
  unfold slices_Reverse_int_int
  refine Ex.be (a := x.reverse) ?_ (Ex.ret rfl)
  rcases Nat.eq_zero_or_pos x.length with h0 | h0
  · have : x = [] := List.eq_nil_of_length_eq_zero h0
    subst this
    refine Ex.succ ?_
    simp only [slices_Reverse_int_int_L1]
    exact Ex.no (by decide) (Ex.ret rfl)
  · have e : w64 ((x.length : Int) - 1) = ((x.length - 1 : Nat) : Int) := by rw [w64_id (by omega) (by omega)]; omega
    rw [e]
    exact key x.length 0 (x.length - 1) x (by omega) (by omega) rfl (fun k hk => by rw [if_neg (by omega)])
theorem implPathTo_ex {t : List Nod} (hl : t.length ≤ 1000000000000) (i : Int) : Ex (fun n => impl_PathTo n t i) (· = if (decide (0 ≤ i ∧ i < t.length) && validT t) = true then nix t i.toNat else []) := by
  unfold impl_PathTo
  refine Ex.be (implNode_ex hl i) ?_
  refine Ex.ite (fun hb => Ex.ret ?_) (fun hb => ?_)
  · rw [notT hb]; rfl
  · have hb := notF hb
    rw [if_pos hb]
    simp only [Bool.and_eq_true, decide_eq_true_eq] at hb
    obtain ⟨⟨h0, h1⟩, hv⟩ := hb
    have h := validT_iff.1 hv
    have hhi := h.hi
    obtain ⟨k, rfl⟩ : ∃ k : Nat, i = (k : Int) := ⟨i.toNat, by omega⟩
    rw [Int.toNat_natCast]
    have hk : k < t.length := by omega
    have key : ∀ i, i < t.length → ∀ r : List Int, r.length + i ≤ 100 → Ex (fun n => impl_PathTo_L1 t n r (i : Int)) (· = r ++ (nix t i).reverse) := by
      intro i
      induction i using Nat.strongRecOn with
      | ind i ih =>
        intro hi r hr
        refine Ex.succ ?_
        simp only [impl_PathTo_L1, Int.toNat_natCast]
        refine Ex.yes (decide_eq_true (by omega)) (Ex.guard (by simp; omega) (Ex.guard (by omega) ?_))
        rcases Nat.eq_zero_or_pos i with rfl | h0
        · have e : (t.getD 0 dnod).parent = -1 := h.rp
          rw [e]
          refine Ex.succ ?_
          simp only [impl_PathTo_L1]
          refine Ex.no (by decide) (Ex.ret ?_)
          rw [nix, ix, dif_neg (by omega)]; simp
        · have p := h.par i h0 hi
          have e : (t.getD i dnod).parent = (((pa t i).toNat : Nat) : Int) := by rw [Int.toNat_of_nonneg p.1]; rfl
          rw [e]
          have := ih _ p.2 (by omega) (r ++ ([(i : Int)].drop 0).take [(i : Int)].length) (by simp; omega)
          refine Ex.mono this ?_
          rintro x rfl
          rw [nix, nix, ix_pos h h0 hi]; simp
    have hlen := nix_len (t := t) k
    have := h.dep k hk
    refine Ex.be (a := (nix t k).reverse) ?_ (Ex.be (reverse_ex _ (by simp; omega)) (Ex.guard (by simp) (Ex.ret (by simp))))
    have := key k hk [] (by simp; omega)
    rwa [List.nil_append] at this
def ib (s : Str) : List Int := s.map fun b => ((b.toNat : Nat) : Int)
theorem ib_app (a b : Str) : ib (a ++ b) = ib a ++ ib b := by simp [ib]
theorem bytes_ib (s : Str) : bytesOf (ib s) = s := by
  induction s with
  | nil => rfl
  | cons a s ih =>
    have : bytesOf (ib (a :: s)) = UInt8.ofNat ((a.toNat : Int)).toNat :: bytesOf (ib s) := rfl
    rw [this, ih, Int.toNat_natCast, UInt8.ofNat_toNat]
theorem ib_ok (s : Str) : ∀ x ∈ ib s, 0 ≤ x ∧ x ≤ 255 := by
  intro x hx
  obtain ⟨b, _, rfl⟩ := List.mem_map.1 hx
  have := UInt8.toNat_lt b
  omega
theorem ib_len (s : Str) : (ib s).length = s.length := by simp [ib]
theorem wByte {s : Str} (hs : s.length ≤ 1000000000000) (c : UInt8) {i : Int} (hi : i = (c.toNat : Int)) : strings_Builder_WriteByte (ib s) i = some (ib (s ++ [c])) := by
  unfold strings_Builder_WriteByte
  rw [guardO_pos ⟨rfl, rfl, by simp [ib]; omega⟩, ib_app, hi]; rfl
theorem wStr {s r : Str} (hs : s.length + r.length ≤ 1000000000000) : strings_Builder_WriteString (ib s) r = some (ib (s ++ r), (r.length : Int)) := by
  unfold strings_Builder_WriteString
  rw [guardO_pos ⟨rfl, rfl, by simp [ib]; omega⟩, ib_app]; rfl
theorem bStr (s : Str) : strings_Builder_String (ib s) = some (s.length, s) := by
  unfold strings_Builder_String
  rw [guardO_pos ⟨rfl, ib_ok s⟩, bytes_ib, ib_len]
/-- the path of a node, as a text -/
def pathT (t : List Nod) (i : Int) : Str := if (decide (0 ≤ i ∧ i < t.length) && validT t) = true then ptx (np t i.toNat) else []
theorem pathT_of {t : List Nod} (h : VT t) {i : Nat} (hi : i < t.length) : pathT t i = ptx (np t i) := by
  rw [pathT, if_pos (by rw [decide_eq_true (by omega), validT_iff.2 h]; rfl), Int.toNat_natCast]
theorem implPathText_ex {t : List Nod} (hl : t.length ≤ 1000000000000) (i : Int) : Ex (fun n => impl_PathText n t i) (· = pathT t i) := by
  unfold impl_PathText
  refine Ex.be (implPathTo_ex hl i) ?_
  rw [pathT]
  cases hb : (decide (0 ≤ i ∧ i < t.length) && validT t) with
  | false => exact Ex.yes rfl (Ex.ret rfl)
  | true =>
    rw [if_pos rfl, if_pos rfl]
    simp only [Bool.and_eq_true, decide_eq_true_eq] at hb
    obtain ⟨⟨h0, h1⟩, hv⟩ := hb
    have h := validT_iff.1 hv
    obtain ⟨k, rfl⟩ : ∃ k : Nat, i = (k : Int) := ⟨i.toNat, by omega⟩
    rw [Int.toNat_natCast]
    have hk : k < t.length := by omega
    have hlen := nix_len (t := t) k
    have hlen2 : (ix t k).length = (nix t k).length := by simp [nix]
    have hd := h.dep k hk
    refine Ex.no (decide_eq_false (by omega)) ?_
    rcases Nat.eq_zero_or_pos k with rfl | hk0
    · have : dp t 0 = 0 := by have := dp_le (t := t) 0; omega
      refine Ex.yes (decide_eq_true (by omega)) (Ex.ret ?_)
      rw [np_zero h]; rfl
    · have := dp_pos h hk0 hk
      refine Ex.no (decide_eq_false (by omega)) (Ex.guard (by omega) (Ex.be (a := ib (fm 47 (np t k))) ?_ (Ex.bc (bStr _) (Ex.ret ?_))))
      · refine up ((nix t k).length - 1) (fun j (x : List Int) => ∃ s : Str, x = ib s ∧ s ++ fm 47 (((ix t k).drop (1 + j)).map (nmo t)) = fm 47 (np t k) ∧ s.length ≤ 5 * j) (f := fun n s i' => impl_PathText_L1 t (nix t k) n s i') ?_ ?_ 0 [] (by omega) ⟨[], rfl, by rw [ix_names]; rfl, by simp⟩
        · rintro j _ hj ⟨s, rfl, h1, h2⟩ next
          obtain ⟨a1, a2⟩ := nix_at h hk (k := 1 + j) (by omega)
          have hnm : (nmo t ((ix t k).getD (1 + j) 0)).length ≤ 4 := by
            rcases Nat.eq_zero_or_pos ((ix t k).getD (1 + j) 0) with e | e
            · rw [e, h.rn]; simp
            · exact name_len (h.nam _ e a2)
          rw [nmo] at hnm
          simp only [impl_PathText_L1, Int.toNat_natCast, a1]
          refine Ex.yes (decide_eq_true (by omega)) (Ex.guard (by omega) (Ex.bc (wByte (by omega) 47 rfl) (Ex.guard (by omega) (Ex.bc (wStr (by simp only [List.length_append, List.length_singleton]; omega)) ?_))))
          rw [w64_succ (by omega)]
          refine next _ ⟨_, rfl, ?_, by simp only [List.length_append, List.length_singleton]; omega⟩
          rw [← h1, drop_at 0 (show 1 + j < (ix t k).length by omega), List.map_cons, fm_cons, nmo]
          simp [Nat.add_assoc]
        · rintro _ ⟨s, rfl, h1, h2⟩
          simp only [impl_PathText_L1]
          refine Ex.no (decide_eq_false (by omega)) (Ex.ret ?_)
          rw [← h1, List.drop_eq_nil_of_le (by omega)]; simp [fm_nil]
      · rw [ptx, if_neg (by rw [np_nil h hk]; omega)]
end
section
open Go
set_option linter.unusedVariables false
theorem decNat_ex : ∀ (u : Nat), u ≤ 9223372036854775807 → Ex (fun n => spec_decimal n (u : Int)) (· = Lib.decDigits u) := by
  intro u
  induction u using Nat.strongRecOn with
  | ind u ih =>
    intro hu
    refine Ex.succ ?_
    simp only [spec_decimal]
    unfold spec_decimal_B
    refine Ex.no (by rw [decide_eq_false (by omega)]; rfl) (Ex.no (decide_eq_false (by omega)) ?_)
    by_cases h : u < 10
    · refine Ex.yes (decide_eq_true (by omega)) (Ex.ret ?_)
      rw [w64_id (by omega) (by omega), u8wrap (by omega) (by omega), dig_small h]
      show [UInt8.ofNat (48 + (u : Int)).toNat] = _
      congr 2
    · have e1 : ((u : Int)).tdiv 10 = ((u / 10 : Nat) : Int) := by rw [Int.tdiv_eq_ediv_of_nonneg (by omega)]; omega
      have e2 : ((u : Int)).tmod 10 = ((u % 10 : Nat) : Int) := by rw [Int.tmod_eq_emod_of_nonneg (by omega)]; omega
      have hlen := digits_len 19 (u / 10) (by omega)
      refine Ex.no (decide_eq_false (by omega)) ?_
      rw [e1, e2, w64_id (n := ((u / 10 : Nat) : Int)) (by omega) (by omega), w64_id (n := 48 + ((u % 10 : Nat) : Int)) (by omega) (by omega), u8wrap (by omega) (by omega)]
      refine Ex.be (ih (u / 10) (by omega) (by omega)) (Ex.guard ?_ (Ex.ret ?_))
      · show (Lib.decDigits (u / 10)).length + 1 ≤ _
        omega
      · rw [dig_big h]
        show _ ++ [UInt8.ofNat (48 + ((u % 10 : Nat) : Int)).toNat] = _
        congr 3
theorem decimal_ex {x : Int} (h0 : -9223372036854775807 ≤ x) (h1 : x ≤ 9223372036854775807) : Ex (fun n => spec_decimal n x) (· = Lib.itoa x) := by
  rcases Int.lt_or_le x 0 with h | h
  · refine Ex.succ ?_
    simp only [spec_decimal]
    unfold spec_decimal_B
    have e : w64 (0 - x) = ((x.natAbs : Nat) : Int) := by rw [w64_id (by omega) (by omega)]; omega
    rw [e]
    have hlen := digits_len 19 x.natAbs (by omega)
    refine Ex.no (by rw [decide_eq_false (p := x = _) (by omega)]; simp) (Ex.yes (decide_eq_true h) (Ex.be (decNat_ex x.natAbs (by omega)) (Ex.guard (by simp; omega) (Ex.ret ?_))))
    unfold Lib.itoa
    rw [if_pos h]; rfl
  · obtain ⟨u, rfl⟩ : ∃ u : Nat, x = (u : Int) := ⟨x.toNat, by omega⟩
    have := decNat_ex u (by omega)
    unfold Lib.itoa
    rw [if_neg (by omega), Int.toNat_natCast]
    exact this
theorem itoa_some {x : Int} (h0 : -9223372036854775808 ≤ x) (h1 : x ≤ 9223372036854775807) : strconv_Itoa x = some (Lib.itoa x) := by
  unfold strconv_Itoa
  rw [guardO_pos ⟨h0, h1⟩]
theorem pcs_len {t : List Nod} (h : VT t) {i : Nat} (hi : i < t.length) : (pcs t i).length ≤ 30 := by
  have h1 := ptx_len h hi
  have h2 := h.val i hi
  have h3 := itoa_len h2.1 h2.2
  rw [pcs]; simp; omega
theorem sep_len {t : List Nod} (h : VT t) {k : Nat} (hk : k ≤ t.length) : (sepk (pcs t) k).length ≤ 32 * k := sepk_len (B := 30) (fun j hj => pcs_len h (by omega))
theorem specFmt_ex {t : List Nod} (h : VT t) : Ex (fun n => spec_formatTree n t) (· = fmtT t) := by
  have hhi := h.hi
  unfold spec_formatTree
  refine Ex.be (a := fmtT t) ?_ (Ex.ret rfl)
  refine up t.length (fun k (s : Str) => s = sepk (pcs t) k) (f := fun n s i => spec_formatTree_L1 t n s i) ?_ ?_ 0 [] (Nat.zero_le _) rfl
  · rintro k _ hk rfl next
    have hl := sep_len h (Nat.le_of_lt hk)
    have h1 := ptx_len h hk
    have h2 := h.val k hk
    have h3 := itoa_len h2.1 h2.2
    simp only [spec_formatTree_L1, Int.toNat_natCast]
    refine Ex.yes (decide_eq_true (by omega)) (Ex.be (a := sepk (pcs t) k ++ if 0 < k then [59, 32] else []) ?_ ?_)
    · refine Ex.ite (fun hb => ?_) (fun hb => Ex.ret ?_)
      · have := of_decide_eq_true hb
        rw [if_pos (by omega)]
        exact Ex.guard (by simp; omega) (Ex.ret rfl)
      · have := of_decide_eq_false hb
        rw [if_neg (by omega), List.append_nil]
    · have hl2 : (sepk (pcs t) k ++ if 0 < k then [59, 32] else []).length ≤ 32 * k + 2 := by
        rw [List.length_append]; split <;> simp <;> omega
      generalize hg : (sepk (pcs t) k ++ if 0 < k then [59, 32] else []) = s at hl2 ⊢
      refine Ex.be (specPathText_ex h hk) (Ex.guard (by omega) (Ex.guard (by simp only [List.length_append, List.length_singleton]; omega) (Ex.guard (by omega) (Ex.be (decimal_ex (x := (t.getD k dnod).value) (by have := h2.1; simp only [va] at this; omega) (by have := h2.2; simp only [va] at this; omega)) (Ex.guard ?_ ?_)))))
      · have : (Lib.itoa (t.getD k dnod).value).length ≤ 5 := h3
        simp only [List.length_append, List.length_singleton]; omega
      · rw [w64_succ (by omega)]
        refine next _ ?_
        rw [sepk, hg, pcs, va]
        simp
  · rintro _ rfl
    simp only [spec_formatTree_L1]
    exact Ex.no (decide_eq_false (by omega)) (Ex.ret rfl)
def fmtR (t : List Nod) : Str := if validT t = true then fmtT t else []
theorem specFormat_ex {t : List Nod} (hn : NL t) (hl : t.length ≤ 400000000) : Ex (fun n => spec_FormatTree n t) (· = fmtR t) := by
  unfold spec_FormatTree fmtR
  refine Ex.be (specTree_ex hn hl) ?_
  cases hv : validT t with
  | false => exact Ex.yes rfl (Ex.ret rfl)
  | true => rw [if_pos rfl]; exact Ex.no rfl (Ex.be (specFmt_ex (validT_iff.1 hv)) (Ex.ret rfl))
theorem implFormat_ex (t : List Nod) : Ex (fun n => impl_FormatTree n t) (· = fmtR t) := by
  unfold impl_FormatTree fmtR
  refine Ex.be (implTree_ex t) ?_
  cases hv : validT t with
  | false => exact Ex.yes rfl (Ex.ret rfl)
  | true =>
    have h := validT_iff.1 hv
    have hhi := h.hi
    rw [if_pos rfl]
    refine Ex.no rfl (Ex.be (a := ib (fmtT t)) ?_ (Ex.bc (bStr _) (Ex.ret rfl)))
    refine up t.length (fun k (x : List Int) => x = ib (sepk (pcs t) k)) (f := fun n x i => impl_FormatTree_L1 t n x i) ?_ ?_ 0 [] (Nat.zero_le _) rfl
    · rintro k _ hk rfl next
      have hl := sep_len h (Nat.le_of_lt hk)
      have h1 := ptx_len h hk
      have h2 := h.val k hk
      have h3 := itoa_len h2.1 h2.2
      simp only [impl_FormatTree_L1, Int.toNat_natCast]
      refine Ex.yes (decide_eq_true (by omega)) (Ex.guard (by omega) (Ex.be (a := ib (sepk (pcs t) k ++ if 0 < k then [59, 32] else [])) ?_ ?_))
      · refine Ex.ite (fun hb => ?_) (fun hb => Ex.ret ?_)
        · have := of_decide_eq_true hb
          rw [if_pos (by omega)]
          exact Ex.bc (wStr (by simp; omega)) (Ex.ret rfl)
        · have := of_decide_eq_false hb
          rw [if_neg (by omega), List.append_nil]
      · have hl2 : (sepk (pcs t) k ++ if 0 < k then [59, 32] else []).length ≤ 32 * k + 2 := by
          rw [List.length_append]; split <;> simp <;> omega
        generalize hg : (sepk (pcs t) k ++ if 0 < k then [59, 32] else []) = s at hl2 ⊢
        have pe := implPathText_ex (t := t) (by omega) (k : Int)
        rw [pathT_of h hk] at pe
        have h3' : (Lib.itoa (t.getD k dnod).value).length ≤ 5 := h3
        refine Ex.be pe (Ex.bc (wStr (by omega)) (Ex.bc (wByte (by simp only [List.length_append]; omega) 32 rfl) (Ex.bc (itoa_some (by have := h2.1; simp only [va] at this; omega) (by have := h2.2; simp only [va] at this; omega)) (Ex.bc (wStr (by simp only [List.length_append, List.length_singleton]; omega)) ?_))))
        rw [w64_succ (by omega)]
        refine next _ ?_
        rw [sepk, hg, pcs, va]
        simp
    · rintro _ rfl
      simp only [impl_FormatTree_L1]
      exact Ex.no (decide_eq_false (by omega)) (Ex.ret rfl)
end
section
open Go
structure Rd (x1 : List Int) (k2 : Nat) : Prop where
  by_ : ∀ b ∈ x1, 0 ≤ b ∧ b ≤ 255
  le : k2 ≤ x1.length
  le2 : k2 ≤ 2000
theorem xor_small {a b : Int} (ha : 0 ≤ a) (ha2 : a < 4611686018427387904) (hb : 0 ≤ b) (hb2 : b < 4611686018427387904) :
    0 ≤ w64 (BitVec.ofInt 64 a ^^^ BitVec.ofInt 64 b).toNat := by
  rw [BitVec.toNat_xor, BitVec.toNat_ofInt, BitVec.toNat_ofInt]
  have e1 : (a % ((2 ^ 64 : Nat) : Int)).toNat = a.toNat := by
    rw [Int.emod_eq_of_lt ha (by omega)]
  have e2 : (b % ((2 ^ 64 : Nat) : Int)).toNat = b.toNat := by
    rw [Int.emod_eq_of_lt hb (by omega)]
  rw [e1, e2]
  have := Nat.xor_lt_two_pow (x := a.toNat) (y := b.toNat) (n := 62) (by omega) (by omega)
  rw [w64_id (by omega) (by omega)]
  omega
theorem byte_at {x1 : List Int} {k2 : Nat} (h : Rd x1 k2) (j : Nat) (hj : j < x1.length) : 0 ≤ x1.getD j 0 ∧ x1.getD j 0 ≤ 255 := h.by_ _ (getD_mem hj)
theorem pick_ok {x1 : List Int} {k2 : Nat} (h : Rd x1 k2) {i m : Int} (h0 : 0 ≤ i) (h1 : i ≤ 1000000000) (hm : m ≤ 1000000000) :
    ∃ r, spec_reader_pick x1 k2 i m = some r ∧ 0 ≤ r ∧ (1 ≤ m → r < m) ∧ (m < 1 → r = 0) := by
  have hle := h.le
  have hle2 := h.le2
  have e0 : w64 (w64 (i + 1) - 1) = i := by rw [w64_id (n := i + 1) (by omega) (by omega), w64_id (by omega) (by omega)]; omega
  unfold spec_reader_pick
  rw [e0]
  by_cases hm1 : m < 1
  · simp only [hm1, decide_true, Bool.true_or, iteO_true]
    exact ⟨0, rfl, by omega, by omega, fun _ => rfl⟩
  · by_cases hk : k2 = 0
    · subst hk
      simp only [Int.natCast_zero, decide_true, Bool.or_true, iteO_true]
      exact ⟨0, rfl, by omega, by omega, fun _ => rfl⟩
    · have e1 : (decide (m < 1) || decide (((k2 : Nat) : Int) = 0)) = false := by
        simp only [Bool.or_eq_false_iff, decide_eq_false_iff_not]; omega
      rw [e1]
      simp only [iteO_false]
      by_cases hlt : i < (k2 : Int)
      · rw [decide_eq_true hlt]
        simp only [iteO_true]
        obtain ⟨b1, b2⟩ := byte_at h i.toNat (by omega)
        rw [guardO_pos ⟨h0, hlt⟩, guardO_pos (by omega), w64_id (by omega) (by omega), Int.tmod_eq_emod_of_nonneg b1]
        exact ⟨_, rfl, Int.emod_nonneg _ (by omega), fun _ => Int.emod_lt_of_pos _ (by omega), by omega⟩
      · rw [decide_eq_false hlt]
        simp only [iteO_false]
        have d1 : ∀ z : Int, 0 ≤ z → 0 ≤ z.tmod (k2 : Int) ∧ z.tmod (k2 : Int) < (k2 : Int) := fun z hz => by
          rw [Int.tmod_eq_emod_of_nonneg hz]
          exact ⟨Int.emod_nonneg _ (by omega), Int.emod_lt_of_pos _ (by omega)⟩
        have e2 : w64 (w64 (i * 7) + 3) = i * 7 + 3 := by rw [w64_id (n := i * 7) (by omega) (by omega), w64_id (by omega) (by omega)]
        rw [e2]
        obtain ⟨p1, p2⟩ := d1 i h0
        obtain ⟨q1, q2⟩ := d1 (i * 7 + 3) (by omega)
        rw [guardO_pos (by omega), guardO_pos ⟨p1, p2⟩, guardO_pos (by omega), guardO_pos ⟨q1, q2⟩, guardO_pos (by omega), guardO_pos (by omega)]
        obtain ⟨a1, a2⟩ := byte_at h (i.tmod (k2 : Int)).toNat (by omega)
        obtain ⟨c1, c2⟩ := byte_at h ((i * 7 + 3).tmod (k2 : Int)).toNat (by omega)
        generalize x1.getD (i.tmod (k2 : Int)).toNat 0 = A at a1 a2 ⊢
        generalize x1.getD ((i * 7 + 3).tmod (k2 : Int)).toNat 0 = C at c1 c2 ⊢
        have t1 : 0 ≤ i.tdiv (k2 : Int) ∧ i.tdiv (k2 : Int) ≤ i := by
          rw [Int.tdiv_eq_ediv_of_nonneg h0]
          exact ⟨Int.ediv_nonneg h0 (by omega), Int.ediv_le_self _ h0⟩
        generalize i.tdiv (k2 : Int) = D at t1 ⊢
        obtain ⟨t1, t2⟩ := t1
        rw [w64_id (n := A) (by omega) (by omega), w64_id (n := A * 131) (by omega) (by omega), w64_id (n := C) (by omega) (by omega), w64_id (n := C * 1117) (by omega) (by omega), w64_id (n := A * 131 + C * 1117) (by omega) (by omega), w64_id (n := i * 29) (by omega) (by omega), w64_id (n := A * 131 + C * 1117 + i * 29) (by omega) (by omega), w64_id (n := D) (by omega) (by omega), w64_id (n := D * 53) (by omega) (by omega), w64_id (n := A * 131 + C * 1117 + i * 29 + D * 53) (by omega) (by omega)]
        generalize hS : A * 131 + C * 1117 + i * 29 + D * 53 = S
        have s1 : 0 ≤ S := by omega
        have s2 : S < 4611686018427387904 := by omega
        have s3 : 0 ≤ S.tdiv 64 ∧ S.tdiv 64 ≤ S := by
          rw [Int.tdiv_eq_ediv_of_nonneg s1]
          exact ⟨Int.ediv_nonneg s1 (by omega), Int.ediv_le_self _ s1⟩
        rw [w64_id (n := S.tdiv 64) (by omega) (by omega)]
        have := xor_small s1 s2 s3.1 (by omega)
        refine ⟨_, rfl, ?_, fun _ => ?_, by omega⟩
        · rw [Int.tmod_eq_emod_of_nonneg this]; exact Int.emod_nonneg _ (by omega)
        · rw [Int.tmod_eq_emod_of_nonneg this]; exact Int.emod_lt_of_pos _ (by omega)
/-- a pick among m numbers, and the reader's place behind it -/
theorem pick_ex {x1 : List Int} {k2 : Nat} (h : Rd x1 k2) {i m : Int} (h0 : 0 ≤ i) (h1 : i ≤ 1000000000) (hm : m ≤ 1000000000) (hp : 1 ≤ m) :
    Ex (fun _ => spec_reader_pick x1 k2 i m) (fun r => 0 ≤ r ∧ r < m) := by
  obtain ⟨r, e, r0, r1, _⟩ := pick_ok h h0 h1 hm
  exact Ex.const e ⟨r0, r1 hp⟩
theorem one_ex {x1 : List Int} {k2 : Nat} (h : Rd x1 k2) {i : Int} {l : List Int} (h0 : 0 ≤ i) (h1 : i ≤ 1000000000) (hl : l.length ≤ 1000000000) (hp : 1 ≤ l.length) :
    Ex (fun _ => spec_reader_one x1 k2 i l) (fun r => r.1 = i + 1 ∧ r.2 ∈ l) := by
  unfold spec_reader_one
  refine Ex.bind (pick_ex h h0 h1 (by omega) (by omega)) (fun r hr => ?_)
  refine Ex.guard ⟨hr.1, hr.2⟩ ?_
  exact Ex.ret ⟨w64_id (by omega) (by omega), getD_mem (by omega)⟩
theorem newReader_ex {x1 : List Int} (h : ∀ b ∈ x1, 0 ≤ b ∧ b ≤ 255) (hl : x1.length ≤ 1000000000) : Ex (fun _ => spec_newReader x1) (fun k => Rd x1 k) := by
  unfold spec_newReader
  refine Ex.bind (P := fun k => Rd x1 k) ?_ (fun k hk => Ex.ret hk)
  refine Ex.ite (fun hb => ?_) (fun hb => ?_)
  · have := of_decide_eq_true hb
    refine Ex.guard (by omega) (Ex.ret ⟨h, by omega, Nat.le_refl _⟩)
  · have := of_decide_eq_false hb
    exact Ex.ret ⟨h, Nat.le_refl _, by omega⟩
end
section
open Go
theorem someValue_ex {x1 : List Int} {k2 : Nat} (h : Rd x1 k2) {i : Int} (h0 : 0 ≤ i) (h1 : i ≤ 900000000) :
    Ex (fun _ => spec_someValue x1 k2 i) (fun r => r.1 = i + 3 ∧ -1000 ≤ r.2 ∧ r.2 ≤ 1000) := by
  unfold spec_someValue
  refine Ex.bind (pick_ex h h0 (by omega) (by omega) (by omega)) (fun a ha => ?_)
  have e1 : w64 (i + 1) = i + 1 := w64_id (by omega) (by omega)
  have e2 : w64 (i + 1 + 1) = i + 2 := by rw [w64_id (by omega) (by omega)]; omega
  rw [e1, e2]
  refine Ex.bind (pick_ex h (by omega) (by omega) (by omega) (by omega)) (fun b hb => ?_)
  refine Ex.bind (one_ex h (by omega) (by omega) (by simp) (by simp)) ?_
  rintro ⟨c, d⟩ ⟨h1, h2⟩
  refine Ex.ret ⟨by simp at h1 ⊢; omega, ?_⟩
  have e3 : w64 (w64 (4 * b) - 500) = 4 * b - 500 := by rw [w64_id (n := 4 * b) (by omega) (by omega), w64_id (by omega) (by omega)]
  simp only [e3, List.mem_cons, List.not_mem_nil, or_false] at h2
  simp only
  omega
end
section
open Go
def addT (t : List Nod) (x : Nod) : List Nod × Int × Bool := if validT t = true ∧ t.length ≠ 12 ∧ validT (t ++ [x]) = true then (t ++ [x], (t.length : Int), true) else ([], -1, false)
theorem NL.snoc {t : List Nod} (h : NL t) (hl : t.length ≤ 1000000000) {x : Nod} (hx : x.name.length ≤ 1000000000000) : NL (t ++ [x]) := by
  refine ⟨by simp; omega, fun y hy => ?_⟩
  rcases List.mem_append.1 hy with h1 | h1
  · exact h.2 y h1
  · rw [List.mem_singleton.1 h1]; exact hx
theorem specAdd_ex {t : List Nod} (hn : NL t) (hl : t.length ≤ 1000000) (p : Int) {s : Str} (hs : s.length ≤ 1000000000000) (v : Int) : Ex (fun n => spec_AddNode n t p s v) (· = addT t ⟨p, s, v⟩) := by
  unfold spec_AddNode
  refine Ex.be (specTree_ex hn (by omega)) ?_
  refine Ex.ite (fun h => Ex.ret ?_) (fun h => ?_)
  · simp only [Bool.or_eq_true, decide_eq_true_eq] at h
    rw [addT, if_neg]
    rintro ⟨h1, h2, _⟩
    rw [h1] at h
    rcases h with h | h
    · cases h
    · omega
  · simp only [Bool.or_eq_false_iff, decide_eq_false_iff_not] at h
    have h1 := notF h.1
    rw [view_all, List.nil_append]
    refine Ex.guard ⟨rfl, rfl, by simp; omega⟩ (Ex.guard ⟨rfl, rfl, by simp; omega⟩ ?_)
    rw [show (([(⟨p, s, v⟩ : Nod)].drop 0).take [(⟨p, s, v⟩ : Nod)].length) = [(⟨p, s, v⟩ : Nod)] from rfl]
    refine Ex.be (specTree_ex (hn.snoc (by omega) hs) (by simp; omega)) ?_
    refine Ex.ite (fun h2 => Ex.ret ?_) (fun h2 => Ex.ret ?_)
    · rw [addT, if_neg]
      rintro ⟨_, _, h3⟩
      rw [h3] at h2; cases h2
    · rw [addT, if_pos ⟨h1, by omega, notF h2⟩]
theorem of_ex {x1 : List Int} {k2 : Nat} (h : Rd x1 k2) {i : Int} {l : List Str} (h0 : 0 ≤ i) (h1 : i ≤ 1000000000) (hl : l.length ≤ 1000000000) (hp : 1 ≤ l.length) :
    Ex (fun _ => spec_reader_of x1 k2 i l) (fun r => r.1 = i + 1 ∧ r.2 ∈ l) := by
  unfold spec_reader_of
  refine Ex.bind (pick_ex h h0 h1 (by omega) (by omega)) (fun r hr => ?_)
  refine Ex.guard ⟨hr.1, hr.2⟩ ?_
  exact Ex.ret ⟨w64_id (by omega) (by omega), getD_mem (by omega)⟩
theorem someName_ex {x1 : List Int} {k2 : Nat} (h : Rd x1 k2) {i : Int} (h0 : 0 ≤ i) (h1 : i ≤ 900000000) : Ex (fun _ => spec_someName x1 k2 i) (fun r => r.1 = i + 1 ∧ r.2.length ≤ 5) := by
  unfold spec_someName
  refine Ex.bind (of_ex h h0 (by omega) (by simp) (by simp)) ?_
  rintro ⟨a, s⟩ ⟨e, hs⟩
  refine Ex.ret ⟨e, ?_⟩
  simp only [List.mem_cons, List.not_mem_nil, or_false] at hs
  rcases hs with rfl | rfl | rfl | rfl | rfl | rfl <;> simp
/-- a drawn tree -/
structure GT (t : List Nod) : Prop where
  lo : 1 ≤ t.length
  hi : t.length ≤ 12
  nm : ∀ x ∈ t, x.name.length ≤ 5
theorem GT.nl {t : List Nod} (h : GT t) : NL t := ⟨by have := h.hi; omega, fun x hx => by have := h.nm x hx; omega⟩
theorem addT_GT {t : List Nod} (h : GT t) {x : Nod} (hx : x.name.length ≤ 5) : GT (if (addT t x).2.2 = true then (addT t x).1 else t) := by
  rw [addT]
  split
  · rename_i hc
    rw [if_pos rfl]
    refine ⟨by simp, ?_, fun y hy => ?_⟩
    · have := hc.2.2
      simp only [validT, Bool.and_eq_true, decide_eq_true_eq] at this
      exact this.1.2
    · rcases List.mem_append.1 hy with h1 | h1
      · exact h.nm y h1
      · rw [List.mem_singleton.1 h1]; exact hx
  · rw [if_neg (by simp)]; exact h
theorem someTree_loop {x1 : List Int} {k2 : Nat} (h : Rd x1 k2) : ∀ (m : Nat) (i : Int) (t : List Nod), 0 ≤ i → i + 5 * m ≤ 800000000 → GT t →
    Ex (fun n => spec_someTree_L1 k2 x1 n i t (m : Int)) (fun r => i ≤ r.1 ∧ r.1 ≤ i + 5 * m ∧ GT r.2)
  | 0, i, t, h0, h1, ht => by
    refine Ex.succ ?_
    simp only [spec_someTree_L1]
    exact Ex.no rfl (Ex.ret ⟨Int.le_refl _, by omega, ht⟩)
  | m + 1, i, t, h0, h1, ht => by
    refine Ex.succ ?_
    simp only [spec_someTree_L1]
    have hlo := ht.lo
    have hhi := ht.hi
    refine Ex.yes (decide_eq_true (by omega)) ?_
    refine Ex.bind (pick_ex h h0 (by omega) (by omega) (by omega)) (fun a ha => ?_)
    rw [w64_id (n := i + 1) (by omega) (by omega)]
    refine Ex.bind (someName_ex h (by omega) (by omega)) ?_
    rintro ⟨j, s⟩ ⟨hj, hs⟩
    simp only at hj hs ⊢
    subst hj
    refine Ex.bind (someValue_ex h (by omega) (by omega)) ?_
    rintro ⟨j, v⟩ ⟨hj, hv⟩
    simp only at hj hv ⊢
    subst hj
    refine Ex.be (specAdd_ex ht.nl (by omega) _ (by omega) _) ?_
    have hg := addT_GT ht (x := ⟨a, s, v⟩) hs
    generalize addT t ⟨a, s, v⟩ = r at hg
    obtain ⟨t', p, b⟩ := r
    simp only at hg ⊢
    refine Ex.be (a := if b = true then t' else t) ?_ ?_
    · cases b with
      | true => exact Ex.yes rfl (Ex.ret rfl)
      | false => exact Ex.no rfl (Ex.ret rfl)
    · have e : w64 (((m + 1 : Nat) : Int) - 1) = (m : Int) := by rw [w64_id (by omega) (by omega)]; omega
      rw [e]
      refine Ex.mono (someTree_loop h m _ _ (by omega) (by omega) hg) ?_
      rintro r ⟨h2, h3, h4⟩
      exact ⟨by omega, by omega, h4⟩
theorem someTree_ex {x1 : List Int} {k2 : Nat} (h : Rd x1 k2) {i : Int} (h0 : 0 ≤ i) (h1 : i ≤ 700000000) : Ex (fun n => spec_someTree n x1 k2 i) (fun r => i ≤ r.1 ∧ r.1 ≤ i + 100 ∧ GT r.2) := by
  unfold spec_someTree
  refine Ex.bind (someValue_ex h h0 (by omega)) ?_
  rintro ⟨j, v⟩ ⟨hj, hv⟩
  simp only at hj hv ⊢
  subst hj
  refine Ex.bind (one_ex h (by omega) (by omega) (by simp) (by simp)) ?_
  rintro ⟨j, c⟩ ⟨hj, hc⟩
  simp only at hj hc ⊢
  subst hj
  simp only [List.mem_cons, List.not_mem_nil, or_false] at hc
  obtain ⟨m, rfl, hm⟩ : ∃ m : Nat, c = (m : Int) ∧ m ≤ 16 := ⟨c.toNat, by omega, by omega⟩
  refine Ex.bind (someTree_loop h m _ _ (by omega) (by omega) ⟨by simp, by simp, by simp⟩) ?_
  rintro ⟨j, t⟩ ⟨h2, h3, h4⟩
  simp only at h2 h3 h4 ⊢
  exact Ex.ret ⟨by simp only; omega, by simp only; omega, h4⟩
/-- a drawn row of nodes and a window on it -/
structure GR (x : List Nod) (k l : Nat) : Prop where
  hi : x.length ≤ 13
  nm : ∀ y ∈ x, y.name.length ≤ 5
  vw : k + l ≤ x.length
theorem GR.len {x : List Nod} {k l : Nat} (h : GR x k l) : ((x.drop k).take l).length ≤ 13 := by
  have := h.hi; simp; omega
theorem GR.names {x : List Nod} {k l : Nat} (h : GR x k l) : ∀ y ∈ (x.drop k).take l, y.name.length ≤ 5 := fun y hy => h.nm y (List.mem_of_mem_drop (List.mem_of_mem_take hy))
theorem GR.nl {x : List Nod} {k l : Nat} (h : GR x k l) : NL ((x.drop k).take l) := ⟨by have := h.len; omega, fun y hy => by have := h.names y hy; omega⟩
theorem GT.set {t : List Nod} (h : GT t) {i : Nat} {x : Nod} (hx : x.name.length ≤ 5) : GR (t.set i x) 0 (t.set i x).length := by
  refine ⟨by have := h.hi; simp; omega, fun y hy => ?_, by omega⟩
  rcases List.mem_or_eq_of_mem_set hy with h1 | rfl
  · exact h.nm y h1
  · exact hx
theorem anyTree_loop {x1 : List Int} {k2 : Nat} {j : Int} : ∀ (m : Nat) (t : List Nod), t.length + m = 13 → (∀ y ∈ t, y.name.length ≤ 5) →
    Ex (fun n => spec_anyTree_L1 k2 j x1 n t) (fun r => r.length ≤ 13 ∧ ∀ y ∈ r, y.name.length ≤ 5)
  | 0, t, h1, h2 => by
    refine Ex.succ ?_
    simp only [spec_anyTree_L1]
    exact Ex.no (decide_eq_false (by omega)) (Ex.ret ⟨by omega, h2⟩)
  | m + 1, t, h1, h2 => by
    refine Ex.succ ?_
    simp only [spec_anyTree_L1]
    refine Ex.yes (decide_eq_true (by omega)) (Ex.guard (by simp; omega) ?_)
    refine anyTree_loop m _ (by simp; omega) (fun y hy => ?_)
    rcases List.mem_append.1 hy with h3 | h3
    · exact h2 y h3
    · rw [List.mem_singleton.1 h3]; simp
theorem anyTree_ex {x1 : List Int} {k2 : Nat} (h : Rd x1 k2) {i : Int} (h0 : 0 ≤ i) (h1 : i ≤ 600000000) :
    Ex (fun n => spec_anyTree n x1 k2 i) (fun r => (i ≤ r.1 ∧ r.1 ≤ i + 200) ∧ GR r.2.1 r.2.2.1 r.2.2.2) := by
  unfold spec_anyTree
  refine Ex.bind (someTree_ex h h0 (by omega)) ?_
  rintro ⟨j, t⟩ ⟨h2, h3, ht⟩
  simp only at h2 h3 ht ⊢
  have hlo := ht.lo
  have hhi := ht.hi
  have hnm := ht.nm
  refine Ex.bind (pick_ex h (by omega) (by omega) (by omega) (by omega)) (fun p hp => ?_)
  rw [w64_id (n := j + 1) (by omega) (by omega)]
  refine Ex.bind (pick_ex h (by omega) (by omega) (by omega) (by omega)) (fun c hc => ?_)
  rw [w64_id (n := j + 1 + 1) (by omega) (by omega)]
  have hpn : (t.getD p.toNat dnod).name.length ≤ 5 := hnm _ (getD_mem (by omega))
  refine Ex.bind (P := fun r => (i ≤ r.1 ∧ r.1 ≤ i + 200) ∧ GR r.2.1 r.2.2.1 r.2.2.2) ?_ (fun r hr => Ex.ret hr)
  refine Ex.ite (fun _ => ?_) (fun _ => ?_)
  · refine Ex.bind (pick_ex h (by omega) (by omega) (by omega) (by omega)) (fun q hq => ?_)
    refine Ex.guard ⟨hp.1, hp.2⟩ (Ex.ret ⟨?_, ht.set hpn⟩)
    simp only
    rw [w64_id (by omega) (by omega)]; omega
  · refine Ex.bind (P := fun r => (i ≤ r.1 ∧ r.1 ≤ i + 200) ∧ GR r.2.1 r.2.2.1 r.2.2.2) ?_ (fun r hr => Ex.ret hr)
    refine Ex.ite (fun _ => ?_) (fun _ => ?_)
    · refine Ex.bind (of_ex h (by omega) (by omega) (by simp) (by simp)) ?_
      rintro ⟨q, s⟩ ⟨hq, hs⟩
      simp only at hq hs ⊢
      refine Ex.guard ⟨hp.1, hp.2⟩ (Ex.ret ⟨by simp only; omega, ht.set ?_⟩)
      simp only [List.mem_cons, List.not_mem_nil, or_false] at hs
      rcases hs with rfl | rfl | rfl | rfl <;> simp
    · refine Ex.bind (P := fun r => (i ≤ r.1 ∧ r.1 ≤ i + 200) ∧ GR r.2.1 r.2.2.1 r.2.2.2) ?_ (fun r hr => Ex.ret hr)
      refine Ex.ite (fun _ => ?_) (fun _ => ?_)
      · refine Ex.bind (one_ex h (by omega) (by omega) (by simp) (by simp)) ?_
        rintro ⟨q, s⟩ ⟨hq, hs⟩
        simp only at hq hs ⊢
        exact Ex.guard ⟨hp.1, hp.2⟩ (Ex.ret ⟨by simp only; omega, ht.set hpn⟩)
      · refine Ex.bind (P := fun r => GR r.1 r.2.1 r.2.2) ?_ (fun r hr => Ex.ret ⟨by simp only; omega, hr⟩)
        refine Ex.ite (fun _ => Ex.guard (by omega) (Ex.ret ⟨by simp only; omega, hnm, by simp only; omega⟩)) (fun _ => ?_)
        refine Ex.bind (P := fun r => r.length ≤ 13 ∧ ∀ y ∈ r, y.name.length ≤ 5) ?_ (fun r hr => Ex.ret ⟨hr.1, hr.2, by simp⟩)
        refine Ex.ite (fun _ => ?_) (fun _ => Ex.ret ⟨by omega, hnm⟩)
        exact Ex.bind (anyTree_loop (13 - t.length) t (by omega) hnm) (fun r hr => Ex.ret hr)
end
section
open Go
set_option linter.unusedVariables false
/-- the same parents and names -/
theorem np_congr {t u : List Nod} {n : Nat} (h1 : ∀ i, i < n → pa u i = pa t i) (h2 : ∀ i, i < n → nmo u i = nmo t i) : ∀ i, i < n → np u i = np t i := by
  intro i
  induction i using Nat.strongRecOn with
  | ind i ih =>
    intro hi
    have e1 := h1 i hi
    have e2 := h2 i hi
    simp only [pa, nmo] at e1 e2
    rw [np.eq_1 u i, np.eq_1 t i, e1, e2]
    split
    · rename_i h; rw [ih _ h.2 (by omega)]
    · rfl
variable {t : List Nod}
/-- a node more -/
theorem app_at {x : Nod} {i : Nat} (hi : i < t.length) : (t ++ [x]).getD i dnod = t.getD i dnod := by
  rw [List.getD_eq_getElem?_getD, List.getElem?_append_left hi, List.getD_eq_getElem?_getD]
theorem app_np {x : Nod} {i : Nat} (hi : i < t.length) : np (t ++ [x]) i = np t i := np_congr (n := t.length) (fun i hi => by rw [pa, app_at hi]; rfl) (fun i hi => by rw [nmo, app_at hi]; rfl) i hi
end
section
open Go
set_option linter.unusedVariables false
theorem VT_pre {t : List Nod} {x : Nod} (h : VT (t ++ [x])) (hl : 1 ≤ t.length) : VT t := by
  have hlen : (t ++ [x]).length = t.length + 1 := by simp
  have hhi := h.hi
  refine ⟨hl, by omega, fun i hi => ?_, ?_, ?_, fun i h0 hi => ?_, fun i h0 hi => ?_, fun i j h0 hij hj => ?_, fun i hi => ?_⟩
  · have := h.val i (by omega); rwa [va, app_at hi] at this
  · have := h.rp; rwa [pa, app_at hl] at this
  · have := h.rn; rwa [nmo, app_at hl] at this
  · have := h.par i h0 (by omega); rwa [pa, app_at hi] at this
  · have := h.nam i h0 (by omega); rwa [nmo, app_at hi] at this
  · have := h.sib i j h0 hij (by omega)
    rwa [pa, pa, nmo, nmo, app_at hj, app_at (show i < t.length by omega)] at this
  · have := h.dep i (by omega)
    rwa [← np_len, app_np hi, np_len] at this
theorem pcs_app {t : List Nod} {x : Nod} {i : Nat} (hi : i < t.length) : pcs (t ++ [x]) i = pcs t i := by
  rw [pcs, pcs, app_np hi, va, app_at hi]; rfl
theorem getD_pre {α : Type} {a b : List α} {d : α} : (a ++ b).getD a.length d = b.getD 0 d := by
  rw [List.getD_eq_getElem?_getD, List.getElem?_append_right (Nat.le_refl _), List.getD_eq_getElem?_getD, Nat.sub_self]
theorem law_FnTreeTextPath (x0 : List Int) (h0 : x0.length ≤ 9223372036854775807 ∧ ∀ x ∈ x0, RC.wf .u8 x) : ∃ n, laws_FnTreeTextPath n x0 = some true := by
  refine Ex.get ?_
  unfold laws_FnTreeTextPath
  refine Ex.code rfl (fun hl => ?_)
  unfold spec_DrawFormatTree
  refine Ex.bind (P := fun r => GR r.1 r.2.1 r.2.2) ?_ ?_
  · refine Ex.bind (newReader_ex (u8_wf h0.2) (by omega)) (fun k hk => ?_)
    refine Ex.bind (anyTree_ex hk (Int.le_refl 0) (by omega)) ?_
    rintro ⟨i, x, a, b⟩ ⟨h1, h2⟩
    exact Ex.ret h2
  · rintro ⟨x, k1, k2⟩ g
    simp only at g ⊢
    have l1 := g.len
    have hk2 : k2 = ((x.drop k1).take k2).length := by have := g.vw; simp; omega
    have n1 := g.nl
    have hsub : ∀ m, m ≤ k2 → (x.drop k1).take m = ((x.drop k1).take k2).take m := fun m hm => by
      rw [List.take_take, Nat.min_eq_left hm]
    generalize hA : (x.drop k1).take k2 = t at *
    have sp : ∀ {g : Nat → Str → Option Bool} {Q : Bool → Prop}, Ex (fun n => g n (fmtR t)) Q → Ex (fun n => bindO (spec_FormatTree n t) (g n)) Q := fun k => Ex.be (specFormat_ex n1 (by omega)) k
    refine Ex.be (implFormat_ex t) (sp ?_)
    refine Ex.ite (fun _ => sp (Ex.ret (by simp))) (fun hb => ?_)
    have hb2 : fmtR t ≠ [] ∧ ¬ ((k2 : Nat) : Int) < 2 := by simpa using hb
    obtain ⟨hne, hk22⟩ := hb2
    have hv : validT t = true := by
      rw [fmtR] at hne
      split at hne
      · assumption
      · exact absurd rfl hne
    have h := validT_iff.1 hv
    obtain ⟨m, hm⟩ : ∃ m, k2 = m + 1 := ⟨k2 - 1, by omega⟩
    have e1 : w64 ((k2 : Int) - 1) = (m : Int) := by rw [w64_id (by omega) (by omega)]; omega
    have ht : t = t.take m ++ [t.getD m dnod] := by
      have := List.take_append_drop m t
      rw [drop_at dnod (show m < t.length by omega), List.drop_eq_nil_of_le (by omega)] at this
      exact this.symm
    have hlm : (t.take m).length = m := by simp; omega
    rw [e1]
    simp only [Int.toNat_natCast, hsub m (by omega)]
    generalize t.take m = u at *
    generalize t.getD m dnod = y at *
    have hu : VT u := VT_pre (ht ▸ h) (by omega)
    have hfmt : fmtR t = fmtR u ++ [59, 32] ++ pcs t m := by
      rw [fmtR, if_pos hv, fmtR, if_pos (validT_iff.2 hu), fmtT, fmtT, ← hk2, hm, sepk, if_pos (by omega), hlm]
      congr 2
      exact sepk_congr (fun j hj => by rw [ht]; exact pcs_app (by omega))
    have hune : fmtR u ≠ [] := by
      rw [fmtR, if_pos (validT_iff.2 hu), fmtT]
      refine sepk_ne (by omega) ?_
      rw [pcs]; simp
    have hul : (fmtR u).length ≤ 1000 := by
      rw [fmtR, if_pos (validT_iff.2 hu), fmtT]
      have := sep_len hu (Nat.le_refl _)
      omega
    rw [hfmt]
    obtain ⟨p, hpe⟩ : ∃ p, fmtR u = p := ⟨_, rfl⟩
    rw [hpe] at hune hul ⊢
    have hpos : 0 < p.length := List.length_pos_iff.2 hune
    have hcat : p ++ [59, 32] ++ pcs t m = p ++ 59 :: 32 :: pcs t m := by simp
    rw [hcat]
    have hcl : (p ++ 59 :: 32 :: pcs t m).length = p.length + ((pcs t m).length + 2) := by simp
    have hpu := implFormat_ex u
    rw [hpe] at hpu
    refine Ex.guard (by omega) (Ex.be hpu (Ex.be (a := true) (Ex.yes (decide_eq_true (by omega)) (Ex.yes (decide_eq_true (by omega)) (Ex.guard (by omega) (Ex.yes (decide_eq_true (List.take_left' rfl)) (Ex.guard (by omega) (Ex.ret ?_)))))) (Ex.ret rfl)))
    refine decide_eq_true ?_
    have := getD_pre (a := p) (b := 59 :: 32 :: pcs t m) (d := (0 : UInt8))
    rw [this]; rfl
end
end Go.Proofs.YtiboohplkihhnaaDoor
