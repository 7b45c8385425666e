/- Plain facts for the law FnEditsBetweenBack. Conditions: none. -/
import Derived.Test.YtghdgncfcfdlfaaTLx
import Derived.Test.YtghdgncfcfdlfaaTLzb
import Derived.Test.YtghdgncfcfdlfaaTT
namespace Go.Proofs.Ytghdgncfcfdlfaa
section
open Go
theorem w64_id {n : Int} (h1 : -9223372036854775808 ≤ n) (h2 : n ≤ 9223372036854775807) : w64 n = n := by
  show IntKind.i64.wrap n = n
  unfold IntKind.wrap
  simp [IntKind.bits, IntKind.signed]
  omega
theorem w64_succ {k : Nat} (h : k < 1099511627776) : w64 ((k : Int) + 1) = ((k + 1 : Nat) : Int) := by
  rw [w64_id (by omega) (by omega)]; omega
/-- does p hold somewhere from k on, below len -/
def anyIn (p : Nat → Bool) (k len : Nat) : Bool := (List.range len).any fun j => decide (k ≤ j) && p j
theorem anyIn_iff {p : Nat → Bool} {k len : Nat} : anyIn p k len = true ↔ ∃ j, k ≤ j ∧ j < len ∧ p j = true := by
  simp only [anyIn, List.any_eq_true, List.mem_range, Bool.and_eq_true, decide_eq_true_eq]
  constructor
  · rintro ⟨j, h1, h2, h3⟩; exact ⟨j, h2, h1, h3⟩
  · rintro ⟨j, h1, h2, h3⟩; exact ⟨j, h2, h1, h3⟩
theorem anyIn_step {p : Nat → Bool} {k len : Nat} (h : k < len) : anyIn p k len = (p k || anyIn p (k + 1) len) := by
  rw [Bool.eq_iff_iff, Bool.or_eq_true, anyIn_iff, anyIn_iff]
  constructor
  · rintro ⟨j, h1, h2, h3⟩
    rcases Nat.eq_or_lt_of_le h1 with rfl | h4
    · exact .inl h3
    · exact .inr ⟨j, h4, h2, h3⟩
  · rintro (h1 | ⟨j, h1, h2, h3⟩)
    · exact ⟨k, Nat.le_refl _, h, h1⟩
    · exact ⟨j, by omega, h2, h3⟩
theorem anyIn_end {p : Nat → Bool} {k len : Nat} (h : len ≤ k) : anyIn p k len = false := by
  rw [Bool.eq_false_iff]
  intro h'
  obtain ⟨j, h1, h2, h3⟩ := anyIn_iff.1 h'
  omega
/-- a loop that looks for something -/
theorem search {α : Type} {f : Nat → Int → Option α} {len : Nat} {p : Nat → Bool} {A B : α} (N : Nat) (hN : len < N)
    (h : ∀ n (k : Nat), k < len → N ≤ n + 1 + k → f (n + 1) k = if p k = true then some A else f n ((k + 1 : Nat) : Int)) (he : ∀ n (k : Nat), len ≤ k → f (n + 1) k = some B) :
    ∀ n (k : Nat), k ≤ len → N ≤ n + k → f n k = some (if anyIn p k len = true then A else B)
  | 0, k, h1, h2 => by omega
  | n + 1, k, h1, h2 => by
    rcases Nat.lt_or_ge k len with hk | hk
    · rw [h n k hk (by omega), anyIn_step hk]
      cases hp : p k with
      | true => simp
      | false =>
        simp only [Bool.false_eq_true, if_false, Bool.false_or]
        exact search N hN h he n (k + 1) hk (by omega)
    · rw [he n k hk, anyIn_end hk]; rfl
end
section
open Go
/-- with enough fuel f comes to something that P holds of -/
def Ex {α : Type} (f : Nat → Option α) (P : α → Prop) : Prop := ∃ r, P r ∧ ∃ N, ∀ n, N ≤ n → f n = some r
theorem Ex.ret {α : Type} {P : α → Prop} {r : α} (h : P r) : Ex (fun _ => some r) P := ⟨r, h, 0, fun _ _ => rfl⟩
theorem Ex.const {α : Type} {P : α → Prop} {x : Option α} {r : α} (e : x = some r) (h : P r) : Ex (fun _ => x) P := ⟨r, h, 0, fun _ _ => e⟩
theorem Ex.of_eq {α : Type} {f : Nat → Option α} {r : α} (N : Nat) (h : ∀ n, N ≤ n → f n = some r) : Ex f (· = r) := ⟨r, rfl, N, h⟩
theorem Ex.mono {α : Type} {f : Nat → Option α} {P Q : α → Prop} (h : Ex f P) (k : ∀ r, P r → Q r) : Ex f Q := by
  obtain ⟨r, h1, h2⟩ := h; exact ⟨r, k r h1, h2⟩
theorem Ex.bind {α β : Type} {f : Nat → Option α} {g : Nat → α → Option β} {P : α → Prop} {Q : β → Prop} (h : Ex f P) (k : ∀ a, P a → Ex (fun n => g n a) Q) : Ex (fun n => bindO (f n) (g n)) Q := by
  obtain ⟨a, h1, N, h2⟩ := h
  obtain ⟨r, k1, M, k2⟩ := k a h1
  refine ⟨r, k1, max N M, fun n hn => ?_⟩
  show bindO (f n) (g n) = some r
  rw [h2 n (by omega)]
  exact k2 n (by omega)
/-- a call that comes to one value -/
theorem Ex.be {α β : Type} {f : Nat → Option α} {g : Nat → α → Option β} {a : α} {Q : β → Prop} (h : Ex f (· = a)) (k : Ex (fun n => g n a) Q) : Ex (fun n => bindO (f n) (g n)) Q := Ex.bind h (fun b hb => by subst hb; exact k)
/-- a call without fuel that comes to one value -/
theorem Ex.bc {α β : Type} {x : Option α} {g : Nat → α → Option β} {a : α} {Q : β → Prop} (h : x = some a) (k : Ex (fun n => g n a) Q) : Ex (fun n => bindO x (g n)) Q := by subst h; exact k
theorem Ex.guard {α : Type} {c : Prop} [Decidable c] {f : Nat → Option α} {P : α → Prop} (h : c) (k : Ex f P) : Ex (fun n => guardO c (f n)) P := by
  have : (fun n => guardO c (f n)) = f := by funext n; exact guardO_pos h
  rw [this]; exact k
theorem Ex.ite {α : Type} {b : Bool} {f g : Nat → Option α} {P : α → Prop} (h1 : b = true → Ex f P) (h2 : b = false → Ex g P) : Ex (fun n => iteO b (f n) (g n)) P := by
  cases b with
  | true => exact h1 rfl
  | false => exact h2 rfl
theorem Ex.yes {α : Type} {b : Bool} {f g : Nat → Option α} {P : α → Prop} (h : b = true) (k : Ex f P) : Ex (fun n => iteO b (f n) (g n)) P := by subst h; exact k
theorem Ex.no {α : Type} {b : Bool} {f g : Nat → Option α} {P : α → Prop} (h : b = false) (k : Ex g P) : Ex (fun n => iteO b (f n) (g n)) P := by subst h; exact k
theorem Ex.succ {α : Type} {f : Nat → Option α} {P : α → Prop} (h : Ex (fun n => f (n + 1)) P) : Ex f P := by
  obtain ⟨r, h1, N, h2⟩ := h
  refine ⟨r, h1, N + 1, fun n hn => ?_⟩
  obtain ⟨m, rfl⟩ : ∃ m, n = m + 1 := ⟨n - 1, by omega⟩
  exact h2 m (by omega)
theorem Ex.get {α : Type} {f : Nat → Option α} {r : α} (h : Ex f (· = r)) : ∃ n, f n = some r := by
  obtain ⟨a, rfl, N, h⟩ := h; exact ⟨N, h N (Nat.le_refl _)⟩
theorem u8_wf {xs : List Int} (h : ∀ x ∈ xs, RC.wf .u8 x) : ∀ x ∈ xs, 0 ≤ x ∧ x ≤ 255 := by
  intro x hx
  obtain ⟨n, h1, h2, h3⟩ := (h x hx).1
  cases h1
  exact ⟨h2, h3⟩
theorem getD_mem {α : Type} {xs : List α} {k : Nat} {d : α} (h : k < xs.length) : xs.getD k d ∈ xs := by
  rw [List.getD_eq_getElem?_getD, List.getElem?_eq_getElem h]; exact List.getElem_mem h
theorem view_all {α : Type} (xs : List α) : (xs.drop 0).take xs.length = xs := by simp
/-- a loop that goes through without a change -/
theorem skip_loop {α : Type} (len : Nat) {f : Nat → Int → Option α} {B : α}
    (h1 : ∀ k : Nat, k < len → ∀ r, Ex (fun n => f n ((k + 1 : Nat) : Int)) (· = r) → Ex (fun n => f (n + 1) (k : Int)) (· = r))
    (h2 : Ex (fun n => f (n + 1) (len : Int)) (· = B)) : Ex (fun n => f n 0) (· = B) := by
  have key : ∀ (m k : Nat), k + m = len → Ex (fun n => f n (k : Int)) (· = B) := by
    intro m
    induction m with
    | zero =>
      intro k hk
      obtain rfl : k = len := by omega
      exact Ex.succ h2
    | succ m ih =>
      intro k hk
      exact Ex.succ (h1 k (by omega) _ (ih (k + 1) (by omega)))
  exact key len 0 (by omega)
theorem Ex.code {f : Nat → Option Bool} {x1 : List Int} {P : Bool → Prop} (ht : P true) (h : x1.length ≤ 1048576 → Ex f P) : Ex (fun n => iteO (decide (1048576 < ((x1.length : Nat) : Int))) (some true) (f n)) P := by
  refine Ex.ite (fun _ => Ex.ret ht) (fun hb => h ?_)
  have := of_decide_eq_false hb
  omega
end
section
open Go
/-- a loop with a state: what holds ahead of each round -/
theorem up {σ α : Type} (len : Nat) (inv : Nat → σ → Prop) {f : Nat → σ → Int → Option α} {Q : α → Prop}
    (h1 : ∀ (k : Nat) (s : σ), k < len → inv k s → (∀ s', inv (k + 1) s' → Ex (fun n => f n s' ((k + 1 : Nat) : Int)) Q) → Ex (fun n => f (n + 1) s (k : Int)) Q)
    (h2 : ∀ s, inv len s → Ex (fun n => f (n + 1) s (len : Int)) Q) (k : Nat) (s : σ) (hk : k ≤ len) (hi : inv k s) : Ex (fun n => f n s (k : Int)) Q := by
  have key : ∀ (m k : Nat) (s : σ), k + m = len → inv k s → Ex (fun n => f n s (k : Int)) Q := by
    intro m
    induction m with
    | zero =>
      intro k s hk hs
      obtain rfl : k = len := by omega
      exact Ex.succ (h2 s hs)
    | succ m ih =>
      intro k s hk hs
      exact Ex.succ (h1 k s (by omega) hs (fun s' hs' => ih (k + 1) s' (by omega) hs'))
  exact key (len - k) k s (by omega) hi
/-- the same without a state -/
theorem upU {α : Type} (len : Nat) (inv : Nat → Prop) {f : Nat → Int → Option α} {Q : α → Prop}
    (h1 : ∀ (k : Nat), k < len → inv k → (inv (k + 1) → Ex (fun n => f n ((k + 1 : Nat) : Int)) Q) → Ex (fun n => f (n + 1) (k : Int)) Q)
    (h2 : inv len → Ex (fun n => f (n + 1) (len : Int)) Q) (k : Nat) (hk : k ≤ len) (hi : inv k) : Ex (fun n => f n (k : Int)) Q :=
  up (σ := Unit) len (fun k _ => inv k) (f := fun n _ i => f n i) (fun k _ hk hi h => h1 k hk hi (fun h' => h () h')) (fun _ h => h2 h) k () hk hi
theorem notT {b : Bool} (h : (!b) = true) : b = false := by cases b; rfl; cases h
theorem notF {b : Bool} (h : (!b) = false) : b = true := by cases b; cases h; rfl
theorem drop_at {α : Type} {xs : List α} {k : Nat} (d : α) (h : k < xs.length) : xs.drop k = xs.getD k d :: xs.drop (k + 1) := by
  rw [List.drop_eq_getElem_cons h, List.getD_eq_getElem?_getD, List.getElem?_eq_getElem h]; rfl
def ch (b : UInt8) : Bool := decide (97 ≤ b.toNat) && decide (b.toNat ≤ 122)
def nameOk (s : Str) : Bool := (decide (1 ≤ s.length) && decide (s.length ≤ 4)) && s.all ch
theorem all_split {α : Type} (p : α → Bool) {xs : List α} {k : Nat} (d : α) (h : k < xs.length) : (xs.drop k).all p = (p (xs.getD k d) && (xs.drop (k + 1)).all p) := by
  rw [drop_at d h, List.all_cons]
/-- same parent, same name -/
def sib (p : Int) (s : Str) (x : Nod) : Bool := decide (x.parent = p) && decide (x.name = s)
/-- the place of the first -/
def firstAt {α : Type} (q : α → Bool) : List α → Nat → Int
  | [], _ => -1
  | x :: l, k => if q x = true then (k : Int) else firstAt q l (k + 1)
theorem firstAt_iff {α : Type} (q : α → Bool) : ∀ (l : List α) (k : Nat), (0 ≤ firstAt q l k) ↔ l.any q = true
  | [], k => by simp [firstAt]
  | x :: l, k => by
    rw [firstAt, List.any_cons]
    cases q x with
    | true => simp
    | false => simpa using firstAt_iff q l (k + 1)
def NL (t : List Nod) : Prop := t.length ≤ 1000000000000 ∧ ∀ x ∈ t, x.name.length ≤ 1000000000000
/-- how deep a node lies -/
def dp (t : List Nod) (i : Nat) : Nat :=
  if h : 0 ≤ (t.getD i dnod).parent ∧ (t.getD i dnod).parent.toNat < i then dp t (t.getD i dnod).parent.toNat + 1 else 0
termination_by i
decreasing_by exact h.2
def rv (n : Int) : Bool := decide (-1000 ≤ n) && decide (n ≤ 1000)
def nodeOk (t : List Nod) (i : Nat) : Bool :=
  rv (t.getD i dnod).value && (if i = 0 then decide ((t.getD i dnod).parent = -1) && decide ((t.getD i dnod).name = [])
    else (decide (0 ≤ (t.getD i dnod).parent) && decide ((t.getD i dnod).parent ≤ (i : Int) - 1)) && (nameOk (t.getD i dnod).name && (!(t.take i).any (sib (t.getD i dnod).parent (t.getD i dnod).name) && decide (dp t i ≤ 4))))
def validT (t : List Nod) : Bool := (decide (1 ≤ t.length) && decide (t.length ≤ 12)) && (List.range t.length).all (nodeOk t)
/-- where the parent lies -/
def PO (t : List Nod) (j : Nat) : Prop := if j = 0 then (t.getD j dnod).parent = -1 else 0 ≤ (t.getD j dnod).parent ∧ (t.getD j dnod).parent.toNat < j
theorem nodeOk_PO {t : List Nod} {j : Nat} (h : nodeOk t j = true) : PO t j := by
  unfold PO
  simp only [nodeOk, Bool.and_eq_true] at h
  split
  · rename_i h0
    rw [if_pos h0] at h
    simpa using (Bool.and_eq_true_iff.1 h.2).1
  · rename_i h0
    rw [if_neg h0] at h
    simp only [Bool.and_eq_true, decide_eq_true_eq] at h
    omega
theorem dp_le {t : List Nod} : ∀ i, dp t i ≤ i := by
  intro i
  induction i using Nat.strongRecOn with
  | ind i ih =>
    rw [dp]
    split
    · rename_i h; have := ih _ h.2; omega
    · omega
def okTo (t : List Nod) (k : Nat) : Prop := ∀ j, j < k → nodeOk t j = true
theorem no_root {t : List Nod} (h0 : PO t 0) {p : Int} (hp : 0 ≤ p) (s : Str) {i : Nat} (hi : 0 < i) (hlt : i < t.length) : (firstAt (sib p s) ((t.take i).drop 1) 1 < 0) ↔ (t.take i).any (sib p s) = false := by
  rw [PO, if_pos rfl] at h0
  have e : t.take i = t.getD 0 dnod :: (t.take i).drop 1 := by
    have := drop_at (xs := t.take i) (k := 0) dnod (by simp; omega)
    rw [List.drop_zero] at this
    rw [this]
    congr 1
    rw [List.getD_eq_getElem?_getD, List.getElem?_take_of_lt hi, List.getD_eq_getElem?_getD]
  have h := firstAt_iff (sib p s) ((t.take i).drop 1) 1
  have h2 : (t.take i).any (sib p s) = ((t.take i).drop 1).any (sib p s) := by
    conv => lhs; rw [e]
    rw [List.any_cons]
    have : sib p s (t.getD 0 dnod) = false := by rw [sib, decide_eq_false (by omega)]; rfl
    rw [this, Bool.false_or]
  rw [h2, ← Bool.not_eq_true, ← h]; omega
theorem all_range {n : Nat} {p : Nat → Bool} : (List.range n).all p = true ↔ ∀ j, j < n → p j = true := by
  simp [List.all_eq_true]
theorem all_range_false {n : Nat} {p : Nat → Bool} {k : Nat} (hk : k < n) (h : p k = false) : (List.range n).all p = false := by
  rw [Bool.eq_false_iff]; intro h'; rw [all_range.1 h' k hk] at h; cases h
theorem getD_set' {α : Type} {xs : List α} {i : Nat} {x d : α} (h : i < xs.length) (j : Nat) : (xs.set i x).getD j d = if i = j then x else xs.getD j d := by
  rw [List.getD_eq_getElem?_getD, List.getElem?_set]
  split
  · rfl
  · rw [List.getD_eq_getElem?_getD]
end
section
open Go
set_option linter.unusedVariables false
def pa (t : List Nod) (i : Nat) : Int := (t.getD i dnod).parent
def nmo (t : List Nod) (i : Nat) : Str := (t.getD i dnod).name
def va (t : List Nod) (i : Nat) : Int := (t.getD i dnod).value
structure VT (t : List Nod) : Prop where
  lo : 1 ≤ t.length
  hi : t.length ≤ 12
  val : ∀ i, i < t.length → -1000 ≤ va t i ∧ va t i ≤ 1000
  rp : pa t 0 = -1
  rn : nmo t 0 = []
  par : ∀ i, 0 < i → i < t.length → 0 ≤ pa t i ∧ (pa t i).toNat < i
  nam : ∀ i, 0 < i → i < t.length → nameOk (nmo t i) = true
  sib : ∀ i j, 0 < i → i < j → j < t.length → pa t i = pa t j → nmo t i ≠ nmo t j
  dep : ∀ i, i < t.length → dp t i ≤ 4
theorem take_any {t : List Nod} {i : Nat} {q : Nod → Bool} (hi : i ≤ t.length) : (t.take i).any q = true ↔ ∃ j, j < i ∧ q (t.getD j dnod) = true := by
  rw [List.any_eq_true]
  constructor
  · rintro ⟨x, hx, hq⟩
    obtain ⟨j, hj, rfl⟩ := List.mem_iff_getElem.1 hx
    have hj' : j < i := by simp at hj; omega
    refine ⟨j, hj', ?_⟩
    rw [List.getElem_take] at hq
    rwa [List.getD_eq_getElem?_getD, List.getElem?_eq_getElem (by omega)]
  · rintro ⟨j, hj, hq⟩
    refine ⟨t.getD j dnod, ?_, hq⟩
    rw [List.getD_eq_getElem?_getD, List.getElem?_eq_getElem (by omega : j < t.length)]
    show t[j] ∈ t.take i
    rw [List.mem_take_iff_getElem]
    exact ⟨j, by omega, rfl⟩
theorem validT_iff {t : List Nod} : validT t = true ↔ VT t := by
  constructor
  · intro h
    simp only [validT, Bool.and_eq_true, decide_eq_true_eq] at h
    obtain ⟨⟨h1, h2⟩, h3⟩ := h
    have h3 := all_range.1 h3
    have h4 : ∀ i, 0 < i → i < t.length → rv (va t i) = true ∧ (0 ≤ pa t i ∧ pa t i ≤ (i : Int) - 1) ∧ nameOk (nmo t i) = true ∧ (t.take i).any (Go.Proofs.Ytghdgncfcfdlfaa.sib (pa t i) (nmo t i)) = false ∧ dp t i ≤ 4 := by
      intro i h0 hi
      have := h3 i hi
      rw [nodeOk, if_neg (by omega)] at this
      simp only [Bool.and_eq_true, decide_eq_true_eq] at this
      exact ⟨this.1, this.2.1, this.2.2.1, notT this.2.2.2.1, this.2.2.2.2⟩
    have h5 := h3 0 (by omega)
    rw [nodeOk, if_pos rfl] at h5
    simp only [Bool.and_eq_true, decide_eq_true_eq] at h5
    have hr : ∀ i, i < t.length → rv (va t i) = true := by
      intro i hi
      rcases Nat.eq_zero_or_pos i with rfl | h0
      · exact h5.1
      · exact (h4 i h0 hi).1
    refine ⟨h1, h2, fun i hi => ?_, h5.2.1, h5.2.2, fun i h0 hi => ?_, fun i h0 hi => (h4 i h0 hi).2.2.1, fun i j h0 hij hj e1 e2 => ?_, fun i hi => ?_⟩
    · have := hr i hi
      simp only [rv, Bool.and_eq_true, decide_eq_true_eq] at this
      exact this
    · have := (h4 i h0 hi).2.1; omega
    · have := (h4 j (by omega) hj).2.2.2.1
      rw [← Bool.not_eq_true, take_any (by omega)] at this
      refine this ⟨i, hij, ?_⟩
      simp only [Go.Proofs.Ytghdgncfcfdlfaa.sib, Bool.and_eq_true, decide_eq_true_eq]
      exact ⟨e1, e2⟩
    · rcases Nat.eq_zero_or_pos i with rfl | h0
      · rw [dp, dif_neg (by have := h5.2.1; omega)]; omega
      · exact (h4 i h0 hi).2.2.2.2
  · intro h
    have := h.lo
    have := h.hi
    simp only [validT, Bool.and_eq_true, decide_eq_true_eq]
    refine ⟨⟨by omega, by omega⟩, all_range.2 fun i hi => ?_⟩
    have hv : rv (t.getD i dnod).value = true := by
      have := h.val i hi
      simp only [rv, Bool.and_eq_true, decide_eq_true_eq]
      exact this
    rw [nodeOk, hv, Bool.true_and]
    split
    · rename_i e
      subst e
      have := h.rp
      have := h.rn
      simp only [Bool.and_eq_true, decide_eq_true_eq]
      exact ⟨h.rp, h.rn⟩
    · rename_i e
      have h1 := h.par i (by omega) hi
      simp only [pa] at h1
      simp only [Bool.and_eq_true, decide_eq_true_eq]
      refine ⟨by omega, h.nam i (by omega) hi, ?_, h.dep i hi⟩
      rw [Bool.not_eq_true', ← Bool.not_eq_true, take_any (by omega)]
      rintro ⟨j, hj, hq⟩
      simp only [Go.Proofs.Ytghdgncfcfdlfaa.sib, Bool.and_eq_true, decide_eq_true_eq] at hq
      rcases Nat.eq_zero_or_pos j with rfl | h0
      · have := h.rp; simp only [pa] at this; omega
      · exact h.sib j i h0 hj hi hq.1 hq.2
/-- the names on the way to a node -/
def np (t : List Nod) (i : Nat) : List Str :=
  if h : 0 ≤ (t.getD i dnod).parent ∧ (t.getD i dnod).parent.toNat < i then np t (t.getD i dnod).parent.toNat ++ [(t.getD i dnod).name] else []
termination_by i
decreasing_by exact h.2
/-- the nodes on the way to a node -/
def ix (t : List Nod) (i : Nat) : List Nat :=
  if h : 0 ≤ (t.getD i dnod).parent ∧ (t.getD i dnod).parent.toNat < i then ix t (t.getD i dnod).parent.toNat ++ [i] else [i]
termination_by i
decreasing_by exact h.2
theorem np_ix {t : List Nod} : ∀ i, (ix t i).map (nmo t) = nmo t ((ix t i).headD 0) :: np t i ∧ (ix t i).length = dp t i + 1 := by
  intro i
  induction i using Nat.strongRecOn with
  | ind i ih =>
    rw [ix, np, dp]
    split
    · rename_i h
      obtain ⟨h1, h2⟩ := ih _ h.2
      refine ⟨?_, by rw [List.length_append, h2]; rfl⟩
      rw [List.map_append, h1, List.cons_append]
      have : (ix t (t.getD i dnod).parent.toNat ++ [i]).headD 0 = (ix t (t.getD i dnod).parent.toNat).headD 0 := by
        cases hx : ix t (t.getD i dnod).parent.toNat with
        | nil => rw [hx] at h2; simp at h2
        | cons a l => rfl
      rw [this]
      rfl
    · exact ⟨rfl, rfl⟩
variable {t : List Nod}
theorem np_zero (h : VT t) : np t 0 = [] := by
  rw [np, dif_neg (by omega)]
theorem np_pos (h : VT t) {i : Nat} (h0 : 0 < i) (hi : i < t.length) : np t i = np t (pa t i).toNat ++ [nmo t i] := by
  have := h.par i h0 hi
  simp only [pa] at this
  rw [np, dif_pos this]; rfl
theorem dp_pos (h : VT t) {i : Nat} (h0 : 0 < i) (hi : i < t.length) : dp t i = dp t (pa t i).toNat + 1 := by
  have := h.par i h0 hi
  simp only [pa] at this
  rw [dp, dif_pos this]; rfl
theorem ix_pos (h : VT t) {i : Nat} (h0 : 0 < i) (hi : i < t.length) : ix t i = ix t (pa t i).toNat ++ [i] := by
  have := h.par i h0 hi
  simp only [pa] at this
  rw [ix, dif_pos this]; rfl
theorem np_len : ∀ i, (np t i).length = dp t i := by
  intro i
  induction i using Nat.strongRecOn with
  | ind i ih =>
    rw [np, dp]
    split
    · rename_i h; rw [List.length_append, ih _ h.2]; rfl
    · rfl
theorem np_inj (h : VT t) : ∀ i, i < t.length → ∀ j, j < t.length → np t i = np t j → i = j := by
  intro i
  induction i using Nat.strongRecOn with
  | ind i ih =>
    intro hi j hj e
    rcases Nat.eq_zero_or_pos i with rfl | hi0
    · rcases Nat.eq_zero_or_pos j with rfl | hj0
      · rfl
      · rw [np_zero h, np_pos h hj0 hj] at e; simp at e
    · rcases Nat.eq_zero_or_pos j with rfl | hj0
      · rw [np_zero h, np_pos h hi0 hi] at e; simp at e
      · rw [np_pos h hi0 hi, np_pos h hj0 hj] at e
        have e1 := List.append_inj' e rfl
        have e2 : nmo t i = nmo t j := by simpa using e1.2
        have p1 := h.par i hi0 hi
        have p2 := h.par j hj0 hj
        have e3 := ih _ p1.2 (by omega) _ (by omega) e1.1
        have e4 : pa t i = pa t j := by omega
        rcases Nat.lt_trichotomy i j with hlt | rfl | hlt
        · exact absurd e2 (h.sib i j hi0 hlt hj e4)
        · rfl
        · exact absurd e2.symm (h.sib j i hj0 hlt hi e4.symm)
theorem np_names (h : VT t) : ∀ i, i < t.length → ∀ s ∈ np t i, nameOk s = true := by
  intro i
  induction i using Nat.strongRecOn with
  | ind i ih =>
    intro hi s hs
    rcases Nat.eq_zero_or_pos i with rfl | hi0
    · rw [np_zero h] at hs; cases hs
    · rw [np_pos h hi0 hi] at hs
      rcases List.mem_append.1 hs with h1 | h1
      · have := h.par i hi0 hi
        exact ih _ this.2 (by omega) s h1
      · rw [List.mem_singleton.1 h1]; exact h.nam i hi0 hi
/-- what is above lies in the tree -/
theorem np_up (h : VT t) : ∀ i, i < t.length → ∀ l l', np t i = l ++ l' → ∃ k, k ≤ i ∧ np t k = l := by
  intro i
  induction i using Nat.strongRecOn with
  | ind i ih =>
    intro hi l l' e
    rcases List.eq_nil_or_concat l' with rfl | ⟨m, x, rfl⟩
    · exact ⟨i, Nat.le_refl _, by simpa using e⟩
    · rcases Nat.eq_zero_or_pos i with rfl | hi0
      · rw [np_zero h] at e; simp at e
      · rw [np_pos h hi0 hi, List.concat_eq_append, ← List.append_assoc] at e
        have e1 := List.append_inj' e rfl
        have p1 := h.par i hi0 hi
        obtain ⟨k, k1, k2⟩ := ih _ p1.2 (by omega) l m e1.1
        exact ⟨k, by omega, k2⟩
/-- the node with names above it -/
def loo (t : List Nod) (l : List Str) : Option Nat := (List.range t.length).find? fun i => decide (np t i = l)
theorem loo_iff (h : VT t) {l : List Str} {i : Nat} : loo t l = some i ↔ i < t.length ∧ np t i = l := by
  unfold loo
  constructor
  · intro e
    have h1 := List.find?_some e
    have h2 := List.mem_of_find?_eq_some e
    exact ⟨by simpa using h2, by simpa using h1⟩
  · rintro ⟨h1, h2⟩
    cases e : (List.range t.length).find? fun i => decide (np t i = l) with
    | none =>
      rw [List.find?_eq_none] at e
      exact absurd (decide_eq_true h2) (e i (by simpa using h1))
    | some j =>
      have h3 := List.find?_some e
      have h4 := List.mem_of_find?_eq_some e
      rw [np_inj h j (by simpa using h4) i h1 (by rw [h2]; simpa using h3)]
theorem loo_none {l : List Str} : loo t l = none ↔ ∀ i, i < t.length → np t i ≠ l := by
  unfold loo
  rw [List.find?_eq_none]
  constructor
  · intro h i hi e
    exact h i (by simpa using hi) (by simpa using e)
  · intro h i hi
    have := h i (by simpa using hi)
    simpa using this
theorem loo_np (h : VT t) {i : Nat} (hi : i < t.length) : loo t (np t i) = some i := (loo_iff h).2 ⟨hi, rfl⟩
theorem firstAt_spec {α : Type} (q : α → Bool) (d : α) : ∀ (l : List α) (k : Nat), (firstAt q l k = -1 ∧ ∀ j, j < l.length → q (l.getD j d) = false) ∨ ∃ j, j < l.length ∧ firstAt q l k = ((k + j : Nat) : Int) ∧ q (l.getD j d) = true ∧ ∀ i, i < j → q (l.getD i d) = false
  | [], k => .inl ⟨rfl, fun j hj => by simp at hj⟩
  | x :: l, k => by
    rw [firstAt]
    cases hq : q x with
    | true => exact .inr ⟨0, by simp, by simp, by simpa using hq, fun i hi => by omega⟩
    | false =>
      rw [if_neg (by simp)]
      rcases firstAt_spec q d l (k + 1) with ⟨h1, h2⟩ | ⟨j, h1, h2, h3, h4⟩
      · refine .inl ⟨h1, fun j hj => ?_⟩
        cases j with
        | zero => simpa using hq
        | succ j => simpa using h2 j (by simpa using hj)
      · refine .inr ⟨j + 1, by simpa using h1, by rw [h2]; omega, by simpa using h3, fun i hi => ?_⟩
        cases i with
        | zero => simpa using hq
        | succ i => simpa using h4 i (by omega)
/-- going down by names -/
def desc (t : List Nod) : Int → List Str → Int
  | a, [] => a
  | a, n :: ns => if firstAt (sib a n) t 0 < 0 then -1 else desc t (firstAt (sib a n) t 0) ns
theorem kid_spec (h : VT t) {a : Nat} {n : Str} (ha : a < t.length) : (firstAt (sib a n) t 0 = -1 ∧ loo t (np t a ++ [n]) = none) ∨ ∃ k, k < t.length ∧ firstAt (sib a n) t 0 = (k : Int) ∧ np t k = np t a ++ [n] := by
  rcases firstAt_spec (sib a n) dnod t 0 with ⟨h1, h2⟩ | ⟨j, h1, h2, h3, h4⟩
  · refine .inl ⟨h1, loo_none.2 fun i hi e => ?_⟩
    rcases Nat.eq_zero_or_pos i with rfl | hi0
    · rw [np_zero h] at e; simp at e
    · rw [np_pos h hi0 hi] at e
      have e1 := List.append_inj' e rfl
      have p1 := h.par i hi0 hi
      have e2 := np_inj h _ (by omega) _ ha e1.1
      have := h2 i hi
      rw [sib, decide_eq_true (by have : pa t i = (a : Int) := by omega
                                  exact this), decide_eq_true (by have := e1.2; simp at this; exact this)] at this
      simp at this
  · rw [Nat.zero_add] at h2
    refine .inr ⟨j, h1, h2, ?_⟩
    simp only [sib, Bool.and_eq_true, decide_eq_true_eq] at h3
    have hj : 0 < j := by
      rcases Nat.eq_zero_or_pos j with rfl | hj0
      · have := h.rp; rw [pa] at this; omega
      · exact hj0
    rw [np_pos h hj h1]
    have e : (pa t j).toNat = a := by rw [pa]; omega
    rw [e]; congr 2; exact h3.2
theorem desc_spec (h : VT t) : ∀ (ns : List Str) (a : Nat), a < t.length → desc t a ns = (match loo t (np t a ++ ns) with | some k => (k : Int) | none => -1)
  | [], a, ha => by
    rw [List.append_nil, loo_np h ha]; rfl
  | n :: ns, a, ha => by
    rw [desc]
    rcases kid_spec h (n := n) ha with ⟨h1, h2⟩ | ⟨k, h1, h2, h3⟩
    · rw [h1, if_pos (by omega)]
      have : loo t (np t a ++ n :: ns) = none := by
        rw [loo_none]
        intro i hi e
        have e' : np t i = (np t a ++ [n]) ++ ns := by rw [e]; simp
        obtain ⟨k, hk, hk2⟩ := np_up h i hi _ _ e'
        exact loo_none.1 h2 k (by omega) hk2
      rw [this]
    · rw [h2, if_neg (by omega), desc_spec h ns k h1, h3, List.append_assoc]; rfl
end
section
open Go
set_option linter.unusedVariables false
/-- a text cut at every byte of a kind -/
def spl (c : UInt8) : Str → List Str
  | [] => [[]]
  | x :: s => if x = c then [] :: spl c s else match spl c s with
    | [] => [[x]]
    | h :: r => (x :: h) :: r
theorem spl_ne (c : UInt8) (s : Str) : spl c s ≠ [] := by
  cases s with
  | nil => simp [spl]
  | cons x s =>
    rw [spl]
    split
    · simp
    · split <;> simp
theorem spl_none {c : UInt8} : ∀ {a : Str}, c ∉ a → spl c a = [a]
  | [], _ => rfl
  | x :: a, h => by
    rw [spl, if_neg (by rintro rfl; simp at h), spl_none (by simp at h; exact h.2)]
theorem spl_at {c : UInt8} {b : Str} : ∀ {a : Str}, c ∉ a → spl c (a ++ c :: b) = a :: spl c b
  | [], _ => by rw [List.nil_append, spl, if_pos rfl]
  | x :: a, h => by
    rw [List.cons_append, spl, if_neg (by rintro rfl; simp at h), spl_at (by simp at h; exact h.2)]
/-- the first place of a byte -/
theorem cut_at (c : UInt8) : ∀ (s : Str), c ∉ s ∨ ∃ a b, s = a ++ c :: b ∧ c ∉ a
  | [] => .inl (by simp)
  | x :: s => by
    by_cases h : x = c
    · subst h; exact .inr ⟨[], s, rfl, by simp⟩
    · rcases cut_at c s with h1 | ⟨a, b, rfl, h1⟩
      · exact .inl (by simp only [List.mem_cons, not_or]; exact ⟨Ne.symm h, h1⟩)
      · exact .inr ⟨x :: a, b, rfl, by simp only [List.mem_cons, not_or]; exact ⟨Ne.symm h, h1⟩⟩
/-- texts put together, each behind a byte -/
def fm (c : UInt8) (l : List Str) : Str := l.flatMap fun s => c :: s
theorem fm_nil (c : UInt8) : fm c [] = [] := rfl
theorem fm_cons (c : UInt8) (s : Str) (l : List Str) : fm c (s :: l) = c :: (s ++ fm c l) := by simp [fm]
theorem fm_app (c : UInt8) (l l' : List Str) : fm c (l ++ l') = fm c l ++ fm c l' := by simp [fm]
theorem fm_spl (c : UInt8) : ∀ (s : Str), fm c (spl c s) = c :: s
  | [] => rfl
  | x :: s => by
    rw [spl]
    split
    · rename_i h; rw [fm_cons, fm_spl c s, h]; rfl
    · cases hx : spl c s with
      | nil => exact absurd hx (spl_ne c s)
      | cons h r =>
        have := fm_spl c s
        rw [hx, fm_cons] at this
        simp only [fm_cons, List.cons_append]
        rw [List.cons.injEq] at this
        rw [this.2]
theorem spl_fm {c : UInt8} : ∀ {l : List Str} {s : Str}, (∀ x ∈ s :: l, c ∉ x) → spl c (s ++ fm c l) = s :: l
  | [], s, h => by rw [fm_nil, List.append_nil, spl_none (h s (by simp))]
  | x :: l, s, h => by
    rw [fm_cons, spl_at (h s (by simp)), spl_fm (fun y hy => h y (by simp at hy ⊢; exact .inr hy))]
/-- the text of a path -/
def ptx (l : List Str) : Str := if l = [] then [47] else fm 47 l
/-- the path of a text -/
def pth : Str → Option (List Str)
  | [] => none
  | c :: r => if c = 47 then (if r = [] then some [] else some (spl 47 r)) else none
theorem ptx_pth {s : Str} {l : List Str} (h : pth s = some l) : ptx l = s := by
  cases s with
  | nil => cases h
  | cons c r =>
    rw [pth] at h
    split at h
    · rename_i hc
      split at h
      · rename_i hr; cases h; rw [hc, hr]; rfl
      · rename_i hr
        cases h
        rw [ptx, if_neg (spl_ne _ _), fm_spl, hc]
    · cases h
theorem name_no {s : Str} (h : nameOk s = true) : (47 : UInt8) ∉ s ∧ s ≠ [] := by
  simp only [nameOk, Bool.and_eq_true, decide_eq_true_eq, List.all_eq_true] at h
  refine ⟨fun h' => ?_, fun h' => ?_⟩
  · have := h.2 47 h'
    exact absurd this (by decide)
  · rw [h'] at h; simp at h
theorem pth_ptx {l : List Str} (h : ∀ s ∈ l, nameOk s = true) : pth (ptx l) = some l := by
  cases l with
  | nil => rfl
  | cons s l =>
    rw [ptx, if_neg (by simp), fm_cons, pth, if_pos rfl, if_neg (by
      have := (name_no (h s (by simp))).2
      cases s with
      | nil => exact absurd rfl this
      | cons a b => simp)]
    rw [spl_fm (fun x hx => (name_no (h x hx)).1)]
theorem ptx_inj {l l' : List Str} (h : ∀ s ∈ l, nameOk s = true) (h' : ∀ s ∈ l', nameOk s = true) (e : ptx l = ptx l') : l = l' := by
  have := pth_ptx h
  rw [e, pth_ptx h'] at this
  exact (Option.some.inj this).symm
/-- the node with a path -/
def resO (t : List Nod) (s : Str) : Option Nat := (pth s).bind (loo t)
def oi : Option Nat → Int
  | some k => (k : Int)
  | none => -1
def res (t : List Nod) (s : Str) : Int := oi (resO t s)
variable {t : List Nod}
theorem resO_iff (h : VT t) {s : Str} {k : Nat} : resO t s = some k ↔ k < t.length ∧ ptx (np t k) = s := by
  unfold resO
  constructor
  · intro e
    cases hp : pth s with
    | none => rw [hp] at e; cases e
    | some l =>
      rw [hp] at e
      obtain ⟨h1, h2⟩ := (loo_iff h).1 e
      exact ⟨h1, by rw [h2]; exact ptx_pth hp⟩
  · rintro ⟨h1, rfl⟩
    rw [pth_ptx (np_names h k h1)]
    exact loo_np h h1
theorem resO_np (h : VT t) {k : Nat} (hk : k < t.length) : resO t (ptx (np t k)) = some k := (resO_iff h).2 ⟨hk, rfl⟩
theorem resO_ptx {l : List Str} (h : ∀ s ∈ l, nameOk s = true) : resO t (ptx l) = loo t l := by rw [resO, pth_ptx h]; rfl
theorem resO_none {s : Str} (h : VT t) : resO t s = none ↔ ∀ i, i < t.length → ptx (np t i) ≠ s := by
  constructor
  · intro e i hi e'
    rw [(resO_iff h).2 ⟨hi, e'⟩] at e; cases e
  · intro h'
    cases e : resO t s with
    | none => rfl
    | some k => obtain ⟨h1, h2⟩ := (resO_iff h).1 e; exact absurd h2 (h' k h1)
/-- the first node with a path -/
theorem res_first (h : VT t) (s : Str) : firstAt (fun i => decide (ptx (np t i) = s)) (List.range t.length) 0 = res t s := by
  rcases firstAt_spec (fun i => decide (ptx (np t i) = s)) 0 (List.range t.length) 0 with ⟨h1, h2⟩ | ⟨j, h1, h2, h3, _⟩
  · rw [h1, res, (resO_none h).2 (fun i hi e => ?_)]; rfl
    have := h2 i (by simpa using hi)
    rw [List.getD_eq_getElem?_getD, List.getElem?_range hi] at this
    simp at this; exact this e
  · have hj : j < t.length := by simpa using h1
    rw [List.getD_eq_getElem?_getD, List.getElem?_range hj] at h3
    rw [h2, res, (resO_iff h).2 ⟨hj, by simpa using h3⟩, Nat.zero_add]; rfl
/-- going down by the parts of a text -/
theorem res_desc (h : VT t) {c : UInt8} {r : Str} : res t (c :: r) = if c = 47 then (if r = [] then 0 else desc t 0 (spl 47 r)) else -1 := by
  have hlo := h.lo
  rw [res, resO, pth]
  split
  · split
    · show oi (loo t []) = 0
      rw [(loo_iff h).2 ⟨hlo, np_zero h⟩]; rfl
    · show oi (loo t (spl 47 r)) = _
      have := desc_spec h (spl 47 r) 0 hlo
      rw [np_zero h, List.nil_append] at this
      rw [show ((0 : Nat) : Int) = 0 from rfl] at this
      rw [this]
      cases loo t (spl 47 r) <;> rfl
  · rfl
theorem res_nil : res t [] = -1 := rfl
end
section
open Go
set_option linter.unusedVariables false
theorem lt_left (l : List Str) (a b : List Str) : (l ++ a < l ++ b) ↔ a < b := by
  induction l with
  | nil => rfl
  | cons x l ih =>
    rw [List.cons_append, List.cons_append, List.cons_lt_cons_iff, ih]
    constructor
    · rintro (h | h)
      · exact absurd h (List.lt_irrefl x)
      · exact h.2
    · exact fun h => .inr ⟨rfl, h⟩
theorem lt_prefix (l : List Str) {a : List Str} (h : a ≠ []) : l < l ++ a := by
  have := (lt_left l [] a).2 (by cases a with
    | nil => exact absurd rfl h
    | cons x a => exact List.nil_lt_cons x a)
  rwa [List.append_nil] at this
theorem uniq_sorted {α : Type} {r : α → α → Prop} (ir : ∀ a, ¬ r a a) (tr : ∀ a b c, r a b → r b c → r a c) : ∀ {l l' : List α}, l.Pairwise r → l'.Pairwise r → (∀ x, x ∈ l ↔ x ∈ l') → l = l'
  | [], [], _, _, _ => rfl
  | [], y :: l', _, _, h => by have := (h y).2 (by simp); cases this
  | x :: l, [], _, _, h => by have := (h x).1 (by simp); cases this
  | x :: l, y :: l', h1, h2, h => by
    rw [List.pairwise_cons] at h1 h2
    have e : x = y := by
      rcases List.mem_cons.1 ((h x).1 (by simp)) with e | h3
      · exact e
      · rcases List.mem_cons.1 ((h y).2 (by simp)) with e | h4
        · exact e.symm
        · exact absurd (tr _ _ _ (h1.1 y h4) (h2.1 x h3)) (ir x)
    subst e
    congr 1
    refine uniq_sorted ir tr h1.2 h2.2 (fun z => ⟨fun hz => ?_, fun hz => ?_⟩)
    · rcases List.mem_cons.1 ((h z).1 (by simp [hz])) with rfl | h3
      · exact absurd (h1.1 z hz) (ir z)
      · exact h3
    · rcases List.mem_cons.1 ((h z).2 (by simp [hz])) with rfl | h3
      · exact absurd (h2.1 z hz) (ir z)
      · exact h3
theorem len_sub {α : Type} [DecidableEq α] : ∀ {l l' : List α}, l.Nodup → (∀ x ∈ l, x ∈ l') → l.length ≤ l'.length
  | [], _, _, _ => by simp
  | x :: l, l', h, hs => by
    rw [List.nodup_cons] at h
    have hx := hs x (by simp)
    have := len_sub (l := l) (l' := l'.erase x) h.2 (fun y hy => by
      have hne : y ≠ x := by rintro rfl; exact h.1 hy
      exact (List.mem_erase_of_ne hne).2 (hs y (by simp [hy])))
    rw [List.length_erase_of_mem hx] at this
    have := List.length_pos_of_mem hx
    simp only [List.length_cons]; omega
/-- the nodes in a node -/
def kd (t : List Nod) (i : Nat) : List Nat := (List.range t.length).filter fun j => decide (pa t j = (i : Int))
def nle (t : List Nod) (a b : Nat) : Bool := decide (nmo t a ≤ nmo t b)
/-- by names -/
def ks (t : List Nod) (i : Nat) : List Nat := (kd t i).mergeSort (nle t)
/-- a node and all below it -/
def wk (t : List Nod) : Nat → Nat → List Nat
  | 0, i => [i]
  | f + 1, i => i :: (ks t i).flatMap (wk t f)
variable {t : List Nod}
theorem mem_kd {i j : Nat} : j ∈ kd t i ↔ j < t.length ∧ pa t j = i := by simp [kd]
theorem mem_ks {i j : Nat} : j ∈ ks t i ↔ j < t.length ∧ pa t j = i := by
  rw [ks, (List.mergeSort_perm _ _).mem_iff, mem_kd]
theorem kd_pos (h : VT t) {i j : Nat} (hj : j < t.length) (hp : pa t j = (i : Int)) : i < j ∧ np t j = np t i ++ [nmo t j] := by
  have h0 : 0 < j := by
    rcases Nat.eq_zero_or_pos j with rfl | h0
    · have := h.rp; omega
    · exact h0
  have := h.par j h0 hj
  have e : (pa t j).toNat = i := by omega
  rw [e] at this
  exact ⟨this.2, by rw [np_pos h h0 hj, e]⟩
theorem kid_name (h : VT t) {i j k : Nat} (hj : j < t.length) (hk : k < t.length) (pj : pa t j = (i : Int)) (pk : pa t k = (i : Int)) (e : nmo t j = nmo t k) : j = k :=
  np_inj h j hj k hk (by rw [(kd_pos h hj pj).2, (kd_pos h hk pk).2, e])
theorem kd_nodup (t : List Nod) (i : Nat) : (kd t i).Nodup := List.Nodup.sublist List.filter_sublist List.nodup_range
theorem kd_len (t : List Nod) (i : Nat) : (kd t i).length ≤ t.length := by
  have := List.length_filter_le (fun j => decide (pa t j = (i : Int))) (List.range t.length)
  simpa [kd] using this
/-- sorted kids: a list of the kids whose names ascend is the one -/
theorem ks_sorted (h : VT t) (i : Nat) : (ks t i).Pairwise (fun a b => nmo t a < nmo t b) := by
  have h1 : (ks t i).Pairwise (fun a b => nle t a b = true) := List.pairwise_mergeSort (fun a b c h1 h2 => by
    simp only [nle, decide_eq_true_eq] at *
    exact List.le_trans h1 h2) (fun a b => by
    simp only [nle, Bool.or_eq_true, decide_eq_true_eq]
    exact List.le_total _ _) _
  have h2 : (ks t i).Nodup := (List.mergeSort_perm _ _).nodup_iff.2 (kd_nodup t i)
  have h3 : (ks t i).Pairwise (fun a b => nle t a b = true ∧ a ≠ b) := h1.and h2
  refine List.Pairwise.imp_of_mem (fun {a b} ha hb hab => ?_) h3
  obtain ⟨h4, h5⟩ := hab
  obtain ⟨a1, a2⟩ := mem_ks.1 ha
  obtain ⟨b1, b2⟩ := mem_ks.1 hb
  simp only [nle, decide_eq_true_eq] at h4
  rcases Classical.em (nmo t a < nmo t b) with h6 | h6
  · exact h6
  · exact absurd (kid_name h a1 b1 a2 b2 (List.le_antisymm h4 (List.not_lt.1 h6))) h5
theorem ks_uniq (h : VT t) (i : Nat) {l : List Nat} (h1 : l.Pairwise fun a b => nmo t a < nmo t b) (h2 : ∀ x, x ∈ l ↔ x ∈ kd t i) : l = ks t i :=
  uniq_sorted (r := fun a b => nmo t a < nmo t b) (fun a => List.lt_irrefl _) (fun a b c => List.lt_trans) h1 (ks_sorted h i) (fun x => by rw [h2, mem_kd, mem_ks])
/-- the same from a list without descents -/
theorem ks_uniq' (h : VT t) (i : Nat) {l : List Nat} (h1 : l.Pairwise fun a b => ¬ nmo t b < nmo t a) (h2 : l.Perm (kd t i)) : l = ks t i := by
  refine ks_uniq h i ?_ (fun x => h2.mem_iff)
  have h3 : l.Nodup := h2.nodup_iff.2 (kd_nodup t i)
  refine List.Pairwise.imp_of_mem (fun {a b} ha hb hab => ?_) (h1.and h3)
  obtain ⟨h4, h5⟩ := hab
  obtain ⟨a1, a2⟩ := mem_kd.1 (h2.mem_iff.1 ha)
  obtain ⟨b1, b2⟩ := mem_kd.1 (h2.mem_iff.1 hb)
  rcases Classical.em (nmo t a < nmo t b) with h6 | h6
  · exact h6
  · exact absurd (kid_name h a1 b1 a2 b2 (List.le_antisymm (List.not_lt.1 h4) (List.not_lt.1 h6))) h5
theorem mem_wk (h : VT t) : ∀ (f i : Nat), i < t.length → t.length ≤ f + i + 1 → ∀ j, j ∈ wk t f i ↔ j < t.length ∧ np t i <+: np t j
  | 0, i, hi, hf, j => by
    simp only [wk, List.mem_singleton]
    constructor
    · rintro rfl; exact ⟨hi, List.prefix_refl _⟩
    · rintro ⟨hj, l, hl⟩
      obtain ⟨k, hk, e⟩ := np_up h j hj _ _ hl.symm
      have := np_inj h k (by omega) i hi e
      have : j = i := by omega
      exact this
  | f + 1, i, hi, hf, j => by
    simp only [wk, List.mem_cons, List.mem_flatMap]
    constructor
    · rintro (rfl | ⟨k, hk, hj⟩)
      · exact ⟨hi, List.prefix_refl _⟩
      · obtain ⟨k1, k2⟩ := mem_ks.1 hk
        obtain ⟨k3, k4⟩ := kd_pos h k1 k2
        obtain ⟨h1, h2⟩ := (mem_wk h f k k1 (by omega) j).1 hj
        rw [k4] at h2
        exact ⟨h1, (List.prefix_append _ _).trans h2⟩
    · rintro ⟨hj, l, hl⟩
      cases l with
      | nil =>
        rw [List.append_nil] at hl
        exact .inl (np_inj h j hj i hi hl.symm)
      | cons n l =>
        have hl' : np t j = (np t i ++ [n]) ++ l := by rw [← hl]; simp
        obtain ⟨k, hk, e⟩ := np_up h j hj _ _ hl'
        have k0 : 0 < k := by
          rcases Nat.eq_zero_or_pos k with rfl | k0
          · rw [np_zero h] at e; simp at e
          · exact k0
        rw [np_pos h k0 (by omega)] at e
        have e1 := List.append_inj' e rfl
        have p1 := h.par k k0 (by omega)
        have e2 := np_inj h _ (by omega) _ hi e1.1
        have e3 : pa t k = (i : Int) := by omega
        refine .inr ⟨k, mem_ks.2 ⟨by omega, e3⟩, (mem_wk h f k (by omega) (by omega) j).2 ⟨hj, l, ?_⟩⟩
        have e4 := (kd_pos h (by omega : k < t.length) e3).2
        have e5 : nmo t k = n := by simpa using e1.2
        rw [e4, e5, hl']
theorem wk_sorted (h : VT t) : ∀ (f i : Nat), i < t.length → t.length ≤ f + i + 1 → (wk t f i).Pairwise (fun a b => np t a < np t b)
  | 0, i, hi, hf => by simp [wk]
  | f + 1, i, hi, hf => by
    rw [wk, List.pairwise_cons]
    constructor
    · intro j hj
      rw [List.mem_flatMap] at hj
      obtain ⟨k, hk, hj⟩ := hj
      obtain ⟨k1, k2⟩ := mem_ks.1 hk
      obtain ⟨k3, k4⟩ := kd_pos h k1 k2
      obtain ⟨h1, l, h2⟩ := (mem_wk h f k k1 (by omega) j).1 hj
      rw [← h2, k4, List.append_assoc]
      exact lt_prefix _ (by simp)
    · rw [List.pairwise_flatMap]
      constructor
      · intro k hk
        obtain ⟨k1, k2⟩ := mem_ks.1 hk
        have := kd_pos h k1 k2
        exact wk_sorted h f k k1 (by omega)
      · refine List.Pairwise.imp_of_mem (fun {a b} ha hb hab => ?_) (ks_sorted h i)
        obtain ⟨a1, a2⟩ := mem_ks.1 ha
        obtain ⟨b1, b2⟩ := mem_ks.1 hb
        obtain ⟨a3, a4⟩ := kd_pos h a1 a2
        obtain ⟨b3, b4⟩ := kd_pos h b1 b2
        intro x hx y hy
        obtain ⟨_, l, h2⟩ := (mem_wk h f a a1 (by omega) x).1 hx
        obtain ⟨_, l', h3⟩ := (mem_wk h f b b1 (by omega) y).1 hy
        rw [← h2, ← h3, a4, b4, List.append_assoc, List.append_assoc, lt_left]
        exact List.cons_lt_cons_iff.2 (.inl hab)
/-- the whole walk -/
def walkT (t : List Nod) : List Nat := wk t t.length 0
theorem mem_walk (h : VT t) {j : Nat} : j ∈ walkT t ↔ j < t.length := by
  rw [walkT, mem_wk h _ _ h.lo (by omega), np_zero h]
  simp
theorem walk_sorted (h : VT t) : (walkT t).Pairwise (fun a b => np t a < np t b) := wk_sorted h _ _ h.lo (by omega)
theorem walk_nodup (h : VT t) : (walkT t).Nodup := by
  refine List.Pairwise.imp (fun {a b} hab => ?_) (walk_sorted h)
  rintro rfl
  exact List.lt_irrefl _ hab
theorem walk_len (h : VT t) : (walkT t).length = t.length := by
  have h1 := len_sub (walk_nodup h) (l' := List.range t.length) (fun x hx => by simpa using (mem_walk h).1 hx)
  have h2 := len_sub (List.nodup_range (n := t.length)) (l' := walkT t) (fun x hx => (mem_walk h).2 (by simpa using hx))
  simp at h1 h2
  omega
theorem walk_head (t : List Nod) (h : t ≠ []) : ∃ l, walkT t = 0 :: l := by
  cases t with
  | nil => exact absurd rfl h
  | cons a l => exact ⟨_, rfl⟩
/-- the paths and values of a tree -/
def ent (t : List Nod) : List Edt := (walkT t).map fun i => ⟨0, ptx (np t i), va t i⟩
/-- the same paths and values -/
def sameP (a b : List Nod) : Prop := a.length = b.length ∧ ∀ n, n < a.length → ∃ m, loo b (np a n) = some m ∧ va a n = va b m
theorem sameP_iff {a b : List Nod} (ha : VT a) (hb : VT b) (hl : a.length = b.length) : ent a = ent b ↔ sameP a b := by
  constructor
  · intro e
    refine ⟨hl, fun n hn => ?_⟩
    have : (⟨0, ptx (np a n), va a n⟩ : Edt) ∈ ent a := List.mem_map.2 ⟨n, (mem_walk ha).2 hn, rfl⟩
    rw [e] at this
    obtain ⟨m, hm, e2⟩ := List.mem_map.1 this
    have hm := (mem_walk hb).1 hm
    simp only [Edt.mk.injEq, true_and] at e2
    refine ⟨m, (loo_iff hb).2 ⟨hm, ptx_inj (np_names hb m hm) (np_names ha n hn) e2.1⟩, e2.2.symm⟩
  · rintro ⟨_, h⟩
    have key : (walkT a).map (fun i => (np a i, va a i)) = (walkT b).map (fun i => (np b i, va b i)) := by
      refine uniq_sorted (r := fun (x y : List Str × Int) => x.1 < y.1) (fun x => List.lt_irrefl _) (fun x y z => List.lt_trans) (List.pairwise_map.2 (walk_sorted ha)) (List.pairwise_map.2 (walk_sorted hb)) ?_
      have s1 : ∀ x, x ∈ (walkT a).map (fun i => (np a i, va a i)) → x ∈ (walkT b).map (fun i => (np b i, va b i)) := by
        intro x hx
        obtain ⟨n, hn, rfl⟩ := List.mem_map.1 hx
        obtain ⟨m, h1, h2⟩ := h n ((mem_walk ha).1 hn)
        obtain ⟨h3, h4⟩ := (loo_iff hb).1 h1
        exact List.mem_map.2 ⟨m, (mem_walk hb).2 h3, by simp only [h4, h2]⟩
      intro x
      refine ⟨s1 x, fun hx => ?_⟩
      rcases Classical.em (x ∈ (walkT a).map (fun i => (np a i, va a i))) with h1 | h1
      · exact h1
      · have hn : (x :: (walkT a).map (fun i => (np a i, va a i))).Nodup := by
          refine List.nodup_cons.2 ⟨h1, ?_⟩
          have hp : ((walkT a).map (fun i => (np a i, va a i))).Pairwise (fun (x y : List Str × Int) => x.1 < y.1) := List.pairwise_map.2 (walk_sorted ha)
          refine List.Pairwise.imp (fun {p q} hpq => ?_) hp
          rintro rfl
          exact List.lt_irrefl _ hpq
        have := len_sub hn (l' := (walkT b).map (fun i => (np b i, va b i))) (fun y hy => by
          rcases List.mem_cons.1 hy with rfl | hy
          · exact hx
          · exact s1 y hy)
        simp [walk_len ha, walk_len hb] at this
        omega
    have := congrArg (List.map fun (p : List Str × Int) => (⟨0, ptx p.1, p.2⟩ : Edt)) key
    rw [List.map_map, List.map_map] at this
    exact this
end
section
open Go
theorem implName_ex (s : Str) : Ex (fun n => impl_isName n s) (· = nameOk s) := by
  unfold impl_isName
  cases hw : impl_within ((s.length : Nat) : Int) 1 4 with
  | false =>
    refine Ex.yes rfl (Ex.ret ?_)
    simp only [impl_within, Bool.and_eq_false_iff, decide_eq_false_iff_not] at hw
    rw [eq_comm, Bool.eq_false_iff]
    intro h
    simp only [nameOk, Bool.and_eq_true, decide_eq_true_eq] at h
    omega
  | true =>
    simp only [impl_within, Bool.and_eq_true, decide_eq_true_eq] at hw
    have e : nameOk s = s.all ch := by
      simp only [nameOk]
      rw [decide_eq_true (by omega), decide_eq_true (by omega)]; simp
    refine Ex.no rfl ?_
    refine Ex.be (a := if s.all ch = true then .inr () else .inl ()) ?_ ?_
    · refine upU s.length (fun k => (s.drop k).all ch = s.all ch) ?_ ?_ 0 (Nat.zero_le _) (by simp)
      · intro k hk hi next
        simp only [impl_isName_L1, Int.toNat_natCast]
        rw [all_split ch 0 hk] at hi
        refine Ex.yes (decide_eq_true (by omega)) (Ex.guard (by omega) ?_)
        refine Ex.be (a := !ch (s.getD k 0)) ?_ ?_
        · refine Ex.ite (fun h => Ex.ret ?_) (fun h => Ex.guard (by omega) (Ex.ret ?_))
          · have := of_decide_eq_true h
            rw [ch, decide_eq_false (by omega)]; rfl
          · have := of_decide_eq_false h
            rw [ch, decide_eq_true (p := 97 ≤ _) (by omega), Bool.true_and]
            rcases Nat.lt_or_ge 122 (s.getD k 0).toNat with h | h
            · rw [decide_eq_true (by omega), decide_eq_false (by omega)]; rfl
            · rw [decide_eq_false (by omega), decide_eq_true (by omega)]; rfl
        · cases hc : ch (s.getD k 0) with
          | false =>
            rw [hc, Bool.false_and] at hi
            refine Ex.yes rfl (Ex.ret ?_)
            rw [← hi]; rfl
          | true =>
            rw [hc, Bool.true_and] at hi
            rw [w64_succ (by omega)]
            exact Ex.no rfl (next hi)
      · intro hi
        simp only [impl_isName_L1]
        refine Ex.no (decide_eq_false (by omega)) (Ex.ret ?_)
        rw [← hi]; simp
    · rw [e]
      cases s.all ch with
      | true => exact Ex.ret rfl
      | false => exact Ex.ret rfl
theorem specName_ex {s : Str} (hs : s.length ≤ 1000000000000) : Ex (fun n => spec_validName n s) (· = nameOk s) := by
  unfold spec_validName
  refine Ex.be (a := if s.all ch = true then .inr () else .inl ()) ?_ ?_
  · refine upU s.length (fun k => (s.drop k).all ch = s.all ch) ?_ ?_ 0 (Nat.zero_le _) (by simp)
    · intro k hk hi next
      simp only [spec_validName_L1, Int.toNat_natCast]
      rw [all_split ch 0 hk] at hi
      refine Ex.yes (decide_eq_true (by omega)) (Ex.guard (by omega) ?_)
      have hlt := UInt8.toNat_lt (s.getD k 0)
      have e : spec_inRange (w64 ((s.getD k 0).toNat : Int)) 97 122 = ch (s.getD k 0) := by
        rw [w64_id (by omega) (by omega), spec_inRange, ch, Bool.eq_iff_iff]
        simp only [Bool.and_eq_true, decide_eq_true_eq]; omega
      rw [e]
      cases hc : ch (s.getD k 0) with
      | false =>
        rw [hc, Bool.false_and] at hi
        refine Ex.yes rfl (Ex.ret ?_)
        rw [← hi]; rfl
      | true =>
        rw [hc, Bool.true_and] at hi
        rw [w64_succ (by omega)]
        exact Ex.no rfl (next hi)
    · intro hi
      simp only [spec_validName_L1]
      refine Ex.no (decide_eq_false (by omega)) (Ex.ret ?_)
      rw [← hi]; simp
  · have e : spec_inRange ((s.length : Nat) : Int) 1 4 = (decide (1 ≤ s.length) && decide (s.length ≤ 4)) := by
      rw [spec_inRange, Bool.eq_iff_iff]
      simp only [Bool.and_eq_true, decide_eq_true_eq]; omega
    rw [nameOk, e]
    cases s.all ch with
    | true => exact Ex.ret (by simp)
    | false => exact Ex.ret (by simp)
theorem implKid_ex {l : List Nod} (hl : l.length ≤ 1000000000000) (p : Int) (s : Str) : Ex (fun n => impl_kidIn n l p s) (· = firstAt (sib p s) l 0) := by
  unfold impl_kidIn
  refine Ex.bind (P := fun v => (match v with | .inl i => i | .inr _ => -1) = firstAt (sib p s) l 0) ?_ ?_
  · refine upU l.length (fun k => firstAt (sib p s) (l.drop k) k = firstAt (sib p s) l 0) ?_ ?_ 0 (Nat.zero_le _) rfl
    · intro k hk hi next
      simp only [impl_kidIn_L1, Int.toNat_natCast]
      rw [drop_at dnod hk, firstAt] at hi
      refine Ex.yes (decide_eq_true (by omega)) (Ex.guard (by omega) ?_)
      refine Ex.ite (fun h => Ex.ret ?_) (fun h => ?_)
      · have h : sib p s (l.getD k dnod) = true := h
        rw [if_pos h] at hi; exact hi
      · have h : sib p s (l.getD k dnod) = false := h
        rw [if_neg (by rw [h]; simp)] at hi
        rw [w64_succ (by omega)]
        exact next hi
    · intro hi
      simp only [impl_kidIn_L1]
      refine Ex.no (decide_eq_false (by omega)) (Ex.ret ?_)
      rw [List.drop_length, firstAt] at hi; exact hi
  · intro v hv
    rcases v with i | u
    · exact Ex.ret hv
    · exact Ex.ret hv
theorem specKid_ex {l : List Nod} (hl : l.length ≤ 1000000000000) (p : Int) (s : Str) : Ex (fun n => spec_kid n l p s) (· = firstAt (sib p s) (l.drop 1) 1) := by
  unfold spec_kid
  refine Ex.bind (P := fun v => (match v with | .inl i => i | .inr _ => -1) = firstAt (sib p s) (l.drop 1) 1) ?_ ?_
  · rcases Nat.eq_zero_or_pos l.length with hz | hz
    · have : l = [] := List.eq_nil_of_length_eq_zero hz
      subst this
      refine Ex.succ ?_
      simp only [spec_kid_L1]
      exact Ex.no rfl (Ex.ret rfl)
    · refine upU l.length (fun k => firstAt (sib p s) (l.drop k) k = firstAt (sib p s) (l.drop 1) 1) ?_ ?_ 1 hz rfl
      · intro k hk hi next
        simp only [spec_kid_L1, Int.toNat_natCast]
        rw [drop_at dnod hk, firstAt] at hi
        refine Ex.yes (decide_eq_true (by omega)) (Ex.guard (by omega) ?_)
        refine Ex.be (a := sib p s (l.getD k dnod)) (Ex.ite (fun h => Ex.guard (by omega) (Ex.ret ?_)) (fun h => Ex.ret ?_)) ?_
        · rw [sib, h]; simp
        · rw [sib, h]; simp
        · cases h : sib p s (l.getD k dnod) with
          | true => rw [if_pos h] at hi; exact Ex.yes rfl (Ex.ret hi)
          | false =>
            rw [if_neg (by rw [h]; simp)] at hi
            rw [w64_succ (by omega)]
            exact Ex.no rfl (next hi)
      · intro hi
        simp only [spec_kid_L1]
        refine Ex.no (decide_eq_false (by omega)) (Ex.ret ?_)
        rw [List.drop_length, firstAt] at hi; exact hi
  · intro v hv
    rcases v with i | u
    · exact Ex.ret hv
    · exact Ex.ret hv
theorem depth_loop {t : List Nod} (hl : t.length ≤ 1000000000) : ∀ (i : Nat) (d : Int), i < t.length → (∀ j, j ≤ i → PO t j) → 0 ≤ d → d + i ≤ 1000000000 →
    Ex (fun n => spec_depth_L1 t n (i : Int) d) (· = d + (dp t i : Nat)) := by
  intro i
  induction i using Nat.strongRecOn with
  | ind i ih =>
    intro d hi hp hd hdi
    refine Ex.succ ?_
    simp only [spec_depth_L1, Int.toNat_natCast]
    have hpi := hp i (Nat.le_refl _)
    refine Ex.guard (by omega) ?_
    rcases Nat.eq_zero_or_pos i with hz | hz
    · have e : (t.getD i dnod).parent = -1 := by rw [PO, if_pos hz] at hpi; exact hpi
      refine Ex.no (decide_eq_false (by omega)) (Ex.ret ?_)
      rw [dp, dif_neg (by omega)]; simp
    · rw [PO, if_neg (by omega)] at hpi
      refine Ex.yes (decide_eq_true hpi.1) (Ex.guard (by omega) ?_)
      rw [w64_id (by omega) (by omega)]
      have := ih (t.getD i dnod).parent.toNat hpi.2 (d + 1) (by omega) (fun j hj => hp j (by omega)) (by omega) (by omega)
      rw [Int.toNat_of_nonneg hpi.1] at this
      refine Ex.mono this ?_
      intro r hr
      rw [hr, dp.eq_1 t i, dif_pos hpi]; omega
theorem depth_ex {t : List Nod} (hl : t.length ≤ 400000000) {i : Nat} (hi : i < t.length) (hp : ∀ j, j ≤ i → PO t j) : Ex (fun n => spec_depth n t (i : Int)) (· = (dp t i : Nat)) := by
  unfold spec_depth
  refine Ex.be (depth_loop (by omega) i 0 hi hp (Int.le_refl 0) (by omega)) (Ex.ret (by simp))
theorem specNode_ex {t : List Nod} (hn : NL t) (hl : t.length ≤ 400000000) {i : Nat} (hi : i < t.length) (ho : okTo t i) : Ex (fun n => spec_validNode n t (i : Int)) (· = nodeOk t i) := by
  unfold spec_validNode
  simp only [Int.toNat_natCast]
  refine Ex.guard (by omega) ?_
  have e : spec_inRange (t.getD i dnod).value (-1000) 1000 = rv (t.getD i dnod).value := rfl
  rw [e, nodeOk]
  cases hr : rv (t.getD i dnod).value with
  | false => exact Ex.yes rfl (Ex.ret rfl)
  | true =>
    refine Ex.no rfl ?_
    rw [Bool.true_and]
    rcases Nat.eq_zero_or_pos i with hz | hz
    · refine Ex.yes (decide_eq_true (by omega)) (Ex.guard (by omega) (Ex.be (a := decide ((t.getD i dnod).parent = -1) && decide ((t.getD i dnod).name = [])) ?_ (Ex.ret ?_)))
      · refine Ex.ite (fun h => Ex.guard (by omega) (Ex.ret ?_)) (fun h => Ex.ret ?_)
        · rw [h]; rfl
        · rw [h]; rfl
      · rw [if_pos hz]
    · refine Ex.no (decide_eq_false (by omega)) (Ex.guard (by omega) ?_)
      rw [w64_id (by omega) (by omega), if_neg (by omega)]
      refine Ex.bind (P := fun r => r = _) ?_ (fun r hr => Ex.ret hr)
      have e2 : spec_inRange (t.getD i dnod).parent 0 ((i : Int) - 1) = (decide (0 ≤ (t.getD i dnod).parent) && decide ((t.getD i dnod).parent ≤ (i : Int) - 1)) := rfl
      rw [e2]
      refine Ex.ite (fun h => ?_) (fun h => ?_)
      · rw [h, Bool.true_and]
        simp only [Bool.and_eq_true, decide_eq_true_eq] at h
        refine Ex.guard (by omega) (Ex.be (specName_ex (hn.2 _ (getD_mem hi))) ?_)
        refine Ex.ite (fun h1 => ?_) (fun h1 => ?_)
        · rw [h1, Bool.true_and]
          refine Ex.guard (by omega) (Ex.guard (by omega) (Ex.guard (by omega) ?_))
          rw [List.drop_zero]
          refine Ex.be (specKid_ex (by simp; omega) _ _) ?_
          have h3 := no_root (nodeOk_PO (ho 0 hz)) h.1 (t.getD i dnod).name hz hi
          refine Ex.ite (fun h4 => ?_) (fun h4 => ?_)
          · rw [h3.1 (of_decide_eq_true h4)]
            refine Ex.be (depth_ex hl hi (fun j hj => ?_)) (Ex.ret (by simp; omega))
            rcases Nat.eq_or_lt_of_le hj with rfl | hj
            · rw [PO, if_neg (by omega)]; omega
            · exact nodeOk_PO (ho j hj)
          · have := of_decide_eq_false h4
            have h5 : (t.take i).any (sib (t.getD i dnod).parent (t.getD i dnod).name) = true := by
              rw [← Bool.not_eq_false]; exact fun h => this (h3.2 h)
            rw [h5]; exact Ex.ret rfl
        · rw [h1]; exact Ex.ret rfl
      · rw [h]; exact Ex.ret rfl
theorem specTree_ex {t : List Nod} (hn : NL t) (hl : t.length ≤ 400000000) : Ex (fun n => spec_validTree n t) (· = validT t) := by
  unfold spec_validTree
  refine Ex.be (a := if (List.range t.length).all (nodeOk t) = true then .inr () else .inl ()) ?_ ?_
  · refine upU t.length (fun k => okTo t k) ?_ ?_ 0 (Nat.zero_le _) (fun j hj => by omega)
    · intro k hk hi next
      simp only [spec_validTree_L1]
      refine Ex.yes (decide_eq_true (by omega)) (Ex.be (specNode_ex hn hl hk hi) ?_)
      cases h : nodeOk t k with
      | false =>
        refine Ex.yes rfl (Ex.ret ?_)
        rw [all_range_false hk h]; rfl
      | true =>
        rw [w64_succ (by omega)]
        refine Ex.no rfl (next (fun j hj => ?_))
        rcases Nat.eq_or_lt_of_le (Nat.le_of_lt_succ hj) with rfl | h1
        · exact h
        · exact hi j h1
    · intro hi
      simp only [spec_validTree_L1]
      refine Ex.no (decide_eq_false (by omega)) (Ex.ret ?_)
      rw [all_range.2 hi]; rfl
  · have e : spec_inRange ((t.length : Nat) : Int) 1 12 = (decide (1 ≤ t.length) && decide (t.length ≤ 12)) := by
      rw [spec_inRange, Bool.eq_iff_iff]
      simp only [Bool.and_eq_true, decide_eq_true_eq]; omega
    rw [validT, e]
    cases (List.range t.length).all (nodeOk t) with
    | true => exact Ex.ret (by simp)
    | false => exact Ex.ret (by simp)
theorem implTree_ex (t : List Nod) : Ex (fun n => impl_ValidTree n t) (· = validT t) := by
  unfold impl_ValidTree
  refine Ex.ite (fun h => Ex.ret ?_) (fun h => ?_)
  · simp only [Bool.or_eq_true, decide_eq_true_eq] at h
    rw [eq_comm, Bool.eq_false_iff]
    intro h'
    simp only [validT, Bool.and_eq_true, decide_eq_true_eq] at h'
    omega
  · simp only [Bool.or_eq_false_iff, decide_eq_false_iff_not] at h
    have hl : 1 ≤ t.length ∧ t.length ≤ 12 := by omega
    refine Ex.guard (by omega) ?_
    have hbad : (decide ((t.getD 0 dnod).parent = -1) && decide ((t.getD 0 dnod).name = [])) = false → validT t = false := by
      intro hf
      rw [Bool.eq_false_iff]
      intro h'
      simp only [validT, Bool.and_eq_true] at h'
      have := all_range.1 h'.2 0 (by omega)
      rw [nodeOk, if_pos rfl, hf, Bool.and_false] at this
      cases this
    refine Ex.be (a := !(decide ((t.getD 0 dnod).parent = -1) && decide ((t.getD 0 dnod).name = []))) ?_ ?_
    · cases hp : decide ((t.getD 0 dnod).parent = -1) with
      | true => exact Ex.no rfl (Ex.guard (by omega) (Ex.ret rfl))
      | false => exact Ex.yes rfl (Ex.ret rfl)
    · refine Ex.ite (fun hb => Ex.ret ?_) (fun hb => ?_)
      · rw [hbad (notT hb)]
      · have hroot : (decide ((t.getD 0 dnod).parent = -1) && decide ((t.getD 0 dnod).name = [])) = true := notF hb
        have e : validT t = (List.range t.length).all (nodeOk t) := by
          rw [validT, decide_eq_true hl.1, decide_eq_true hl.2]; simp
        refine Ex.guard (by omega) ?_
        refine Ex.be (a := if (List.range t.length).all (nodeOk t) = true then .inr () else .inl ()) ?_ ?_
        · refine up t.length (fun k (ds : List Int) => ds.length = t.length ∧ okTo t k ∧ ∀ j, j < t.length → (j < k ∨ j = 0) → ds.getD j 0 = (dp t j : Nat)) (f := fun n ds i => impl_ValidTree_L1 t n ds i) ?_ ?_ 0 _ (Nat.zero_le _) ⟨by simp, fun j hj => by omega, ?_⟩
          · rintro k ds hk ⟨h1, h2, h3⟩ next
            simp only [impl_ValidTree_L1, Int.toNat_natCast]
            refine Ex.yes (decide_eq_true (by omega)) ?_
            refine Ex.bind (P := fun v => (nodeOk t k = false ∧ v = .inl ()) ∨ (nodeOk t k = true ∧ ∃ ds' : List Int, v = .inr ds' ∧ (ds'.length = t.length ∧ ∀ j, j < t.length → (j < k + 1 ∨ j = 0) → ds'.getD j 0 = ((dp t j : Nat) : Int)))) ?_ ?_
            · refine Ex.guard (by omega) ?_
              have e1 : impl_within (t.getD k dnod).value (-1000) 1000 = rv (t.getD k dnod).value := rfl
              rw [e1, nodeOk]
              cases hr : rv (t.getD k dnod).value with
              | false => exact Ex.yes rfl (Ex.ret (.inl ⟨rfl, rfl⟩))
              | true =>
                rw [Bool.true_and]
                refine Ex.no rfl ?_
                rcases Nat.eq_zero_or_pos k with hz | hz
                · subst hz
                  refine Ex.yes rfl (Ex.ret (.inr ⟨?_, ds, rfl, h1, fun j hj hj' => h3 j hj (by omega)⟩))
                  rw [if_pos rfl]; exact hroot
                · refine Ex.no (decide_eq_false (by omega)) ?_
                  rw [if_neg (by omega), w64_id (by omega) (by omega)]
                  have e2 : impl_within (t.getD k dnod).parent 0 ((k : Int) - 1) = (decide (0 ≤ (t.getD k dnod).parent) && decide ((t.getD k dnod).parent ≤ (k : Int) - 1)) := rfl
                  rw [e2]
                  refine Ex.be (a := !((decide (0 ≤ (t.getD k dnod).parent) && decide ((t.getD k dnod).parent ≤ (k : Int) - 1)) && nameOk (t.getD k dnod).name)) ?_ ?_
                  · cases (decide (0 ≤ (t.getD k dnod).parent) && decide ((t.getD k dnod).parent ≤ (k : Int) - 1)) with
                    | false => exact Ex.yes rfl (Ex.ret rfl)
                    | true => exact Ex.no rfl (Ex.be (implName_ex _) (Ex.ret rfl))
                  · rw [← Bool.and_assoc]
                    refine Ex.ite (fun hb1 => ?_) (fun hb1 => ?_)
                    · rw [show ((decide (0 ≤ (t.getD k dnod).parent) && decide ((t.getD k dnod).parent ≤ (k : Int) - 1)) && nameOk (t.getD k dnod).name) = false from notT hb1]
                      exact Ex.ret (.inl ⟨rfl, rfl⟩)
                    · have hb2 : ((decide (0 ≤ (t.getD k dnod).parent) && decide ((t.getD k dnod).parent ≤ (k : Int) - 1)) && nameOk (t.getD k dnod).name) = true := notF hb1
                      rw [hb2, Bool.true_and]
                      simp only [Bool.and_eq_true, decide_eq_true_eq] at hb2
                      refine Ex.guard (by omega) ?_
                      rw [List.drop_zero]
                      refine Ex.be (implKid_ex (by simp; omega) _ _) ?_
                      have hf := firstAt_iff (sib (t.getD k dnod).parent (t.getD k dnod).name) (t.take k) 0
                      refine Ex.ite (fun h4 => ?_) (fun h4 => ?_)
                      · rw [hf.1 (of_decide_eq_true h4)]; exact Ex.ret (.inl ⟨rfl, rfl⟩)
                      · have h5 : (t.take k).any (sib (t.getD k dnod).parent (t.getD k dnod).name) = false := by
                          rw [← Bool.not_eq_true, ← hf]; exact of_decide_eq_false h4
                        rw [h5]
                        refine Ex.guard (by omega) (Ex.guard (by omega) (Ex.guard (by simp; omega) ?_))
                        have e3 := h3 (t.getD k dnod).parent.toNat (by omega) (.inl (by omega))
                        have e4 : dp t k = dp t (t.getD k dnod).parent.toNat + 1 := by rw [dp.eq_1 t k, dif_pos (by omega)]
                        have e5 := dp_le (t := t) (t.getD k dnod).parent.toNat
                        have e6 : w64 (ds.getD (t.getD k dnod).parent.toNat 0 + 1) = (dp t k : Nat) := by
                          rw [e3, w64_id (by omega) (by omega)]; omega
                        refine Ex.ite (fun h6 => ?_) (fun h6 => ?_)
                        · have := of_decide_eq_true h6
                          rw [getD_set' (by omega), if_pos rfl, e6] at this
                          rw [decide_eq_false (by omega)]; exact Ex.ret (.inl ⟨rfl, rfl⟩)
                        · have := of_decide_eq_false h6
                          rw [getD_set' (by omega), if_pos rfl, e6] at this
                          rw [decide_eq_true (by omega), e6]
                          refine Ex.ret (.inr ⟨rfl, _, rfl, by simpa using h1, fun j hj hj' => ?_⟩)
                          rw [getD_set' (by omega)]
                          split
                          · rename_i e; subst e; omega
                          · exact h3 j hj (by omega)
            · rintro v (⟨hf, rfl⟩ | ⟨hf, ds', rfl, h4, h5⟩)
              · refine Ex.ret ?_
                rw [all_range_false hk hf]; rfl
              · show Ex (fun n => impl_ValidTree_L1 t n ds' (w64 ((k : Int) + 1))) _
                rw [w64_succ (by omega)]
                refine next ds' ⟨h4, fun j hj => ?_, h5⟩
                rcases Nat.eq_or_lt_of_le (Nat.le_of_lt_succ hj) with rfl | h6
                · exact hf
                · exact h2 j h6
          · rintro ds ⟨h1, h2, h3⟩
            simp only [impl_ValidTree_L1]
            refine Ex.no (decide_eq_false (by omega)) (Ex.ret ?_)
            rw [all_range.2 h2]; rfl
          · intro j hj hj'
            obtain rfl : j = 0 := by omega
            have hp : (t.getD 0 dnod).parent = -1 := by simpa using (Bool.and_eq_true_iff.1 hroot).1
            rw [dp, dif_neg (by omega), List.getD_eq_getElem?_getD, List.getElem?_replicate]
            split
            · rfl
            · rfl
        · rw [e]
          cases (List.range t.length).all (nodeOk t) with
          | true => exact Ex.ret rfl
          | false => exact Ex.ret rfl
end
section
open Go
set_option linter.unusedVariables false
def nix (t : List Nod) (i : Nat) : List Int := (ix t i).map fun (k : Nat) => (k : Int)
theorem nix_len {t : List Nod} (i : Nat) : (nix t i).length = dp t i + 1 := by rw [nix, List.length_map, (np_ix i).2]
theorem ix_lt {t : List Nod} (h : VT t) : ∀ i, i < t.length → ∀ k ∈ ix t i, k < t.length := by
  intro i
  induction i using Nat.strongRecOn with
  | ind i ih =>
    intro hi k hk
    rcases Nat.eq_zero_or_pos i with rfl | h0
    · rw [ix, dif_neg (by omega)] at hk
      rw [List.mem_singleton.1 hk]; exact hi
    · rw [ix_pos h h0 hi] at hk
      have p := h.par i h0 hi
      rcases List.mem_append.1 hk with h1 | h1
      · exact ih _ p.2 (by omega) k h1
      · rw [List.mem_singleton.1 h1]; exact hi
theorem ix_names {t : List Nod} (i : Nat) : ((ix t i).drop 1).map (nmo t) = np t i := by
  rw [List.map_drop, (np_ix i).1]; rfl
theorem specPathTo_ex {t : List Nod} (h : VT t) {i : Nat} (hi : i < t.length) : Ex (fun n => spec_pathTo n t (i : Int)) (· = nix t i) := by
  have key : ∀ i, i < t.length → ∀ r : List Int, r.length + i ≤ 100 → Ex (fun n => spec_pathTo_L1 t n ((i : Int) :: r) (i : Int)) (· = nix t i ++ r) := by
    intro i
    induction i using Nat.strongRecOn with
    | ind i ih =>
      intro hi r hr
      refine Ex.succ ?_
      simp only [spec_pathTo_L1]
      rcases Nat.eq_zero_or_pos i with rfl | h0
      · refine Ex.no (decide_eq_false (by omega)) (Ex.ret ?_)
        rw [nix, ix, dif_neg (by omega)]; rfl
      · have p := h.par i h0 hi
        refine Ex.yes (decide_eq_true (by omega)) (Ex.guard (by omega) (Ex.guard (by simp; omega) ?_))
        rw [view_all, Int.toNat_natCast]
        have e : (t.getD i dnod).parent = (((pa t i).toNat : Nat) : Int) := by rw [Int.toNat_of_nonneg p.1]; rfl
        rw [e]
        have := ih _ p.2 (by omega) ((i : Int) :: r) (by simp; omega)
        refine Ex.mono this ?_
        rintro x rfl
        rw [nix, nix, ix_pos h h0 hi]; simp
  unfold spec_pathTo
  refine Ex.be (a := nix t i) ?_ (Ex.ret rfl)
  have := key i hi [] (by have := h.hi; simp; omega)
  rwa [List.append_nil] at this
theorem name_len {s : Str} (h : nameOk s = true) : s.length ≤ 4 := by
  simp only [nameOk, Bool.and_eq_true, decide_eq_true_eq] at h; exact h.1.2
theorem fm_len {c : UInt8} : ∀ {l : List Str}, (∀ s ∈ l, nameOk s = true) → (fm c l).length ≤ 5 * l.length
  | [], _ => by simp [fm_nil]
  | s :: l, h => by
    have := name_len (h s (by simp))
    have := fm_len (c := c) (l := l) (fun x hx => h x (by simp [hx]))
    rw [fm_cons]; simp only [List.length_cons, List.length_append]; omega
theorem np_le {t : List Nod} (h : VT t) {i : Nat} (hi : i < t.length) : (np t i).length ≤ 4 := by rw [np_len]; exact h.dep i hi
theorem ptx_len {t : List Nod} (h : VT t) {i : Nat} (hi : i < t.length) : (ptx (np t i)).length ≤ 20 := by
  have := np_le h hi
  rw [ptx]
  split
  · simp
  · have := fm_len (c := 47) (np_names h i hi); omega
theorem np_nil {t : List Nod} (h : VT t) {i : Nat} (hi : i < t.length) : np t i = [] ↔ i = 0 := by
  constructor
  · intro e
    rcases Nat.eq_zero_or_pos i with rfl | h0
    · rfl
    · rw [np_pos h h0 hi] at e; simp at e
  · rintro rfl; exact np_zero h
theorem nix_at {t : List Nod} (h : VT t) {i : Nat} (hi : i < t.length) {k : Nat} (hk : k < (ix t i).length) : (nix t i).getD k 0 = (((ix t i).getD k 0 : Nat) : Int) ∧ (ix t i).getD k 0 < t.length := by
  refine ⟨?_, ix_lt h i hi _ (getD_mem hk)⟩
  rw [nix, List.getD_eq_getElem?_getD, List.getElem?_map, List.getD_eq_getElem?_getD, List.getElem?_eq_getElem hk]; rfl
theorem specPathText_ex {t : List Nod} (h : VT t) {i : Nat} (hi : i < t.length) : Ex (fun n => spec_pathText n t (i : Int)) (· = ptx (np t i)) := by
  unfold spec_pathText
  refine Ex.be (specPathTo_ex h hi) (Ex.be (a := fm 47 (np t i)) ?_ ?_)
  · have hlen : (ix t i).length = (nix t i).length := by simp [nix]
    have hd := np_le h hi
    have hl2 := (np_ix (t := t) i).2
    rw [np_len] at hd
    refine up (nix t i).length (fun k (s : Str) => s ++ fm 47 (((ix t i).drop k).map (nmo t)) = fm 47 (np t i) ∧ s.length ≤ 5 * k) (f := fun n s i' => spec_pathText_L1 t i (nix t i) n s i') ?_ ?_ 1 [] (by omega) ⟨by rw [ix_names]; rfl, by simp⟩
    · rintro k s hk ⟨h1, h2⟩ next
      obtain ⟨a1, a2⟩ := nix_at h hi (k := k) (by omega)
      have hnm : (nmo t ((ix t i).getD k 0)).length ≤ 4 := by
        rcases Nat.eq_zero_or_pos ((ix t i).getD k 0) with e | e
        · rw [e, h.rn]; simp
        · exact name_len (h.nam _ e a2)
      simp only [spec_pathText_L1, Int.toNat_natCast, a1]
      rw [nmo] at hnm
      refine Ex.yes (decide_eq_true (by omega)) (Ex.guard (by simp; omega) (Ex.guard (by omega) (Ex.guard (by omega) (Ex.guard (by simp only [List.length_append, List.length_singleton]; omega) ?_))))
      rw [w64_succ (by omega)]
      refine next _ ⟨?_, by simp only [List.length_append, List.length_singleton]; omega⟩
      rw [← h1, drop_at 0 (show k < (ix t i).length by omega), List.map_cons, fm_cons, nmo]
      simp
    · rintro s ⟨h1, h2⟩
      simp only [spec_pathText_L1]
      refine Ex.no (decide_eq_false (by omega)) (Ex.ret ?_)
      rw [← h1, List.drop_eq_nil_of_le (by omega)]; simp [fm_nil]
  · rw [ptx]
    refine Ex.ite (fun hb => Ex.ret ?_) (fun hb => Ex.ret ?_)
    · have := of_decide_eq_true hb
      rw [if_pos ((np_nil h hi).2 (by omega))]
    · have := of_decide_eq_false hb
      rw [if_neg (fun e => this (by rw [(np_nil h hi).1 e]; rfl))]
theorem implNode_ex {t : List Nod} (hl : t.length ≤ 1000000000000) (i : Int) : Ex (fun n => impl_isNode n t i) (· = (decide (0 ≤ i ∧ i < t.length) && validT t)) := by
  unfold impl_isNode
  rw [w64_id (by omega) (by omega)]
  refine Ex.bind (P := fun r => r = _) ?_ (fun r hr => Ex.ret hr)
  have e : impl_within i 0 ((t.length : Int) - 1) = decide (0 ≤ i ∧ i < t.length) := by
    rw [impl_within, Bool.eq_iff_iff]; simp only [Bool.and_eq_true, decide_eq_true_eq]; omega
  rw [e]
  refine Ex.ite (fun hb => ?_) (fun hb => ?_)
  · rw [hb, Bool.true_and]; exact Ex.be (implTree_ex t) (Ex.ret rfl)
  · rw [hb]; exact Ex.ret rfl
theorem reverse_ex (x : List Int) (hx : x.length ≤ 1000000) : Ex (fun n => slices_Reverse_int_int n x x.length) (· = x.reverse) := by
  have key : ∀ (m i j : Nat) (s : List Int), i + j + 1 = x.length → j ≤ m + i → s.length = x.length → (∀ k, k < x.length → s.getD k 0 = if k < i ∨ j < k then x.reverse.getD k 0 else x.getD k 0) → Ex (fun n => slices_Reverse_int_int_L1 x.length n s i j) (· = x.reverse) := by
    intro m
    induction m with
    | zero =>
      intro i j s h1 h2 h3 h4
      refine Ex.succ ?_
      simp only [slices_Reverse_int_int_L1]
      refine Ex.no (decide_eq_false (by omega)) (Ex.ret ?_)
      refine List.ext_getElem (by simpa using h3) (fun k k1 k2 => ?_)
      have := h4 k (by omega)
      rw [List.getD_eq_getElem?_getD, List.getElem?_eq_getElem k1] at this
      simp only [Option.getD_some] at this
      rw [this]
      split
      · rw [List.getD_eq_getElem?_getD, List.getElem?_eq_getElem k2]; rfl
      · have e : k = i ∧ k = j := by omega
        rw [List.getElem_reverse, List.getD_eq_getElem?_getD, List.getElem?_eq_getElem (by omega)]
        simp only [Option.getD_some]
        congr 1; omega
    | succ m ih =>
      intro i j s h1 h2 h3 h4
      rcases Nat.lt_or_ge i j with hij | hij
      · refine Ex.succ ?_
        simp only [slices_Reverse_int_int_L1, Int.toNat_natCast]
        refine Ex.yes (decide_eq_true (by omega)) (Ex.guard (by omega) (Ex.guard (by omega) (Ex.guard (by omega) (Ex.guard (by omega) ?_))))
        have e : w64 ((j : Int) - 1) = ((j - 1 : Nat) : Int) := by rw [w64_id (by omega) (by omega)]; omega
        rw [w64_succ (by omega), e]
        refine ih (i + 1) (j - 1) _ (by omega) (by omega) (by simpa using h3) (fun k hk => ?_)
        rw [getD_set' (by simp; omega), getD_set' (by omega)]
        have r : ∀ a, a < x.length → x.reverse.getD a 0 = x.getD (x.length - 1 - a) 0 := by
          intro a ha
          rw [List.getD_eq_getElem?_getD, List.getElem?_reverse ha, List.getD_eq_getElem?_getD]
        split
        · rename_i hjk
          subst hjk
          rw [if_pos (by omega), h4 i (by omega), if_neg (by omega), r j (by omega)]
          congr 1; omega
        · split
          · rename_i hik
            subst hik
            rw [if_pos (by omega), h4 j (by omega), if_neg (by omega), r i (by omega)]
            congr 1; omega
          · rw [h4 k hk]
            split
            · rw [if_pos (by omega)]
            · rw [if_neg (by omega)]
      · exact ih i j s h1 (by omega) h3 h4
  unfold slices_Reverse_int_int
  refine Ex.be (a := x.reverse) ?_ (Ex.ret rfl)
  rcases Nat.eq_zero_or_pos x.length with h0 | h0
  · have : x = [] := List.eq_nil_of_length_eq_zero h0
    subst this
    refine Ex.succ ?_
    simp only [slices_Reverse_int_int_L1]
    exact Ex.no (by decide) (Ex.ret rfl)
  · have e : w64 ((x.length : Int) - 1) = ((x.length - 1 : Nat) : Int) := by rw [w64_id (by omega) (by omega)]; omega
    rw [e]
    exact key x.length 0 (x.length - 1) x (by omega) (by omega) rfl (fun k hk => by rw [if_neg (by omega)])
theorem implPathTo_ex {t : List Nod} (hl : t.length ≤ 1000000000000) (i : Int) : Ex (fun n => impl_PathTo n t i) (· = if (decide (0 ≤ i ∧ i < t.length) && validT t) = true then nix t i.toNat else []) := by
  unfold impl_PathTo
  refine Ex.be (implNode_ex hl i) ?_
  refine Ex.ite (fun hb => Ex.ret ?_) (fun hb => ?_)
  · rw [notT hb]; rfl
  · have hb := notF hb
    rw [if_pos hb]
    simp only [Bool.and_eq_true, decide_eq_true_eq] at hb
    obtain ⟨⟨h0, h1⟩, hv⟩ := hb
    have h := validT_iff.1 hv
    have hhi := h.hi
    obtain ⟨k, rfl⟩ : ∃ k : Nat, i = (k : Int) := ⟨i.toNat, by omega⟩
    rw [Int.toNat_natCast]
    have hk : k < t.length := by omega
    have key : ∀ i, i < t.length → ∀ r : List Int, r.length + i ≤ 100 → Ex (fun n => impl_PathTo_L1 t n r (i : Int)) (· = r ++ (nix t i).reverse) := by
      intro i
      induction i using Nat.strongRecOn with
      | ind i ih =>
        intro hi r hr
        refine Ex.succ ?_
        simp only [impl_PathTo_L1, Int.toNat_natCast]
        refine Ex.yes (decide_eq_true (by omega)) (Ex.guard (by simp; omega) (Ex.guard (by omega) ?_))
        rcases Nat.eq_zero_or_pos i with rfl | h0
        · have e : (t.getD 0 dnod).parent = -1 := h.rp
          rw [e]
          refine Ex.succ ?_
          simp only [impl_PathTo_L1]
          refine Ex.no (by decide) (Ex.ret ?_)
          rw [nix, ix, dif_neg (by omega)]; simp
        · have p := h.par i h0 hi
          have e : (t.getD i dnod).parent = (((pa t i).toNat : Nat) : Int) := by rw [Int.toNat_of_nonneg p.1]; rfl
          rw [e]
          have := ih _ p.2 (by omega) (r ++ ([(i : Int)].drop 0).take [(i : Int)].length) (by simp; omega)
          refine Ex.mono this ?_
          rintro x rfl
          rw [nix, nix, ix_pos h h0 hi]; simp
    have hlen := nix_len (t := t) k
    have := h.dep k hk
    refine Ex.be (a := (nix t k).reverse) ?_ (Ex.be (reverse_ex _ (by simp; omega)) (Ex.guard (by simp) (Ex.ret (by simp))))
    have := key k hk [] (by simp; omega)
    rwa [List.nil_append] at this
def ib (s : Str) : List Int := s.map fun b => ((b.toNat : Nat) : Int)
theorem ib_app (a b : Str) : ib (a ++ b) = ib a ++ ib b := by simp [ib]
theorem bytes_ib (s : Str) : bytesOf (ib s) = s := by
  induction s with
  | nil => rfl
  | cons a s ih =>
    have : bytesOf (ib (a :: s)) = UInt8.ofNat ((a.toNat : Int)).toNat :: bytesOf (ib s) := rfl
    rw [this, ih, Int.toNat_natCast, UInt8.ofNat_toNat]
theorem ib_ok (s : Str) : ∀ x ∈ ib s, 0 ≤ x ∧ x ≤ 255 := by
  intro x hx
  obtain ⟨b, _, rfl⟩ := List.mem_map.1 hx
  have := UInt8.toNat_lt b
  omega
theorem ib_len (s : Str) : (ib s).length = s.length := by simp [ib]
theorem wByte {s : Str} (hs : s.length ≤ 1000000000000) (c : UInt8) {i : Int} (hi : i = (c.toNat : Int)) : strings_Builder_WriteByte (ib s) i = some (ib (s ++ [c])) := by
  unfold strings_Builder_WriteByte
  rw [guardO_pos ⟨rfl, rfl, by simp [ib]; omega⟩, ib_app, hi]; rfl
theorem wStr {s r : Str} (hs : s.length + r.length ≤ 1000000000000) : strings_Builder_WriteString (ib s) r = some (ib (s ++ r), (r.length : Int)) := by
  unfold strings_Builder_WriteString
  rw [guardO_pos ⟨rfl, rfl, by simp [ib]; omega⟩, ib_app]; rfl
theorem bStr (s : Str) : strings_Builder_String (ib s) = some (s.length, s) := by
  unfold strings_Builder_String
  rw [guardO_pos ⟨rfl, ib_ok s⟩, bytes_ib, ib_len]
/-- the path of a node, as a text -/
def pathT (t : List Nod) (i : Int) : Str := if (decide (0 ≤ i ∧ i < t.length) && validT t) = true then ptx (np t i.toNat) else []
theorem pathT_of {t : List Nod} (h : VT t) {i : Nat} (hi : i < t.length) : pathT t i = ptx (np t i) := by
  rw [pathT, if_pos (by rw [decide_eq_true (by omega), validT_iff.2 h]; rfl), Int.toNat_natCast]
theorem implPathText_ex {t : List Nod} (hl : t.length ≤ 1000000000000) (i : Int) : Ex (fun n => impl_PathText n t i) (· = pathT t i) := by
  unfold impl_PathText
  refine Ex.be (implPathTo_ex hl i) ?_
  rw [pathT]
  cases hb : (decide (0 ≤ i ∧ i < t.length) && validT t) with
  | false => exact Ex.yes rfl (Ex.ret rfl)
  | true =>
    rw [if_pos rfl, if_pos rfl]
    simp only [Bool.and_eq_true, decide_eq_true_eq] at hb
    obtain ⟨⟨h0, h1⟩, hv⟩ := hb
    have h := validT_iff.1 hv
    obtain ⟨k, rfl⟩ : ∃ k : Nat, i = (k : Int) := ⟨i.toNat, by omega⟩
    rw [Int.toNat_natCast]
    have hk : k < t.length := by omega
    have hlen := nix_len (t := t) k
    have hlen2 : (ix t k).length = (nix t k).length := by simp [nix]
    have hd := h.dep k hk
    refine Ex.no (decide_eq_false (by omega)) ?_
    rcases Nat.eq_zero_or_pos k with rfl | hk0
    · have : dp t 0 = 0 := by have := dp_le (t := t) 0; omega
      refine Ex.yes (decide_eq_true (by omega)) (Ex.ret ?_)
      rw [np_zero h]; rfl
    · have := dp_pos h hk0 hk
      refine Ex.no (decide_eq_false (by omega)) (Ex.guard (by omega) (Ex.be (a := ib (fm 47 (np t k))) ?_ (Ex.bc (bStr _) (Ex.ret ?_))))
      · refine up ((nix t k).length - 1) (fun j (x : List Int) => ∃ s : Str, x = ib s ∧ s ++ fm 47 (((ix t k).drop (1 + j)).map (nmo t)) = fm 47 (np t k) ∧ s.length ≤ 5 * j) (f := fun n s i' => impl_PathText_L1 t (nix t k) n s i') ?_ ?_ 0 [] (by omega) ⟨[], rfl, by rw [ix_names]; rfl, by simp⟩
        · rintro j _ hj ⟨s, rfl, h1, h2⟩ next
          obtain ⟨a1, a2⟩ := nix_at h hk (k := 1 + j) (by omega)
          have hnm : (nmo t ((ix t k).getD (1 + j) 0)).length ≤ 4 := by
            rcases Nat.eq_zero_or_pos ((ix t k).getD (1 + j) 0) with e | e
            · rw [e, h.rn]; simp
            · exact name_len (h.nam _ e a2)
          rw [nmo] at hnm
          simp only [impl_PathText_L1, Int.toNat_natCast, a1]
          refine Ex.yes (decide_eq_true (by omega)) (Ex.guard (by omega) (Ex.bc (wByte (by omega) 47 rfl) (Ex.guard (by omega) (Ex.bc (wStr (by simp only [List.length_append, List.length_singleton]; omega)) ?_))))
          rw [w64_succ (by omega)]
          refine next _ ⟨_, rfl, ?_, by simp only [List.length_append, List.length_singleton]; omega⟩
          rw [← h1, drop_at 0 (show 1 + j < (ix t k).length by omega), List.map_cons, fm_cons, nmo]
          simp [Nat.add_assoc]
        · rintro _ ⟨s, rfl, h1, h2⟩
          simp only [impl_PathText_L1]
          refine Ex.no (decide_eq_false (by omega)) (Ex.ret ?_)
          rw [← h1, List.drop_eq_nil_of_le (by omega)]; simp [fm_nil]
      · rw [ptx, if_neg (by rw [np_nil h hk]; omega)]
end
section
open Go
set_option linter.unusedVariables false
theorem specRes_ex {t : List Nod} (h : VT t) (s : Str) : Ex (fun n => spec_resolve n t s) (· = res t s) := by
  have hhi := h.hi
  unfold spec_resolve
  refine Ex.bind (P := fun v => (match v with | .inl i => i | .inr _ => -1) = res t s) ?_ ?_
  · rw [← res_first h s]
    refine upU t.length (fun k => firstAt (fun i => decide (ptx (np t i) = s)) ((List.range t.length).drop k) k = firstAt (fun i => decide (ptx (np t i) = s)) (List.range t.length) 0) ?_ ?_ 0 (Nat.zero_le _) (by simp)
    · intro k hk hi next
      simp only [spec_resolve_L1]
      rw [drop_at 0 (by simpa using hk), firstAt] at hi
      have e : (List.range t.length).getD k 0 = k := by rw [List.getD_eq_getElem?_getD, List.getElem?_range hk]; rfl
      rw [e] at hi
      refine Ex.yes (decide_eq_true (by omega)) (Ex.be (specPathText_ex h hk) (Ex.ite (fun hb => Ex.ret ?_) (fun hb => ?_)))
      · rw [if_pos hb] at hi; exact hi
      · rw [if_neg (by rw [hb]; simp)] at hi
        rw [w64_succ (by omega)]
        exact next hi
    · intro hi
      simp only [spec_resolve_L1]
      refine Ex.no (decide_eq_false (by omega)) (Ex.ret ?_)
      rw [List.drop_eq_nil_of_le (by simp), firstAt] at hi; exact hi
  · intro v hv
    rcases v with i | u
    · exact Ex.ret hv
    · exact Ex.ret hv
theorem idx_none {c : UInt8} : ∀ {s : Str}, c ∉ s → Lib.indexByte s c = -1
  | [], _ => rfl
  | x :: s, h => by
    simp only [List.mem_cons, not_or] at h
    rw [Lib.indexByte, if_neg (by simp; exact Ne.symm h.1), idx_none h.2, if_pos (by decide)]
theorem idx_at {c : UInt8} {b : Str} : ∀ {a : Str}, c ∉ a → Lib.indexByte (a ++ c :: b) c = a.length
  | [], _ => by rw [List.nil_append, Lib.indexByte, if_pos (by simp)]; rfl
  | x :: a, h => by
    simp only [List.mem_cons, not_or] at h
    rw [List.cons_append, Lib.indexByte, if_neg (by simp; exact Ne.symm h.1), idx_at h.2, if_neg (by simp <;> omega)]; simp
theorem index1 (s : Str) (c : UInt8) : stringslite_Index s [c] = some (Lib.indexByte s c) := by
  unfold stringslite_Index
  have e0 : decide ((([c] : Str).length : Int) = 0) = false := by simp
  have e1 : decide ((([c] : Str).length : Int) = 1) = true := by simp
  rw [e0, e1, Bool.false_or]
  by_cases h : ([c] : Str) = s
  · subst h
    rw [decide_eq_true rfl]
    show some (0 : Int) = some (Lib.indexByte [c] c)
    rw [Lib.indexByte, if_pos (by simp)]
  · rw [decide_eq_false h]
    simp only [iteO_false, iteO_true]
    rw [guardO_pos (by simp)]
    show some (stringslite_IndexByte s ((([c] : Str).getD (0 : Int).toNat 0).toNat : Int)) = _
    have : (([c] : Str).getD (0 : Int).toNat 0) = c := rfl
    rw [this, stringslite_IndexByte, Int.toNat_natCast, UInt8.ofNat_toNat]
theorem cut_none {c : UInt8} {s : Str} (h : c ∉ s) : strings_Cut s [c] = some (s, [], false) := by
  unfold strings_Cut stringslite_Cut
  rw [index1, idx_none h]; rfl
theorem cut_some {c : UInt8} {a b : Str} (h : c ∉ a) (hl : (a ++ c :: b).length ≤ 1000000000000) : strings_Cut (a ++ c :: b) [c] = some (a, b, true) := by
  unfold strings_Cut stringslite_Cut
  simp only [List.length_append, List.length_cons] at hl
  rw [index1, idx_at h]
  simp only [bindO_some]
  rw [decide_eq_true (by omega)]
  simp only [iteO_true]
  have e : w64 ((a.length : Int) + (([c] : Str).length : Int)) = ((a.length + 1 : Nat) : Int) := by
    rw [w64_id (by simp; omega) (by simp; omega)]; simp
  rw [e, guardO_pos (by simp; omega), guardO_pos (by simp; omega), Int.toNat_natCast, Int.toNat_natCast]
  show some _ = some _
  congr 2
  · simp
  · congr 1
    have : a ++ c :: b = (a ++ [c]) ++ b := by simp
    rw [this]
    exact List.drop_left' (by simp)
theorem implRes_ex {t : List Nod} {s : Str} (hs : s.length ≤ 1000000000000) : Ex (fun n => impl_ResolvePath n t s) (· = if validT t = true then res t s else -1) := by
  unfold impl_ResolvePath
  refine Ex.be (implTree_ex t) ?_
  cases hv : validT t with
  | false => exact Ex.yes rfl (Ex.ret rfl)
  | true =>
    have h := validT_iff.1 hv
    have hhi := h.hi
    rw [if_pos rfl]
    refine Ex.no rfl ?_
    have hc : strings_CutPrefix s [47] = some (match s with | [] => (s, false) | c :: r => if c = 47 then (r, true) else (s, false)) := by
      unfold strings_CutPrefix stringslite_CutPrefix stringslite_HasPrefix
      cases s with
      | nil => rfl
      | cons c r =>
        have e : decide ((([47] : Str).length : Int) ≤ (((c :: r : Str).length : Nat) : Int)) = true := decide_eq_true (by simp; omega)
        rw [e]
        simp only [iteO_true]
        rw [guardO_pos (by simp; omega)]
        by_cases hc : c = 47
        · subst hc
          have e9 : (1 : Int) ≤ (r.length : Int) + 1 := by omega
          simp [iteO_false, bindO, guardO, e9]
        · rw [if_neg hc]
          have : decide (((c :: r).take ((([47] : Str).length : Int).toNat)) = [47]) = false := decide_eq_false (by simp; exact hc)
          rw [this]; rfl
    rw [hc]
    cases s with
    | nil => exact Ex.bc rfl (Ex.yes rfl (Ex.ret res_nil.symm))
    | cons c r =>
      rw [res_desc h]
      by_cases hc : c = 47
      · rw [if_pos hc]
        simp only [hc, if_true]
        refine Ex.bc rfl (Ex.no rfl ?_)
        by_cases hr : r = []
        · rw [if_pos hr]; exact Ex.yes (decide_eq_true hr) (Ex.ret rfl)
        · rw [if_neg hr]
          refine Ex.no (decide_eq_false hr) ?_
          have key : ∀ (m : Nat) (r : Str) (a : Int), r.length ≤ m → m ≤ 1000000000000 → Ex (fun n => impl_ResolvePath_L1 t n r a true) (fun v => (match v with | .inl _ => -1 | .inr i => i) = desc t a (spl 47 r)) := by
            intro m
            induction m with
            | zero =>
              intro r a h1 h2
              have : r = [] := List.eq_nil_of_length_eq_zero (by omega)
              subst this
              refine Ex.succ ?_
              simp only [impl_ResolvePath_L1]
              refine Ex.yes rfl (Ex.bc (cut_none (by simp)) (Ex.be (implKid_ex (by omega) a []) ?_))
              rw [spl, desc]
              refine Ex.ite (fun hb => Ex.ret ?_) (fun hb => ?_)
              · rw [if_pos (of_decide_eq_true hb)]
              · rw [if_neg (of_decide_eq_false hb)]
                refine Ex.succ ?_
                simp only [impl_ResolvePath_L1]
                exact Ex.no rfl (Ex.ret rfl)
            | succ m ih =>
              intro r a h1 h2
              refine Ex.succ ?_
              simp only [impl_ResolvePath_L1]
              refine Ex.yes rfl ?_
              rcases cut_at 47 r with h3 | ⟨x, y, rfl, h3⟩
              · refine Ex.bc (cut_none h3) (Ex.be (implKid_ex (by omega) a r) ?_)
                rw [spl_none h3, desc]
                refine Ex.ite (fun hb => Ex.ret ?_) (fun hb => ?_)
                · rw [if_pos (of_decide_eq_true hb)]
                · rw [if_neg (of_decide_eq_false hb)]
                  refine Ex.succ ?_
                  simp only [impl_ResolvePath_L1]
                  exact Ex.no rfl (Ex.ret rfl)
              · refine Ex.bc (cut_some h3 (by omega)) (Ex.be (implKid_ex (by omega) a x) ?_)
                rw [spl_at h3, desc]
                refine Ex.ite (fun hb => Ex.ret ?_) (fun hb => ?_)
                · rw [if_pos (of_decide_eq_true hb)]
                · rw [if_neg (of_decide_eq_false hb)]
                  simp only [List.length_append, List.length_cons] at h1
                  exact ih y _ (by omega) (by omega)
          refine Ex.bind (key r.length r 0 (Nat.le_refl _) (by simp at hs; omega)) ?_
          intro v hv
          rcases v with u | i
          · exact Ex.ret hv
          · exact Ex.ret hv
      · rw [if_neg hc]
        simp only [if_neg hc]
        exact Ex.bc rfl (Ex.yes rfl (Ex.ret rfl))
end
section
open Go
set_option linter.unusedVariables false
/-- the value at a path -/
def M (t : List Nod) (l : List Str) : Option Int := (loo t l).map (va t)
theorem M_some {t : List Nod} (h : VT t) {l : List Str} {v : Int} : M t l = some v ↔ ∃ i, i < t.length ∧ np t i = l ∧ va t i = v := by
  rw [M, Option.map_eq_some_iff]
  constructor
  · rintro ⟨i, h1, h2⟩
    obtain ⟨h3, h4⟩ := (loo_iff h).1 h1
    exact ⟨i, h3, h4, h2⟩
  · rintro ⟨i, h1, h2, h3⟩
    exact ⟨i, (loo_iff h).2 ⟨h1, h2⟩, h3⟩
theorem M_none {t : List Nod} {l : List Str} : M t l = none ↔ loo t l = none := by rw [M, Option.map_eq_none_iff]
theorem M_ext {t u : List Nod} (h : VT t) (hu : VT u) {l : List Str} (h1 : ∀ v, M t l = some v → M u l = some v) (h2 : ∀ v, M u l = some v → M t l = some v) : M t l = M u l := by
  cases e : M t l with
  | some v => exact (h1 v e).symm
  | none =>
    cases e' : M u l with
    | none => rfl
    | some v => rw [h2 v e'] at e; cases e
/-- the same parents and names -/
theorem np_congr {t u : List Nod} {n : Nat} (h1 : ∀ i, i < n → pa u i = pa t i) (h2 : ∀ i, i < n → nmo u i = nmo t i) : ∀ i, i < n → np u i = np t i := by
  intro i
  induction i using Nat.strongRecOn with
  | ind i ih =>
    intro hi
    have e1 := h1 i hi
    have e2 := h2 i hi
    simp only [pa, nmo] at e1 e2
    rw [np.eq_1 u i, np.eq_1 t i, e1, e2]
    split
    · rename_i h; rw [ih _ h.2 (by omega)]
    · rfl
theorem dp_congr {t u : List Nod} {n : Nat} (h1 : ∀ i, i < n → pa u i = pa t i) (h2 : ∀ i, i < n → nmo u i = nmo t i) {i : Nat} (hi : i < n) : dp u i = dp t i := by
  rw [← np_len, ← np_len, np_congr h1 h2 i hi]
variable {t : List Nod}
/-- another value -/
def setT (t : List Nod) (k : Nat) (v : Int) : List Nod := t.set k ⟨pa t k, nmo t k, v⟩
theorem setT_len (k : Nat) (v : Int) : (setT t k v).length = t.length := by simp [setT]
theorem setT_at {k : Nat} (hk : k < t.length) (v : Int) (i : Nat) : (setT t k v).getD i dnod = if k = i then ⟨pa t k, nmo t k, v⟩ else t.getD i dnod := getD_set' hk i
theorem setT_pa {k : Nat} (hk : k < t.length) (v : Int) (i : Nat) : pa (setT t k v) i = pa t i := by
  rw [pa, setT_at hk]
  split
  · rename_i e; rw [e]
  · rfl
theorem setT_nm {k : Nat} (hk : k < t.length) (v : Int) (i : Nat) : nmo (setT t k v) i = nmo t i := by
  rw [nmo, setT_at hk]
  split
  · rename_i e; rw [e]
  · rfl
theorem setT_va {k : Nat} (hk : k < t.length) (v : Int) (i : Nat) : va (setT t k v) i = if k = i then v else va t i := by
  rw [va, setT_at hk]
  split <;> rfl
theorem setT_np {k : Nat} (hk : k < t.length) (v : Int) {i : Nat} (hi : i < t.length) : np (setT t k v) i = np t i := np_congr (n := t.length) (fun i _ => setT_pa hk v i) (fun i _ => setT_nm hk v i) i hi
theorem setT_VT (h : VT t) {k : Nat} (hk : k < t.length) {v : Int} (hv : -1000 ≤ v ∧ v ≤ 1000) : VT (setT t k v) := by
  refine ⟨by rw [setT_len]; exact h.lo, by rw [setT_len]; exact h.hi, fun i hi => ?_, by rw [setT_pa hk]; exact h.rp, by rw [setT_nm hk]; exact h.rn, fun i h0 hi => ?_, fun i h0 hi => ?_, fun i j h0 hij hj => ?_, fun i hi => ?_⟩ <;> rw [setT_len] at *
  · rw [setT_va hk]
    split
    · exact hv
    · exact h.val i hi
  · rw [setT_pa hk]; exact h.par i h0 hi
  · rw [setT_nm hk]; exact h.nam i h0 hi
  · rw [setT_pa hk, setT_pa hk, setT_nm hk, setT_nm hk]; exact h.sib i j h0 hij hj
  · rw [dp_congr (n := t.length) (fun i _ => setT_pa hk v i) (fun i _ => setT_nm hk v i) hi]; exact h.dep i hi
theorem setT_M (h : VT t) {k : Nat} (hk : k < t.length) {v : Int} (hv : -1000 ≤ v ∧ v ≤ 1000) (l : List Str) : M (setT t k v) l = if l = np t k then some v else M t l := by
  have h' := setT_VT h hk hv
  cases e : loo t l with
  | none =>
    rw [M_none.2 e, M_none.2 (loo_none.2 (fun i hi => ?_)), if_neg]
    · rintro rfl; rw [loo_np h hk] at e; cases e
    · rw [setT_len] at hi
      rw [setT_np hk v hi]; exact loo_none.1 e i hi
  | some i =>
    obtain ⟨h1, h2⟩ := (loo_iff h).1 e
    have e2 : loo (setT t k v) l = some i := (loo_iff h').2 ⟨by rw [setT_len]; exact h1, by rw [setT_np hk v h1]; exact h2⟩
    rw [M, M, e, e2]
    show some _ = _
    rw [setT_va hk]
    split
    · rename_i hki; subst hki; rw [if_pos h2.symm]
    · rename_i hki
      rw [if_neg (fun hl => hki (np_inj h k hk i h1 (by rw [← hl, h2])))]; rfl
/-- a node more -/
theorem app_at {x : Nod} {i : Nat} (hi : i < t.length) : (t ++ [x]).getD i dnod = t.getD i dnod := by
  rw [List.getD_eq_getElem?_getD, List.getElem?_append_left hi, List.getD_eq_getElem?_getD]
theorem app_last {x : Nod} : (t ++ [x]).getD t.length dnod = x := by
  rw [List.getD_eq_getElem?_getD, List.getElem?_append_right (Nat.le_refl _)]; simp
theorem app_np {x : Nod} {i : Nat} (hi : i < t.length) : np (t ++ [x]) i = np t i := np_congr (n := t.length) (fun i hi => by rw [pa, app_at hi]; rfl) (fun i hi => by rw [nmo, app_at hi]; rfl) i hi
theorem app_np_last {x : Nod} (h0 : 0 ≤ x.parent) (h1 : x.parent.toNat < t.length) : np (t ++ [x]) t.length = np t x.parent.toNat ++ [x.name] := by
  rw [np, app_last, dif_pos ⟨h0, h1⟩, app_np h1]
/-- when a node more fits -/
structure Fits (t : List Nod) (x : Nod) : Prop where
  room : t.length < 12
  val : -1000 ≤ x.value ∧ x.value ≤ 1000
  p0 : 0 ≤ x.parent
  p1 : x.parent.toNat < t.length
  nam : nameOk x.name = true
  new : loo t (np t x.parent.toNat ++ [x.name]) = none
  dep : (np t x.parent.toNat).length ≤ 3
theorem fits_iff (h : VT t) {x : Nod} : VT (t ++ [x]) ↔ Fits t x := by
  have hlo := h.lo
  constructor
  · intro h'
    have hl : t.length < (t ++ [x]).length := by simp
    have h1 := h'.hi
    simp only [List.length_append, List.length_singleton] at h1
    have h2 := h'.val t.length hl
    have h3 := h'.par t.length (by omega) hl
    have h4 := h'.nam t.length (by omega) hl
    have h5 := h'.dep t.length hl
    rw [va, app_last] at h2
    rw [pa, app_last] at h3
    rw [nmo, app_last] at h4
    rw [← np_len, app_np_last h3.1 h3.2] at h5
    simp only [List.length_append, List.length_singleton] at h5
    refine ⟨by omega, h2, h3.1, h3.2, h4, loo_none.2 (fun i hi e => ?_), by omega⟩
    have := np_inj h' i (by simp; omega) t.length hl (by rw [app_np hi, app_np_last h3.1 h3.2, e])
    omega
  · intro f
    have key : ∀ i, i < (t ++ [x]).length → i < t.length ∨ i = t.length := fun i hi => by simp at hi; omega
    refine ⟨by simp, by have := f.room; simp; omega, fun i hi => ?_, by rw [pa, app_at hlo]; exact h.rp, by rw [nmo, app_at hlo]; exact h.rn, fun i h0 hi => ?_, fun i h0 hi => ?_, fun i j h0 hij hj e => ?_, fun i hi => ?_⟩
    · rcases key i hi with h1 | rfl
      · rw [va, app_at h1]; exact h.val i h1
      · rw [va, app_last]; exact f.val
    · rcases key i hi with h1 | rfl
      · rw [pa, app_at h1]; exact h.par i h0 h1
      · rw [pa, app_last]; exact ⟨f.p0, f.p1⟩
    · rcases key i hi with h1 | rfl
      · rw [nmo, app_at h1]; exact h.nam i h0 h1
      · rw [nmo, app_last]; exact f.nam
    · rcases key j hj with h1 | rfl
      · rw [pa, app_at (by omega), pa, app_at h1] at e
        rw [nmo, app_at (by omega), nmo, app_at h1]
        exact h.sib i j h0 hij h1 e
      · rw [pa, app_at hij, pa, app_last] at e
        rw [nmo, app_at hij, nmo, app_last]
        intro e2
        refine loo_none.1 f.new i hij ?_
        rw [np_pos h h0 hij, pa, nmo, e, e2]
    · rcases key i hi with h1 | rfl
      · rw [← np_len, app_np h1, np_len]; exact h.dep i h1
      · have := f.dep
        rw [← np_len, app_np_last f.p0 f.p1]; simp; omega
theorem app_M (h : VT t) {x : Nod} (f : Fits t x) (l : List Str) : M (t ++ [x]) l = if l = np t x.parent.toNat ++ [x.name] then some x.value else M t l := by
  have h' := (fits_iff h).2 f
  split
  · rename_i e
    exact (M_some h').2 ⟨t.length, by simp, by rw [app_np_last f.p0 f.p1, e], by rw [va, app_last]⟩
  · rename_i hne
    cases e : M t l with
    | none =>
      rw [M_none, loo_none] at e ⊢
      intro i hi
      rcases Nat.lt_or_ge i t.length with h1 | h1
      · rw [app_np h1]; exact e i h1
      · have : i = t.length := by simp at hi; omega
        rw [this, app_np_last f.p0 f.p1]; exact Ne.symm hne
    | some v =>
      obtain ⟨i, h1, h2, h3⟩ := (M_some h).1 e
      exact (M_some h').2 ⟨i, by simp; omega, by rw [app_np h1, h2], by rw [va, app_at h1]; exact h3⟩
/-- what stays when a node is dropped -/
def kept (t : List Nod) (k j : Nat) : Bool := !decide (k ∈ ix t j)
def cnt (t : List Nod) (k j : Nat) : Nat := ((List.range j).filter (kept t k)).length
def moved (t : List Nod) (k j : Nat) : Nod := ⟨if 0 < j then (cnt t k (pa t j).toNat : Int) else pa t j, nmo t j, va t j⟩
def dropT (t : List Nod) (k : Nat) : List Nod := ((List.range t.length).filter (kept t k)).map (moved t k)
theorem ix_le (t : List Nod) : ∀ i, ∀ k ∈ ix t i, k ≤ i := by
  intro i
  induction i using Nat.strongRecOn with
  | ind i ih =>
    intro k hk
    rw [ix] at hk
    split at hk
    · rename_i h
      rcases List.mem_append.1 hk with h1 | h1
      · have := ih _ h.2 k h1; omega
      · rw [List.mem_singleton.1 h1]; exact Nat.le_refl _
    · rw [List.mem_singleton.1 hk]; exact Nat.le_refl _
theorem ix_self (t : List Nod) (i : Nat) : i ∈ ix t i := by
  rw [ix]; split <;> simp
theorem mem_ix (h : VT t) : ∀ i, i < t.length → ∀ k, k < t.length → (k ∈ ix t i ↔ np t k <+: np t i) := by
  intro i
  induction i using Nat.strongRecOn with
  | ind i ih =>
    intro hi k hk
    rcases Nat.eq_zero_or_pos i with rfl | h0
    · rw [np_zero h, List.prefix_nil]
      constructor
      · intro h1
        have := ix_le t 0 k h1
        rw [show k = 0 by omega, np_zero h]
      · intro e
        have := np_inj h k hk 0 hi (by rw [e, np_zero h])
        rw [this]; exact ix_self t 0
    · have p := h.par i h0 hi
      rw [ix_pos h h0 hi, List.mem_append, ih _ p.2 (by omega) k hk, np_pos h h0 hi, List.prefix_concat_iff, ← np_pos h h0 hi, List.mem_singleton]
      constructor
      · rintro (h1 | rfl)
        · exact .inr h1
        · exact .inl rfl
      · rintro (h1 | h1)
        · exact .inr (np_inj h k hk i hi h1)
        · exact .inl h1
theorem kept_iff (h : VT t) {k j : Nat} (hk : k < t.length) (hj : j < t.length) : kept t k j = true ↔ ¬ np t k <+: np t j := by
  rw [kept, Bool.not_eq_true', decide_eq_false_iff_not, mem_ix h j hj k hk]
theorem cnt_succ (t : List Nod) (k j : Nat) : cnt t k (j + 1) = cnt t k j + (if kept t k j = true then 1 else 0) := by
  rw [cnt, cnt, List.range_succ, List.filter_append, List.length_append, List.filter_cons]
  split <;> rfl
theorem cnt_mono (t : List Nod) (k : Nat) : ∀ {i j : Nat}, i ≤ j → cnt t k i ≤ cnt t k j := by
  intro i j hij
  induction j with
  | zero => rw [show i = 0 by omega]; exact Nat.le_refl _
  | succ j ih =>
    rcases Nat.eq_or_lt_of_le hij with rfl | h
    · exact Nat.le_refl _
    · have := ih (by omega); rw [cnt_succ]; omega
theorem cnt_lt {k i j : Nat} (hij : i < j) (hk : kept t k i = true) : cnt t k i < cnt t k j := by
  have := cnt_mono t k (show i + 1 ≤ j from hij)
  rw [cnt_succ, if_pos hk] at this; omega
theorem cnt_le (t : List Nod) (k j : Nat) : cnt t k j ≤ j := by
  have := List.length_filter_le (kept t k) (List.range j)
  simpa [cnt] using this
theorem keep_at {k n j : Nat} (hj : j < n) (hk : kept t k j = true) : ((List.range n).filter (kept t k))[cnt t k j]? = some j := by
  induction n with
  | zero => omega
  | succ n ih =>
    rw [List.range_succ, List.filter_append]
    rcases Nat.eq_or_lt_of_le (Nat.le_of_lt_succ hj) with rfl | h
    · rw [List.getElem?_append_right (by rw [cnt]; exact Nat.le_refl _)]
      rw [List.filter_cons, if_pos hk]
      rw [show cnt t k j - ((List.range j).filter (kept t k)).length = 0 by rw [cnt]; omega]; rfl
    · rw [List.getElem?_append_left (by have := cnt_lt (t := t) h hk; rw [cnt, cnt] at this; exact this)]
      exact ih h
theorem keep_ex {k n m : Nat} (hm : m < cnt t k n) : ∃ j, j < n ∧ kept t k j = true ∧ cnt t k j = m := by
  induction n with
  | zero => rw [cnt] at hm; simp at hm
  | succ n ih =>
    rw [cnt_succ] at hm
    by_cases h : m < cnt t k n
    · obtain ⟨j, h1, h2, h3⟩ := ih h
      exact ⟨j, by omega, h2, h3⟩
    · split at hm
      · rename_i hk; exact ⟨n, by omega, hk, by omega⟩
      · omega
theorem dropT_len (k : Nat) : (dropT t k).length = cnt t k t.length := by rw [dropT, List.length_map]; rfl
theorem dropT_at {k j : Nat} (hj : j < t.length) (hk : kept t k j = true) : (dropT t k).getD (cnt t k j) dnod = moved t k j := by
  rw [List.getD_eq_getElem?_getD, dropT, List.getElem?_map, keep_at hj hk]; rfl
theorem kept_up (h : VT t) {k j : Nat} (h0 : 0 < j) (hj : j < t.length) (hk : kept t k j = true) : kept t k (pa t j).toNat = true := by
  simp only [kept, Bool.not_eq_true', decide_eq_false_iff_not] at hk ⊢
  intro h1
  exact hk (by rw [ix_pos h h0 hj]; exact List.mem_append_left _ h1)
theorem kept0 (h : VT t) {k : Nat} (hk0 : 0 < k) : kept t k 0 = true := by
  simp only [kept, Bool.not_eq_true', decide_eq_false_iff_not]
  intro h1
  have := ix_le t 0 k h1; omega
theorem cnt0 (t : List Nod) (k : Nat) : cnt t k 0 = 0 := rfl
theorem dropT_np (h : VT t) {k : Nat} (hk0 : 0 < k) : ∀ j, j < t.length → kept t k j = true → np (dropT t k) (cnt t k j) = np t j := by
  intro j
  induction j using Nat.strongRecOn with
  | ind j ih =>
    intro hj hk
    rcases Nat.eq_zero_or_pos j with rfl | h0
    · rw [cnt0, np, dif_neg (by omega), np_zero h]
    · have p := h.par j h0 hj
      have hu := kept_up h h0 hj hk
      rw [np, dropT_at hj hk]
      have e : (moved t k j).parent = (cnt t k (pa t j).toNat : Int) := by rw [moved, if_pos h0]
      rw [dif_pos ⟨by rw [e]; omega, by rw [e, Int.toNat_natCast]; exact cnt_lt p.2 hu⟩]
      simp only [e, Int.toNat_natCast]
      rw [ih _ p.2 (by omega) hu, np_pos h h0 hj]; rfl
theorem dropT_ex {k m : Nat} (hm : m < (dropT t k).length) : ∃ j, j < t.length ∧ kept t k j = true ∧ cnt t k j = m := keep_ex (by rwa [dropT_len] at hm)
theorem dropT_VT (h : VT t) {k : Nat} (hk0 : 0 < k) : VT (dropT t k) := by
  have hlo := h.lo
  have hhi := h.hi
  have hk00 := kept0 h hk0
  have at0 : (dropT t k).getD 0 dnod = moved t k 0 := by have := dropT_at hlo hk00; rwa [cnt0] at this
  refine ⟨?_, ?_, fun i hi => ?_, ?_, ?_, fun i h0 hi => ?_, fun i h0 hi => ?_, fun i j h0 hij hj e => ?_, fun i hi => ?_⟩
  · rw [dropT_len]
    have := cnt_lt (t := t) hlo hk00
    omega
  · rw [dropT_len]; have := cnt_le t k t.length; omega
  · obtain ⟨j, h1, h2, rfl⟩ := dropT_ex hi
    rw [va, dropT_at h1 h2]; exact h.val j h1
  · rw [pa, at0]; exact h.rp
  · rw [nmo, at0]; exact h.rn
  · obtain ⟨j, h1, h2, rfl⟩ := dropT_ex hi
    have hj0 : 0 < j := by
      rcases Nat.eq_zero_or_pos j with rfl | h
      · rw [cnt0] at h0; omega
      · exact h
    rw [pa, dropT_at h1 h2, moved, if_pos hj0]
    have p := h.par j hj0 h1
    exact ⟨by simp only; omega, by simp only [Int.toNat_natCast]; exact cnt_lt p.2 (kept_up h hj0 h1 h2)⟩
  · obtain ⟨j, h1, h2, rfl⟩ := dropT_ex hi
    have hj0 : 0 < j := by
      rcases Nat.eq_zero_or_pos j with rfl | h
      · rw [cnt0] at h0; omega
      · exact h
    rw [nmo, dropT_at h1 h2]; exact h.nam j hj0 h1
  · obtain ⟨a, a1, a2, rfl⟩ := dropT_ex (show i < (dropT t k).length by omega)
    obtain ⟨b, b1, b2, rfl⟩ := dropT_ex hj
    have ha0 : 0 < a := by
      rcases Nat.eq_zero_or_pos a with rfl | h
      · rw [cnt0] at h0; omega
      · exact h
    have hab : a < b := by
      rcases Nat.lt_or_ge a b with h | h
      · exact h
      · have := cnt_mono t k h; omega
    have pA := h.par a ha0 a1
    have pB := h.par b (by omega) b1
    rw [pa, dropT_at a1 a2, pa, dropT_at b1 b2, moved, moved, if_pos ha0, if_pos (by omega)] at e
    simp only at e
    rw [nmo, dropT_at a1 a2, nmo, dropT_at b1 b2]
    refine h.sib a b ha0 hab b1 ?_
    have uA := kept_up h ha0 a1 a2
    have uB := kept_up h (show 0 < b by omega) b1 b2
    rcases Nat.lt_trichotomy (pa t a).toNat (pa t b).toNat with h3 | h3 | h3
    · have := cnt_lt h3 uA; omega
    · omega
    · have := cnt_lt h3 uB; omega
  · obtain ⟨j, h1, h2, rfl⟩ := dropT_ex hi
    rw [← np_len, dropT_np h hk0 j h1 h2, np_len]; exact h.dep j h1
theorem dropT_M (h : VT t) {k : Nat} (hk0 : 0 < k) (hk : k < t.length) (l : List Str) : M (dropT t k) l = if np t k <+: l then none else M t l := by
  have h' := dropT_VT h hk0
  have key : ∀ v, M (dropT t k) l = some v ↔ (¬ np t k <+: l ∧ M t l = some v) := by
    intro v
    rw [M_some h', M_some h]
    constructor
    · rintro ⟨m, h1, h2, h3⟩
      obtain ⟨j, j1, j2, rfl⟩ := dropT_ex h1
      rw [dropT_np h hk0 j j1 j2] at h2
      rw [va, dropT_at j1 j2] at h3
      exact ⟨by rw [← h2]; exact (kept_iff h hk j1).1 j2, j, j1, h2, h3⟩
    · rintro ⟨h0, j, j1, j2, j3⟩
      have hkj : kept t k j = true := (kept_iff h hk j1).2 (by rw [j2]; exact h0)
      refine ⟨cnt t k j, by rw [dropT_len]; exact cnt_lt j1 hkj, by rw [dropT_np h hk0 j j1 hkj, j2], by rw [va, dropT_at j1 hkj]; exact j3⟩
  split
  · rename_i hp
    cases e : M (dropT t k) l with
    | none => rfl
    | some v => exact absurd hp ((key v).1 e).1
  · rename_i hp
    cases e : M t l with
    | some v => exact (key v).2 ⟨hp, e⟩
    | none =>
      cases e' : M (dropT t k) l with
      | none => rfl
      | some v => rw [((key v).1 e').2] at e; cases e
/-- the same paths and values -/
theorem M_va (h : VT t) {i : Nat} (hi : i < t.length) : M t (np t i) = some (va t i) := (M_some h).2 ⟨i, hi, rfl, rfl⟩
theorem np_nodup (h : VT t) : ((List.range t.length).map (np t)).Nodup := by
  refine List.pairwise_map.2 (List.Pairwise.imp_of_mem (fun {a b} ha hb hab => ?_) List.nodup_range)
  intro e
  exact hab (np_inj h a (by simpa using ha) b (by simpa using hb) e)
theorem M_len {a b : List Nod} (ha : VT a) (hb : VT b) (h : ∀ l v, M a l = some v → ∃ v', M b l = some v') : a.length ≤ b.length := by
  have := len_sub (np_nodup ha) (l' := (List.range b.length).map (np b)) (fun x hx => by
    obtain ⟨i, hi, rfl⟩ := List.mem_map.1 hx
    obtain ⟨v', hv⟩ := h _ _ (M_va ha (by simpa using hi))
    obtain ⟨j, j1, j2, _⟩ := (M_some hb).1 hv
    exact List.mem_map.2 ⟨j, by simpa using j1, j2⟩)
  simpa using this
theorem sameP_M {a b : List Nod} (ha : VT a) (hb : VT b) : sameP a b ↔ ∀ l, M a l = M b l := by
  constructor
  · rintro ⟨hl, h⟩
    have h1 : ∀ l v, M a l = some v → M b l = some v := by
      intro l v hv
      obtain ⟨i, i1, rfl, i3⟩ := (M_some ha).1 hv
      obtain ⟨m, m1, m2⟩ := h i i1
      rw [M, m1, ← i3, m2]; rfl
    intro l
    refine M_ext ha hb (h1 l) (fun v hv => ?_)
    rcases Classical.em (M a l = some v) with e | e
    · exact e
    · -- the paths of a and l would be more than the paths of b
      have hna : M a l = none := by
        cases e2 : M a l with
        | none => rfl
        | some w => rw [h1 l w e2] at hv; rw [e2, hv] at e; exact absurd rfl e
      obtain ⟨j, j1, j2, _⟩ := (M_some hb).1 hv
      have hn : (l :: (List.range a.length).map (np a)).Nodup := by
        refine List.nodup_cons.2 ⟨fun hm => ?_, np_nodup ha⟩
        obtain ⟨i, hi, e3⟩ := List.mem_map.1 hm
        have := M_va ha (show i < a.length by simpa using hi)
        rw [e3, hna] at this; cases this
      have := len_sub hn (l' := (List.range b.length).map (np b)) (fun x hx => by
        rcases List.mem_cons.1 hx with rfl | hx
        · exact List.mem_map.2 ⟨j, by simpa using j1, j2⟩
        · obtain ⟨i, hi, rfl⟩ := List.mem_map.1 hx
          obtain ⟨m, m1, m2⟩ := h i (by simpa using hi)
          obtain ⟨m3, m4⟩ := (loo_iff hb).1 m1
          exact List.mem_map.2 ⟨m, by simpa using m3, m4⟩)
      simp at this
      omega
  · intro h
    have l1 := M_len ha hb (fun l v e => ⟨v, by rw [← h]; exact e⟩)
    have l2 := M_len hb ha (fun l v e => ⟨v, by rw [h]; exact e⟩)
    refine ⟨by omega, fun n hn => ?_⟩
    have := M_va ha hn
    rw [h] at this
    obtain ⟨j, j1, j2, j3⟩ := (M_some hb).1 this
    exact ⟨j, (loo_iff hb).2 ⟨j1, j2⟩, j3.symm⟩
end
section
open Go
set_option linter.unusedVariables false
def addP (t : List Nod) (s : Str) (v : Int) : Option (List Nod) :=
  match pth s with
  | none => none
  | some l => match l.getLast?, loo t l.dropLast with
    | some n, some p => if validT (t ++ [⟨(p : Int), n, v⟩]) = true then some (t ++ [⟨(p : Int), n, v⟩]) else none
    | _, _ => none
def dropP (t : List Nod) (s : Str) : Option (List Nod) :=
  match resO t s with
  | some k => if 0 < k then some (dropT t k) else none
  | none => none
/-- one edit -/
def app1 (t : List Nod) (e : Edt) : Option (List Nod) :=
  if e.kind = 1 then (if e.value = 0 then dropP t e.path else none)
  else if e.kind = 0 then (match resO t e.path with
    | some k => if rv e.value = true then some (setT t k e.value) else none
    | none => addP t e.path e.value)
  else none
def appAll : List Nod → List Edt → Option (List Nod)
  | t, [] => some t
  | t, e :: l => match app1 t e with
    | none => none
    | some u => appAll u l
def applyR (t : List Nod) (l : List Edt) : List Nod × Bool :=
  if (validT t && decide (l.length ≤ 24)) = true then (match appAll t l with
    | some u => (u, true)
    | none => ([], false)) else ([], false)
variable {t : List Nod}
theorem addP_iff (h : VT t) {s : Str} {v : Int} {u : List Nod} : addP t s v = some u ↔ ∃ (p : Nat) (n : Str), u = t ++ [⟨(p : Int), n, v⟩] ∧ Fits t ⟨(p : Int), n, v⟩ ∧ s = ptx (np t p ++ [n]) := by
  unfold addP
  constructor
  · intro e
    split at e
    · cases e
    · rename_i l hl
      split at e
      · rename_i n p hn hp
        split at e
        · rename_i hv
          cases e
          have f := (fits_iff h).1 (validT_iff.1 hv)
          refine ⟨p, n, rfl, f, ?_⟩
          have e2 : l = l.dropLast ++ [n] := by
            obtain ⟨ys, rfl⟩ := List.getLast?_eq_some_iff.1 hn
            rw [List.dropLast_concat]
          rw [((loo_iff h).1 hp).2, ← e2]
          exact (ptx_pth hl).symm
        · cases e
      · cases e
  · rintro ⟨p, n, rfl, f, rfl⟩
    have hp : p < t.length := f.p1
    have hl : pth (ptx (np t p ++ [n])) = some (np t p ++ [n]) := pth_ptx (fun s hs => by
      rcases List.mem_append.1 hs with h1 | h1
      · exact np_names h p hp s h1
      · rw [List.mem_singleton.1 h1]; exact f.nam)
    rw [hl]
    simp only [List.getLast?_append, List.getLast?_singleton, Option.some_or, List.dropLast_concat, loo_np h hp]
    rw [if_pos (validT_iff.2 ((fits_iff h).2 f))]
theorem addP_VT (h : VT t) {s : Str} {v : Int} {u : List Nod} (e : addP t s v = some u) : VT u := by
  obtain ⟨p, n, rfl, f, _⟩ := (addP_iff h).1 e
  exact (fits_iff h).2 f
theorem rv_iff {v : Int} : rv v = true ↔ -1000 ≤ v ∧ v ≤ 1000 := by simp [rv]
theorem app1_VT (h : VT t) {e : Edt} {u : List Nod} (hu : app1 t e = some u) : VT u := by
  unfold app1 at hu
  split at hu
  · split at hu
    · unfold dropP at hu
      split at hu
      · split at hu
        · rename_i k hk h0; cases hu; exact dropT_VT h h0
        · cases hu
      · cases hu
    · cases hu
  · split at hu
    · split at hu
      · split at hu
        · rename_i k hk hv; cases hu
          exact setT_VT h ((resO_iff h).1 hk).1 (rv_iff.1 hv)
        · cases hu
      · exact addP_VT h hu
    · cases hu
/-- the edits that make a tree of another one -/
def ebD (a b : List Nod) : List Edt := ((walkT a).filter fun n => (loo b (np a n)).isNone && (loo b (np a (pa a n).toNat)).isSome).map fun n => ⟨1, ptx (np a n), 0⟩
def ebS (a b : List Nod) : List Edt := ((walkT b).filter fun n => !decide (M a (np b n) = some (va b n))).map fun n => ⟨0, ptx (np b n), va b n⟩
def eb (a b : List Nod) : List Edt := if (validT a && validT b) = true then ebD a b ++ ebS a b else []
theorem last_at (c : UInt8) : ∀ (s : Str), c ∉ s ∨ ∃ a b, s = a ++ c :: b ∧ c ∉ b
  | [] => .inl (by simp)
  | x :: s => by
    rcases last_at c s with h1 | ⟨a, b, rfl, h1⟩
    · by_cases h : x = c
      · subst h; exact .inr ⟨[], s, rfl, h1⟩
      · exact .inl (by simp only [List.mem_cons, not_or]; exact ⟨Ne.symm h, h1⟩)
    · exact .inr ⟨x :: a, b, rfl, h1⟩
theorem last_uniq {c : UInt8} {a b a' b' : Str} (h : c ∉ b) (h' : c ∉ b') (e : a ++ c :: b = a' ++ c :: b') : a = a' ∧ b = b' := by
  have key : ∀ {x y : Str} {z w : Str}, c ∉ x → c ∉ y → x ++ c :: z = y ++ c :: w → x = y ∧ z = w := by
    intro x
    induction x with
    | nil =>
      intro y z w hx hy e
      cases y with
      | nil => simpa using e
      | cons q y => simp only [List.nil_append, List.cons_append, List.cons.injEq] at e; rw [e.1] at hy; simp at hy
    | cons p x ih =>
      intro y z w hx hy e
      cases y with
      | nil => simp only [List.nil_append, List.cons_append, List.cons.injEq] at e; rw [e.1] at hx; simp at hx
      | cons q y =>
        simp only [List.cons_append, List.cons.injEq] at e
        simp only [List.mem_cons, not_or] at hx hy
        obtain ⟨h1, h2⟩ := ih hx.2 hy.2 e.2
        exact ⟨by rw [e.1, h1], h2⟩
  have e2 := congrArg List.reverse e
  simp only [List.reverse_append, List.reverse_cons, List.append_assoc, List.singleton_append] at e2
  obtain ⟨h1, h2⟩ := key (by simpa using h) (by simpa using h') e2
  exact ⟨List.reverse_inj.1 h2, List.reverse_inj.1 h1⟩
theorem ptx_snoc (l : List Str) (n : Str) : ptx (l ++ [n]) = fm 47 l ++ 47 :: n := by
  rw [ptx, if_neg (by simp), fm_app, fm_cons, fm_nil, List.append_nil]
end
section
open Go
structure Rd (x1 : List Int) (k2 : Nat) : Prop where
  by_ : ∀ b ∈ x1, 0 ≤ b ∧ b ≤ 255
  le : k2 ≤ x1.length
  le2 : k2 ≤ 2000
theorem xor_small {a b : Int} (ha : 0 ≤ a) (ha2 : a < 4611686018427387904) (hb : 0 ≤ b) (hb2 : b < 4611686018427387904) :
    0 ≤ w64 (BitVec.ofInt 64 a ^^^ BitVec.ofInt 64 b).toNat := by
  rw [BitVec.toNat_xor, BitVec.toNat_ofInt, BitVec.toNat_ofInt]
  have e1 : (a % ((2 ^ 64 : Nat) : Int)).toNat = a.toNat := by
    rw [Int.emod_eq_of_lt ha (by omega)]
  have e2 : (b % ((2 ^ 64 : Nat) : Int)).toNat = b.toNat := by
    rw [Int.emod_eq_of_lt hb (by omega)]
  rw [e1, e2]
  have := Nat.xor_lt_two_pow (x := a.toNat) (y := b.toNat) (n := 62) (by omega) (by omega)
  rw [w64_id (by omega) (by omega)]
  omega
theorem byte_at {x1 : List Int} {k2 : Nat} (h : Rd x1 k2) (j : Nat) (hj : j < x1.length) : 0 ≤ x1.getD j 0 ∧ x1.getD j 0 ≤ 255 := h.by_ _ (getD_mem hj)
theorem pick_ok {x1 : List Int} {k2 : Nat} (h : Rd x1 k2) {i m : Int} (h0 : 0 ≤ i) (h1 : i ≤ 1000000000) (hm : m ≤ 1000000000) :
    ∃ r, spec_reader_pick x1 k2 i m = some r ∧ 0 ≤ r ∧ (1 ≤ m → r < m) ∧ (m < 1 → r = 0) := by
  have hle := h.le
  have hle2 := h.le2
  have e0 : w64 (w64 (i + 1) - 1) = i := by rw [w64_id (n := i + 1) (by omega) (by omega), w64_id (by omega) (by omega)]; omega
  unfold spec_reader_pick
  rw [e0]
  by_cases hm1 : m < 1
  · simp only [hm1, decide_true, Bool.true_or, iteO_true]
    exact ⟨0, rfl, by omega, by omega, fun _ => rfl⟩
  · by_cases hk : k2 = 0
    · subst hk
      simp only [Int.natCast_zero, decide_true, Bool.or_true, iteO_true]
      exact ⟨0, rfl, by omega, by omega, fun _ => rfl⟩
    · have e1 : (decide (m < 1) || decide (((k2 : Nat) : Int) = 0)) = false := by
        simp only [Bool.or_eq_false_iff, decide_eq_false_iff_not]; omega
      rw [e1]
      simp only [iteO_false]
      by_cases hlt : i < (k2 : Int)
      · rw [decide_eq_true hlt]
        simp only [iteO_true]
        obtain ⟨b1, b2⟩ := byte_at h i.toNat (by omega)
        rw [guardO_pos ⟨h0, hlt⟩, guardO_pos (by omega), w64_id (by omega) (by omega), Int.tmod_eq_emod_of_nonneg b1]
        exact ⟨_, rfl, Int.emod_nonneg _ (by omega), fun _ => Int.emod_lt_of_pos _ (by omega), by omega⟩
      · rw [decide_eq_false hlt]
        simp only [iteO_false]
        have d1 : ∀ z : Int, 0 ≤ z → 0 ≤ z.tmod (k2 : Int) ∧ z.tmod (k2 : Int) < (k2 : Int) := fun z hz => by
          rw [Int.tmod_eq_emod_of_nonneg hz]
          exact ⟨Int.emod_nonneg _ (by omega), Int.emod_lt_of_pos _ (by omega)⟩
        have e2 : w64 (w64 (i * 7) + 3) = i * 7 + 3 := by rw [w64_id (n := i * 7) (by omega) (by omega), w64_id (by omega) (by omega)]
        rw [e2]
        obtain ⟨p1, p2⟩ := d1 i h0
        obtain ⟨q1, q2⟩ := d1 (i * 7 + 3) (by omega)
        rw [guardO_pos (by omega), guardO_pos ⟨p1, p2⟩, guardO_pos (by omega), guardO_pos ⟨q1, q2⟩, guardO_pos (by omega), guardO_pos (by omega)]
        obtain ⟨a1, a2⟩ := byte_at h (i.tmod (k2 : Int)).toNat (by omega)
        obtain ⟨c1, c2⟩ := byte_at h ((i * 7 + 3).tmod (k2 : Int)).toNat (by omega)
        generalize x1.getD (i.tmod (k2 : Int)).toNat 0 = A at a1 a2 ⊢
        generalize x1.getD ((i * 7 + 3).tmod (k2 : Int)).toNat 0 = C at c1 c2 ⊢
        have t1 : 0 ≤ i.tdiv (k2 : Int) ∧ i.tdiv (k2 : Int) ≤ i := by
          rw [Int.tdiv_eq_ediv_of_nonneg h0]
          exact ⟨Int.ediv_nonneg h0 (by omega), Int.ediv_le_self _ h0⟩
        generalize i.tdiv (k2 : Int) = D at t1 ⊢
        obtain ⟨t1, t2⟩ := t1
        rw [w64_id (n := A) (by omega) (by omega), w64_id (n := A * 131) (by omega) (by omega), w64_id (n := C) (by omega) (by omega), w64_id (n := C * 1117) (by omega) (by omega), w64_id (n := A * 131 + C * 1117) (by omega) (by omega), w64_id (n := i * 29) (by omega) (by omega), w64_id (n := A * 131 + C * 1117 + i * 29) (by omega) (by omega), w64_id (n := D) (by omega) (by omega), w64_id (n := D * 53) (by omega) (by omega), w64_id (n := A * 131 + C * 1117 + i * 29 + D * 53) (by omega) (by omega)]
        generalize hS : A * 131 + C * 1117 + i * 29 + D * 53 = S
        have s1 : 0 ≤ S := by omega
        have s2 : S < 4611686018427387904 := by omega
        have s3 : 0 ≤ S.tdiv 64 ∧ S.tdiv 64 ≤ S := by
          rw [Int.tdiv_eq_ediv_of_nonneg s1]
          exact ⟨Int.ediv_nonneg s1 (by omega), Int.ediv_le_self _ s1⟩
        rw [w64_id (n := S.tdiv 64) (by omega) (by omega)]
        have := xor_small s1 s2 s3.1 (by omega)
        refine ⟨_, rfl, ?_, fun _ => ?_, by omega⟩
        · rw [Int.tmod_eq_emod_of_nonneg this]; exact Int.emod_nonneg _ (by omega)
        · rw [Int.tmod_eq_emod_of_nonneg this]; exact Int.emod_lt_of_pos _ (by omega)
/-- a pick among m numbers, and the reader's place behind it -/
theorem pick_ex {x1 : List Int} {k2 : Nat} (h : Rd x1 k2) {i m : Int} (h0 : 0 ≤ i) (h1 : i ≤ 1000000000) (hm : m ≤ 1000000000) (hp : 1 ≤ m) :
    Ex (fun _ => spec_reader_pick x1 k2 i m) (fun r => 0 ≤ r ∧ r < m) := by
  obtain ⟨r, e, r0, r1, _⟩ := pick_ok h h0 h1 hm
  exact Ex.const e ⟨r0, r1 hp⟩
theorem one_ex {x1 : List Int} {k2 : Nat} (h : Rd x1 k2) {i : Int} {l : List Int} (h0 : 0 ≤ i) (h1 : i ≤ 1000000000) (hl : l.length ≤ 1000000000) (hp : 1 ≤ l.length) :
    Ex (fun _ => spec_reader_one x1 k2 i l) (fun r => r.1 = i + 1 ∧ r.2 ∈ l) := by
  unfold spec_reader_one
  refine Ex.bind (pick_ex h h0 h1 (by omega) (by omega)) (fun r hr => ?_)
  refine Ex.guard ⟨hr.1, hr.2⟩ ?_
  exact Ex.ret ⟨w64_id (by omega) (by omega), getD_mem (by omega)⟩
theorem newReader_ex {x1 : List Int} (h : ∀ b ∈ x1, 0 ≤ b ∧ b ≤ 255) (hl : x1.length ≤ 1000000000) : Ex (fun _ => spec_newReader x1) (fun k => Rd x1 k) := by
  unfold spec_newReader
  refine Ex.bind (P := fun k => Rd x1 k) ?_ (fun k hk => Ex.ret hk)
  refine Ex.ite (fun hb => ?_) (fun hb => ?_)
  · have := of_decide_eq_true hb
    refine Ex.guard (by omega) (Ex.ret ⟨h, by omega, Nat.le_refl _⟩)
  · have := of_decide_eq_false hb
    exact Ex.ret ⟨h, Nat.le_refl _, by omega⟩
end
section
open Go
theorem someValue_ex {x1 : List Int} {k2 : Nat} (h : Rd x1 k2) {i : Int} (h0 : 0 ≤ i) (h1 : i ≤ 900000000) :
    Ex (fun _ => spec_someValue x1 k2 i) (fun r => r.1 = i + 3 ∧ -1000 ≤ r.2 ∧ r.2 ≤ 1000) := by
  unfold spec_someValue
  refine Ex.bind (pick_ex h h0 (by omega) (by omega) (by omega)) (fun a ha => ?_)
  have e1 : w64 (i + 1) = i + 1 := w64_id (by omega) (by omega)
  have e2 : w64 (i + 1 + 1) = i + 2 := by rw [w64_id (by omega) (by omega)]; omega
  rw [e1, e2]
  refine Ex.bind (pick_ex h (by omega) (by omega) (by omega) (by omega)) (fun b hb => ?_)
  refine Ex.bind (one_ex h (by omega) (by omega) (by simp) (by simp)) ?_
  rintro ⟨c, d⟩ ⟨h1, h2⟩
  refine Ex.ret ⟨by simp at h1 ⊢; omega, ?_⟩
  have e3 : w64 (w64 (4 * b) - 500) = 4 * b - 500 := by rw [w64_id (n := 4 * b) (by omega) (by omega), w64_id (by omega) (by omega)]
  simp only [e3, List.mem_cons, List.not_mem_nil, or_false] at h2
  simp only
  omega
end
section
open Go
def addT (t : List Nod) (x : Nod) : List Nod × Int × Bool := if validT t = true ∧ t.length ≠ 12 ∧ validT (t ++ [x]) = true then (t ++ [x], (t.length : Int), true) else ([], -1, false)
theorem NL.snoc {t : List Nod} (h : NL t) (hl : t.length ≤ 1000000000) {x : Nod} (hx : x.name.length ≤ 1000000000000) : NL (t ++ [x]) := by
  refine ⟨by simp; omega, fun y hy => ?_⟩
  rcases List.mem_append.1 hy with h1 | h1
  · exact h.2 y h1
  · rw [List.mem_singleton.1 h1]; exact hx
theorem specAdd_ex {t : List Nod} (hn : NL t) (hl : t.length ≤ 1000000) (p : Int) {s : Str} (hs : s.length ≤ 1000000000000) (v : Int) : Ex (fun n => spec_AddNode n t p s v) (· = addT t ⟨p, s, v⟩) := by
  unfold spec_AddNode
  refine Ex.be (specTree_ex hn (by omega)) ?_
  refine Ex.ite (fun h => Ex.ret ?_) (fun h => ?_)
  · simp only [Bool.or_eq_true, decide_eq_true_eq] at h
    rw [addT, if_neg]
    rintro ⟨h1, h2, _⟩
    rw [h1] at h
    rcases h with h | h
    · cases h
    · omega
  · simp only [Bool.or_eq_false_iff, decide_eq_false_iff_not] at h
    have h1 := notF h.1
    rw [view_all, List.nil_append]
    refine Ex.guard ⟨rfl, rfl, by simp; omega⟩ (Ex.guard ⟨rfl, rfl, by simp; omega⟩ ?_)
    rw [show (([(⟨p, s, v⟩ : Nod)].drop 0).take [(⟨p, s, v⟩ : Nod)].length) = [(⟨p, s, v⟩ : Nod)] from rfl]
    refine Ex.be (specTree_ex (hn.snoc (by omega) hs) (by simp; omega)) ?_
    refine Ex.ite (fun h2 => Ex.ret ?_) (fun h2 => Ex.ret ?_)
    · rw [addT, if_neg]
      rintro ⟨_, _, h3⟩
      rw [h3] at h2; cases h2
    · rw [addT, if_pos ⟨h1, by omega, notF h2⟩]
theorem of_ex {x1 : List Int} {k2 : Nat} (h : Rd x1 k2) {i : Int} {l : List Str} (h0 : 0 ≤ i) (h1 : i ≤ 1000000000) (hl : l.length ≤ 1000000000) (hp : 1 ≤ l.length) :
    Ex (fun _ => spec_reader_of x1 k2 i l) (fun r => r.1 = i + 1 ∧ r.2 ∈ l) := by
  unfold spec_reader_of
  refine Ex.bind (pick_ex h h0 h1 (by omega) (by omega)) (fun r hr => ?_)
  refine Ex.guard ⟨hr.1, hr.2⟩ ?_
  exact Ex.ret ⟨w64_id (by omega) (by omega), getD_mem (by omega)⟩
theorem someName_ex {x1 : List Int} {k2 : Nat} (h : Rd x1 k2) {i : Int} (h0 : 0 ≤ i) (h1 : i ≤ 900000000) : Ex (fun _ => spec_someName x1 k2 i) (fun r => r.1 = i + 1 ∧ r.2.length ≤ 5) := by
  unfold spec_someName
  refine Ex.bind (of_ex h h0 (by omega) (by simp) (by simp)) ?_
  rintro ⟨a, s⟩ ⟨e, hs⟩
  refine Ex.ret ⟨e, ?_⟩
  simp only [List.mem_cons, List.not_mem_nil, or_false] at hs
  rcases hs with rfl | rfl | rfl | rfl | rfl | rfl <;> simp
/-- a drawn tree -/
structure GT (t : List Nod) : Prop where
  lo : 1 ≤ t.length
  hi : t.length ≤ 12
  nm : ∀ x ∈ t, x.name.length ≤ 5
theorem GT.nl {t : List Nod} (h : GT t) : NL t := ⟨by have := h.hi; omega, fun x hx => by have := h.nm x hx; omega⟩
theorem addT_GT {t : List Nod} (h : GT t) {x : Nod} (hx : x.name.length ≤ 5) : GT (if (addT t x).2.2 = true then (addT t x).1 else t) := by
  rw [addT]
  split
  · rename_i hc
    rw [if_pos rfl]
    refine ⟨by simp, ?_, fun y hy => ?_⟩
    · have := hc.2.2
      simp only [validT, Bool.and_eq_true, decide_eq_true_eq] at this
      exact this.1.2
    · rcases List.mem_append.1 hy with h1 | h1
      · exact h.nm y h1
      · rw [List.mem_singleton.1 h1]; exact hx
  · rw [if_neg (by simp)]; exact h
theorem someTree_loop {x1 : List Int} {k2 : Nat} (h : Rd x1 k2) : ∀ (m : Nat) (i : Int) (t : List Nod), 0 ≤ i → i + 5 * m ≤ 800000000 → GT t →
    Ex (fun n => spec_someTree_L1 k2 x1 n i t (m : Int)) (fun r => i ≤ r.1 ∧ r.1 ≤ i + 5 * m ∧ GT r.2)
  | 0, i, t, h0, h1, ht => by
    refine Ex.succ ?_
    simp only [spec_someTree_L1]
    exact Ex.no rfl (Ex.ret ⟨Int.le_refl _, by omega, ht⟩)
  | m + 1, i, t, h0, h1, ht => by
    refine Ex.succ ?_
    simp only [spec_someTree_L1]
    have hlo := ht.lo
    have hhi := ht.hi
    refine Ex.yes (decide_eq_true (by omega)) ?_
    refine Ex.bind (pick_ex h h0 (by omega) (by omega) (by omega)) (fun a ha => ?_)
    rw [w64_id (n := i + 1) (by omega) (by omega)]
    refine Ex.bind (someName_ex h (by omega) (by omega)) ?_
    rintro ⟨j, s⟩ ⟨hj, hs⟩
    simp only at hj hs ⊢
    subst hj
    refine Ex.bind (someValue_ex h (by omega) (by omega)) ?_
    rintro ⟨j, v⟩ ⟨hj, hv⟩
    simp only at hj hv ⊢
    subst hj
    refine Ex.be (specAdd_ex ht.nl (by omega) _ (by omega) _) ?_
    have hg := addT_GT ht (x := ⟨a, s, v⟩) hs
    generalize addT t ⟨a, s, v⟩ = r at hg
    obtain ⟨t', p, b⟩ := r
    simp only at hg ⊢
    refine Ex.be (a := if b = true then t' else t) ?_ ?_
    · cases b with
      | true => exact Ex.yes rfl (Ex.ret rfl)
      | false => exact Ex.no rfl (Ex.ret rfl)
    · have e : w64 (((m + 1 : Nat) : Int) - 1) = (m : Int) := by rw [w64_id (by omega) (by omega)]; omega
      rw [e]
      refine Ex.mono (someTree_loop h m _ _ (by omega) (by omega) hg) ?_
      rintro r ⟨h2, h3, h4⟩
      exact ⟨by omega, by omega, h4⟩
theorem someTree_ex {x1 : List Int} {k2 : Nat} (h : Rd x1 k2) {i : Int} (h0 : 0 ≤ i) (h1 : i ≤ 700000000) : Ex (fun n => spec_someTree n x1 k2 i) (fun r => i ≤ r.1 ∧ r.1 ≤ i + 100 ∧ GT r.2) := by
  unfold spec_someTree
  refine Ex.bind (someValue_ex h h0 (by omega)) ?_
  rintro ⟨j, v⟩ ⟨hj, hv⟩
  simp only at hj hv ⊢
  subst hj
  refine Ex.bind (one_ex h (by omega) (by omega) (by simp) (by simp)) ?_
  rintro ⟨j, c⟩ ⟨hj, hc⟩
  simp only at hj hc ⊢
  subst hj
  simp only [List.mem_cons, List.not_mem_nil, or_false] at hc
  obtain ⟨m, rfl, hm⟩ : ∃ m : Nat, c = (m : Int) ∧ m ≤ 16 := ⟨c.toNat, by omega, by omega⟩
  refine Ex.bind (someTree_loop h m _ _ (by omega) (by omega) ⟨by simp, by simp, by simp⟩) ?_
  rintro ⟨j, t⟩ ⟨h2, h3, h4⟩
  simp only at h2 h3 h4 ⊢
  exact Ex.ret ⟨by simp only; omega, by simp only; omega, h4⟩
/-- a drawn row of nodes and a window on it -/
structure GR (x : List Nod) (k l : Nat) : Prop where
  hi : x.length ≤ 13
  nm : ∀ y ∈ x, y.name.length ≤ 5
  vw : k + l ≤ x.length
theorem GR.len {x : List Nod} {k l : Nat} (h : GR x k l) : ((x.drop k).take l).length ≤ 13 := by
  have := h.hi; simp; omega
theorem GR.names {x : List Nod} {k l : Nat} (h : GR x k l) : ∀ y ∈ (x.drop k).take l, y.name.length ≤ 5 := fun y hy => h.nm y (List.mem_of_mem_drop (List.mem_of_mem_take hy))
theorem GR.nl {x : List Nod} {k l : Nat} (h : GR x k l) : NL ((x.drop k).take l) := ⟨by have := h.len; omega, fun y hy => by have := h.names y hy; omega⟩
theorem GT.set {t : List Nod} (h : GT t) {i : Nat} {x : Nod} (hx : x.name.length ≤ 5) : GR (t.set i x) 0 (t.set i x).length := by
  refine ⟨by have := h.hi; simp; omega, fun y hy => ?_, by omega⟩
  rcases List.mem_or_eq_of_mem_set hy with h1 | rfl
  · exact h.nm y h1
  · exact hx
theorem anyTree_loop {x1 : List Int} {k2 : Nat} {j : Int} : ∀ (m : Nat) (t : List Nod), t.length + m = 13 → (∀ y ∈ t, y.name.length ≤ 5) →
    Ex (fun n => spec_anyTree_L1 k2 j x1 n t) (fun r => r.length ≤ 13 ∧ ∀ y ∈ r, y.name.length ≤ 5)
  | 0, t, h1, h2 => by
    refine Ex.succ ?_
    simp only [spec_anyTree_L1]
    exact Ex.no (decide_eq_false (by omega)) (Ex.ret ⟨by omega, h2⟩)
  | m + 1, t, h1, h2 => by
    refine Ex.succ ?_
    simp only [spec_anyTree_L1]
    refine Ex.yes (decide_eq_true (by omega)) (Ex.guard (by simp; omega) ?_)
    refine anyTree_loop m _ (by simp; omega) (fun y hy => ?_)
    rcases List.mem_append.1 hy with h3 | h3
    · exact h2 y h3
    · rw [List.mem_singleton.1 h3]; simp
theorem anyTree_ex {x1 : List Int} {k2 : Nat} (h : Rd x1 k2) {i : Int} (h0 : 0 ≤ i) (h1 : i ≤ 600000000) :
    Ex (fun n => spec_anyTree n x1 k2 i) (fun r => (i ≤ r.1 ∧ r.1 ≤ i + 200) ∧ GR r.2.1 r.2.2.1 r.2.2.2) := by
  unfold spec_anyTree
  refine Ex.bind (someTree_ex h h0 (by omega)) ?_
  rintro ⟨j, t⟩ ⟨h2, h3, ht⟩
  simp only at h2 h3 ht ⊢
  have hlo := ht.lo
  have hhi := ht.hi
  have hnm := ht.nm
  refine Ex.bind (pick_ex h (by omega) (by omega) (by omega) (by omega)) (fun p hp => ?_)
  rw [w64_id (n := j + 1) (by omega) (by omega)]
  refine Ex.bind (pick_ex h (by omega) (by omega) (by omega) (by omega)) (fun c hc => ?_)
  rw [w64_id (n := j + 1 + 1) (by omega) (by omega)]
  have hpn : (t.getD p.toNat dnod).name.length ≤ 5 := hnm _ (getD_mem (by omega))
  refine Ex.bind (P := fun r => (i ≤ r.1 ∧ r.1 ≤ i + 200) ∧ GR r.2.1 r.2.2.1 r.2.2.2) ?_ (fun r hr => Ex.ret hr)
  refine Ex.ite (fun _ => ?_) (fun _ => ?_)
  · refine Ex.bind (pick_ex h (by omega) (by omega) (by omega) (by omega)) (fun q hq => ?_)
    refine Ex.guard ⟨hp.1, hp.2⟩ (Ex.ret ⟨?_, ht.set hpn⟩)
    simp only
    rw [w64_id (by omega) (by omega)]; omega
  · refine Ex.bind (P := fun r => (i ≤ r.1 ∧ r.1 ≤ i + 200) ∧ GR r.2.1 r.2.2.1 r.2.2.2) ?_ (fun r hr => Ex.ret hr)
    refine Ex.ite (fun _ => ?_) (fun _ => ?_)
    · refine Ex.bind (of_ex h (by omega) (by omega) (by simp) (by simp)) ?_
      rintro ⟨q, s⟩ ⟨hq, hs⟩
      simp only at hq hs ⊢
      refine Ex.guard ⟨hp.1, hp.2⟩ (Ex.ret ⟨by simp only; omega, ht.set ?_⟩)
      simp only [List.mem_cons, List.not_mem_nil, or_false] at hs
      rcases hs with rfl | rfl | rfl | rfl <;> simp
    · refine Ex.bind (P := fun r => (i ≤ r.1 ∧ r.1 ≤ i + 200) ∧ GR r.2.1 r.2.2.1 r.2.2.2) ?_ (fun r hr => Ex.ret hr)
      refine Ex.ite (fun _ => ?_) (fun _ => ?_)
      · refine Ex.bind (one_ex h (by omega) (by omega) (by simp) (by simp)) ?_
        rintro ⟨q, s⟩ ⟨hq, hs⟩
        simp only at hq hs ⊢
        exact Ex.guard ⟨hp.1, hp.2⟩ (Ex.ret ⟨by simp only; omega, ht.set hpn⟩)
      · refine Ex.bind (P := fun r => GR r.1 r.2.1 r.2.2) ?_ (fun r hr => Ex.ret ⟨by simp only; omega, hr⟩)
        refine Ex.ite (fun _ => Ex.guard (by omega) (Ex.ret ⟨by simp only; omega, hnm, by simp only; omega⟩)) (fun _ => ?_)
        refine Ex.bind (P := fun r => r.length ≤ 13 ∧ ∀ y ∈ r, y.name.length ≤ 5) ?_ (fun r hr => Ex.ret ⟨hr.1, hr.2, by simp⟩)
        refine Ex.ite (fun _ => ?_) (fun _ => Ex.ret ⟨by omega, hnm⟩)
        exact Ex.bind (anyTree_loop (13 - t.length) t (by omega) hnm) (fun r hr => Ex.ret hr)
end
section
open Go
set_option linter.unusedVariables false
theorem VT.nl {t : List Nod} (h : VT t) : NL t := by
  have hhi := h.hi
  refine ⟨by omega, fun x hx => ?_⟩
  obtain ⟨i, hi, rfl⟩ := List.mem_iff_getElem.1 hx
  have e2 : t[i].name = nmo t i := by rw [nmo, List.getD_eq_getElem?_getD, List.getElem?_eq_getElem hi]; rfl
  rw [e2]
  rcases Nat.eq_zero_or_pos i with rfl | h0
  · rw [h.rn]; simp
  · have := name_len (h.nam i h0 hi); omega
theorem VT.le {t : List Nod} (h : VT t) : t.length ≤ 400000000 := by have := h.hi; omega
theorem pre_len (t : List Nod) (k i : Nat) : (((List.range i).filter (kept t k)).map (moved t k)).length = cnt t k i := by rw [List.length_map]; rfl
def pairO (o : Option (List Nod)) : List Nod × Bool := match o with
  | some u => (u, true)
  | none => ([], false)
theorem getD_app {α : Type} {a b : List α} {d : α} (j : Nat) : (a ++ b).getD (a.length + j) d = b.getD j d := by
  rw [List.getD_eq_getElem?_getD, List.getElem?_append_right (by omega), List.getD_eq_getElem?_getD]
  congr 2; omega
theorem addT_fits {t : List Nod} (h : VT t) {x : Nod} : addT t x = if validT (t ++ [x]) = true then (t ++ [x], (t.length : Int), true) else ([], -1, false) := by
  rw [addT]
  by_cases hv : validT (t ++ [x]) = true
  · have := (validT_iff.1 hv).hi
    simp at this
    rw [if_pos ⟨validT_iff.2 h, by omega, hv⟩, if_pos hv]
  · rw [if_neg (fun h => hv h.2.2), if_neg hv]
theorem pth_nohead {s : Str} (hs : (47 : UInt8) ∉ s) : pth s = none := by
  cases s with
  | nil => rfl
  | cons c r => rw [pth, if_neg (by rintro rfl; simp at hs)]
/-- the node that a further path asks for -/
theorem addP_up {t : List Nod} (h : VT t) {a b : Str} {v : Int} (hb : (47 : UInt8) ∉ b) (hn : resO t (a ++ 47 :: b) = none) :
    addP t (a ++ 47 :: b) v = if validT (t ++ [⟨if a = [] then 0 else res t a, b, v⟩]) = true ∧ 0 ≤ res (t ++ [⟨if a = [] then 0 else res t a, b, v⟩]) (a ++ 47 :: b) then some (t ++ [⟨if a = [] then 0 else res t a, b, v⟩]) else none := by
  have up : ∀ (p : Nat), p < t.length → a = fm 47 (np t p) → (if a = [] then (0 : Int) else res t a) = (p : Int) := by
    intro p hp e
    by_cases ha : a = []
    · rw [if_pos ha]
      have : np t p = [] := by
        cases hx : np t p with
        | nil => rfl
        | cons s l => rw [hx, fm_cons, ha] at e; cases e
      rw [(np_nil h hp).1 this]; rfl
    · rw [if_neg ha]
      have : a = ptx (np t p) := by rw [ptx, if_neg (fun h => ha (by rw [e, h]; rfl)), e]
      rw [this, res, resO_np h hp]; rfl
  cases e : addP t (a ++ 47 :: b) v with
  | some u =>
    obtain ⟨p, n, rfl, f, hs⟩ := (addP_iff h).1 e
    have hp : p < t.length := f.p1
    rw [ptx_snoc] at hs
    obtain ⟨rfl, rfl⟩ := last_uniq hb (name_no f.nam).1 hs
    rw [up p hp rfl]
    have h' := (fits_iff h).2 f
    have hr : resO (t ++ [⟨(p : Int), b, v⟩]) (fm 47 (np t p) ++ 47 :: b) = some t.length := by
      rw [resO_iff h']
      refine ⟨by simp, ?_⟩
      rw [app_np_last f.p0 f.p1, ← ptx_snoc]; rfl
    have hr2 : 0 ≤ res (t ++ [⟨(p : Int), b, v⟩]) (fm 47 (np t p) ++ 47 :: b) := by rw [res, hr]; simp [oi]
    rw [if_pos ⟨validT_iff.2 h', hr2⟩]
  | none =>
    rw [eq_comm, if_neg]
    rintro ⟨h1, h2⟩
    have h' := validT_iff.1 h1
    have f := (fits_iff h).1 h'
    rw [res] at h2
    cases e2 : resO (t ++ [⟨if a = [] then 0 else res t a, b, v⟩]) (a ++ 47 :: b) with
    | none => rw [e2] at h2; simp [oi] at h2
    | some k =>
      obtain ⟨k1, k2⟩ := (resO_iff h').1 e2
      have hk : k = t.length := by
        rcases Nat.lt_or_ge k t.length with h3 | h3
        · rw [app_np h3] at k2
          rw [(resO_iff h).2 ⟨h3, k2⟩] at hn; cases hn
        · simp at k1; omega
      subst hk
      rw [app_np_last f.p0 f.p1] at k2
      have hp0 := f.p0
      have := (addP_iff h (s := a ++ 47 :: b) (v := v) (u := t ++ [⟨if a = [] then 0 else res t a, b, v⟩])).2 ⟨(if a = [] then (0 : Int) else res t a).toNat, b, by rw [Int.toNat_of_nonneg hp0], by rw [Int.toNat_of_nonneg hp0]; exact f, k2.symm⟩
      rw [this] at e; cases e
end
section
open Go
theorem less_eq : ∀ (x y : Str), Op.bytesLess x y = decide (x < y)
  | [], [] => by rw [Op.bytesLess]; exact (decide_eq_false (List.lt_irrefl _)).symm
  | [], b :: y => by rw [Op.bytesLess]; exact (decide_eq_true (List.nil_lt_cons b y)).symm
  | a :: x, [] => by rw [Op.bytesLess]; exact (decide_eq_false (List.not_lt_nil _)).symm
  | a :: x, b :: y => by
    rw [Op.bytesLess, less_eq x y, Bool.eq_iff_iff, decide_eq_true_eq, List.cons_lt_cons_iff]
    simp only [Bool.or_eq_true, Bool.and_eq_true, decide_eq_true_eq, beq_iff_eq]
section
variable {α : Type} (k : α → Str)
/-- a value put into a descending row -/
def insR (v : α) : List α → List α
  | [] => [v]
  | p :: R => if k v < k p then p :: insR v R else v :: p :: R
def isort : List α → List α → List α
  | R, [] => R.reverse
  | R, v :: S => isort (insR k v R) S
theorem insR_perm (v : α) : ∀ R, (insR k v R).Perm (v :: R)
  | [] => List.Perm.refl _
  | p :: R => by
    rw [insR]
    split
    · exact ((insR_perm v R).cons p).trans (List.Perm.swap v p R)
    · exact List.Perm.refl _
theorem insR_len (v : α) (R : List α) : (insR k v R).length = R.length + 1 := by
  rw [(insR_perm k v R).length_eq]; rfl
theorem isort_perm : ∀ (S R : List α), (isort k R S).Perm (R ++ S)
  | [], R => by rw [isort, List.append_nil]; exact List.reverse_perm R
  | v :: S, R => by
    rw [isort]
    refine (isort_perm S _).trans (((insR_perm k v R).append_right S).trans ?_)
    rw [List.cons_append]
    exact (List.perm_middle (a := v) (l₁ := R) (l₂ := S)).symm
theorem insR_sorted (v : α) : ∀ R : List α, R.Pairwise (fun a b => ¬ k a < k b) → (insR k v R).Pairwise (fun a b => ¬ k a < k b)
  | [], _ => by simp [insR]
  | p :: R, h => by
    rw [List.pairwise_cons] at h
    rw [insR]
    split
    · rename_i hv
      rw [List.pairwise_cons]
      refine ⟨fun x hx => ?_, insR_sorted v R h.2⟩
      rcases List.mem_cons.1 ((insR_perm k v R).mem_iff.1 hx) with rfl | hx
      · exact List.lt_asymm hv
      · exact h.1 x hx
    · rename_i hv
      rw [List.pairwise_cons, List.pairwise_cons]
      refine ⟨fun x hx => ?_, h⟩
      rcases List.mem_cons.1 hx with rfl | hx
      · exact hv
      · have h1 := h.1 x hx
        rw [List.not_lt] at hv h1 ⊢
        exact List.le_trans h1 hv
theorem isort_sorted : ∀ (S R : List α), R.Pairwise (fun a b => ¬ k a < k b) → (isort k R S).Pairwise (fun a b => ¬ k b < k a)
  | [], R, h => by rw [isort]; exact List.pairwise_reverse.2 h
  | v :: S, R, h => by rw [isort]; exact isort_sorted S _ (insR_sorted k v R h)
end
theorem insR_map {α β : Type} (k : β → Str) (f : α → β) (v : α) : ∀ R : List α, insR k (f v) (R.map f) = (insR (fun x => k (f x)) v R).map f
  | [] => rfl
  | p :: R => by
    rw [List.map_cons, insR, insR]
    split
    · rw [insR_map k f v R]; rfl
    · rfl
theorem isort_map {α β : Type} (k : β → Str) (f : α → β) : ∀ (S R : List α), isort k (R.map f) (S.map f) = (isort (fun x => k (f x)) R S).map f
  | [], R => by rw [List.map_nil, isort, isort, List.map_reverse]
  | v :: S, R => by rw [List.map_cons, isort, insR_map, isort_map k f S _, isort]
def ky (t : List Nod) (x : Int) : Str := (t.getD x.toNat dnod).name
def nkd (t : List Nod) (i : Nat) : List Int := (kd t i).map fun (j : Nat) => (j : Int)
def nks (t : List Nod) (i : Nat) : List Int := (ks t i).map fun (j : Nat) => (j : Int)
def nwk (t : List Nod) (f i : Nat) : List Int := (wk t f i).map fun (j : Nat) => (j : Int)
theorem sort_kids {t : List Nod} (h : VT t) (i : Nat) : isort (ky t) [] (nkd t i) = nks t i := by
  have := isort_map (ky t) (fun (j : Nat) => (j : Int)) (kd t i) []
  rw [List.map_nil] at this
  rw [nkd, this, nks]
  congr 1
  have e : (fun (x : Nat) => ky t (x : Int)) = nmo t := by funext x; rw [ky, Int.toNat_natCast]; rfl
  rw [e]
  refine ks_uniq' h i (isort_sorted _ _ _ (by simp)) ?_
  have := isort_perm (nmo t) (kd t i) []
  rwa [List.nil_append] at this
theorem wk_len {t : List Nod} (h : VT t) {f i : Nat} (hi : i < t.length) (hf : t.length ≤ f + i + 1) : (wk t f i).length ≤ 12 := by
  have hn : (wk t f i).Nodup := List.Pairwise.imp (fun {a b} hab => by rintro rfl; exact List.lt_irrefl _ hab) (wk_sorted h f i hi hf)
  have := len_sub hn (l' := List.range t.length) (fun x hx => by simpa using ((mem_wk h f i hi hf x).1 hx).1)
  have := h.hi
  simp at this ⊢
  simp at *
  omega
end
section
open Go
set_option linter.unusedVariables false
abbrev Rec := List Nod → Int → Option (List Int)
theorem Ex.shift {α : Type} {f : Nat → Option α} {P : α → Prop} (h : Ex f P) : Ex (fun n => f (n + 1)) P := by
  obtain ⟨r, h1, N, h2⟩ := h
  exact ⟨r, h1, N, fun n hn => h2 (n + 1) (by omega)⟩
theorem rev_at {α : Type} {R S : List α} {v d : α} : (R.reverse ++ v :: S).getD R.length d = v := by
  rw [List.getD_eq_getElem?_getD, List.getElem?_append_right (by simp)]; simp
theorem rev_at1 {α : Type} {R S : List α} {p d : α} : ((p :: R).reverse ++ S).getD R.length d = p := by
  rw [List.reverse_cons, List.append_assoc]; exact rev_at
theorem rev_swap {α : Type} {R S : List α} {p v : α} : (((p :: R).reverse ++ v :: S).set (R.length + 1) p).set R.length v = R.reverse ++ v :: p :: S := by
  have e : (p :: R).reverse ++ v :: S = R.reverse ++ p :: v :: S := by simp
  rw [e, List.set_append_right _ _ (by simp), List.set_append_right _ _ (by simp)]
  simp
/-- a number of a node -/
def InT (t : List Nod) (x : Int) : Prop := 0 ≤ x ∧ x < t.length
theorem ky_less {t : List Nod} (x y : Int) : Op.bytesLess ((t.getD x.toNat dnod).name) ((t.getD y.toNat dnod).name) = decide (ky t x < ky t y) := less_eq _ _
theorem specIns_ex {t : List Nod} {a b v : Int} (hv : InT t v) : ∀ (R S : List Int) (rc : Nat → Rec), (∀ x ∈ R, InT t x) → R.length + S.length ≤ 1000000 →
    Ex (fun n => spec_walk_L2 (rc n) t a b n (R.reverse ++ v :: S) (R.length : Int)) (· = (insR (ky t) v R).reverse ++ S)
  | [], S, rc, _, hl => by
    refine Ex.succ ?_
    simp only [spec_walk_L2]
    refine Ex.be (a := false) (Ex.no (by simp) (Ex.ret rfl)) (Ex.no rfl (Ex.ret ?_))
    simp [insR]
  | p :: R, S, rc, hR, hl => by
    refine Ex.succ ?_
    simp only [List.length_cons] at hl
    have hp := hR p (by simp)
    have e1 : w64 (((p :: R).length : Int) - 1) = ((R.length : Nat) : Int) := by rw [w64_id (by simp <;> omega) (by simp; omega)]; simp
    simp only [spec_walk_L2, e1, Int.toNat_natCast]
    have g1 : ((p :: R).reverse ++ v :: S).getD (p :: R).length 0 = v := rev_at
    have g2 : ((p :: R).reverse ++ v :: S).getD R.length 0 = p := rev_at1
    rw [g1, g2]
    have hL : (((p :: R).reverse ++ v :: S).length : Int) = R.length + S.length + 2 := by simp; omega
    have hP : (((p :: R).length : Nat) : Int) = R.length + 1 := by simp
    refine Ex.be (a := decide (ky t v < ky t p)) (Ex.yes (decide_eq_true (by omega)) (Ex.guard (by omega) (Ex.guard hv (Ex.guard (by omega) (Ex.guard hp (Ex.ret (ky_less v p))))))) ?_
    rw [insR]
    refine Ex.ite (fun hb => ?_) (fun hb => Ex.ret ?_)
    · rw [if_pos (of_decide_eq_true hb)]
      refine Ex.guard (by omega) (Ex.guard (by omega) (Ex.guard (by omega) (Ex.guard (by rw [List.length_set]; omega) ?_)))
      have e2 := rev_swap (R := R) (S := S) (p := p) (v := v)
      rw [show R.length + 1 = (p :: R).length from rfl] at e2
      rw [e2]
      refine Ex.mono (specIns_ex hv R (p :: S) (fun n => rc (n + 1)) (fun x hx => hR x (by simp [hx])) (by simp; omega)) ?_
      rintro r rfl
      simp
    · rw [if_neg (of_decide_eq_false hb)]; simp
theorem specSort_ex {t : List Nod} {a : Int} : ∀ (S R : List Int) (rc : Nat → Rec), (∀ x ∈ R, InT t x) → (∀ x ∈ S, InT t x) → R.length + S.length ≤ 1000000 →
    Ex (fun n => spec_walk_L1 (rc n) t a n (R.reverse ++ S) (R.length : Int)) (· = isort (ky t) R S)
  | [], R, rc, hR, hS, hl => by
    refine Ex.succ ?_
    simp only [spec_walk_L1]
    exact Ex.no (decide_eq_false (by simp)) (Ex.ret (by simp [isort]))
  | v :: S, R, rc, hR, hS, hl => by
    refine Ex.succ ?_
    simp only [List.length_cons] at hl
    simp only [spec_walk_L1]
    refine Ex.yes (decide_eq_true (by simp; omega)) (Ex.be (specIns_ex (hS v (by simp)) R S (fun n => rc (n + 1)) hR (by omega)) ?_)
    have e := insR_len (ky t) v R
    rw [w64_succ (by omega), ← e, isort]
    refine specSort_ex S (insR (ky t) v R) (fun n => rc (n + 1)) (fun x hx => ?_) (fun x hx => hS x (by simp [hx])) (by omega)
    rcases List.mem_cons.1 ((insR_perm (ky t) v R).mem_iff.1 hx) with rfl | hx
    · exact hS x (by simp)
    · exact hR x hx
theorem specKids_ex {t : List Nod} (h : VT t) (i : Nat) : Ex (fun n => spec_kids n t (i : Int)) (· = nkd t i) := by
  have hlo := h.lo
  have hhi := h.hi
  unfold spec_kids
  refine Ex.be (a := nkd t i) ?_ (Ex.ret rfl)
  have e0 : ∀ k, k ≤ t.length → ((List.range t.length).take k).length = k := fun k hk => by simp; omega
  refine up t.length (fun k (x : List Int) => x = (((List.range t.length).take k).filter fun j => decide (pa t j = (i : Int))).map fun (j : Nat) => (j : Int)) (f := fun n x j => spec_kids_L1 t i n x j) ?_ ?_ 1 [] hlo ?_
  · rintro k _ hk rfl next
    simp only [spec_kids_L1, Int.toNat_natCast]
    have hx : ((((List.range t.length).take k).filter fun j => decide (pa t j = (i : Int))).map fun (j : Nat) => (j : Int)).length ≤ k := by
      rw [List.length_map]
      exact Nat.le_trans (List.length_filter_le _ _) (by rw [e0 k (by omega)]; exact Nat.le_refl _)
    refine Ex.yes (decide_eq_true (by omega)) (Ex.guard (by omega) ?_)
    rw [w64_succ (by omega)]
    have e1 : (List.range t.length)[k]? = some k := List.getElem?_range hk
    refine Ex.be (a := (((List.range t.length).take (k + 1)).filter fun j => decide (pa t j = (i : Int))).map fun (j : Nat) => (j : Int)) ?_ (next _ rfl)
    rw [List.take_add_one, e1, List.filter_append, List.map_append]
    refine Ex.ite (fun hb => Ex.guard (by simp at hx ⊢; omega) (Ex.ret ?_)) (fun hb => Ex.ret ?_)
    · have : [k].filter (fun j => decide (pa t j = (i : Int))) = [k] := by
        rw [List.filter_cons, if_pos (show decide (pa t k = (i : Int)) = true from hb)]; rfl
      show _ ++ _ = _ ++ List.map _ (List.filter _ [k])
      rw [this]; rfl
    · have : [k].filter (fun j => decide (pa t j = (i : Int))) = [] := by
        rw [List.filter_cons, if_neg (by rw [show decide (pa t k = (i : Int)) = false from hb]; simp)]; rfl
      show _ = _ ++ List.map _ (List.filter _ [k])
      rw [this]; simp
  · rintro _ rfl
    simp only [spec_kids_L1]
    refine Ex.no (decide_eq_false (by omega)) (Ex.ret ?_)
    rw [nkd, kd, List.take_of_length_le (by simp)]
  · have : (List.range t.length).take 1 = [0] := by
      rw [List.take_range]; rw [show min 1 t.length = 1 by omega]; rfl
    rw [this, List.filter_cons, if_neg (by have := h.rp; simp; omega)]; rfl
theorem nkd_in {t : List Nod} {i : Nat} : ∀ x ∈ nkd t i, InT t x := by
  intro x hx
  obtain ⟨j, hj, rfl⟩ := List.mem_map.1 hx
  have := (mem_kd.1 hj).1
  exact ⟨by omega, by omega⟩
theorem nkd_len {t : List Nod} {i : Nat} : (nkd t i).length ≤ t.length := by rw [nkd, List.length_map]; exact kd_len t i
theorem specWalkAll_ex {t : List Nod} {g : Nat → List Int} : ∀ (L : List Int) (xs : List Int) (k : Nat) (acc : List Int) (rc : Nat → Rec), xs.drop k = L → k + L.length = xs.length → xs.length ≤ 100 → (∀ x ∈ L, Ex (fun n => rc n t x) (· = g x.toNat)) → (∀ x ∈ L, (g x.toNat).length ≤ 12) → acc.length ≤ 1 + 12 * k →
    Ex (fun n => spec_walk_L3 (rc n) t xs n acc (k : Int)) (· = acc ++ L.flatMap fun x => g x.toNat)
  | [], xs, k, acc, rc, h1, h2, h3, h4, h5, h6 => by
    refine Ex.succ ?_
    simp only [spec_walk_L3]
    simp only [List.length_nil] at h2
    exact Ex.no (decide_eq_false (by omega)) (Ex.ret (by simp))
  | x :: L, xs, k, acc, rc, h1, h2, h3, h4, h5, h6 => by
    refine Ex.succ ?_
    simp only [List.length_cons] at h2
    have hk : k < xs.length := by omega
    rw [drop_at 0 hk, List.cons.injEq] at h1
    simp only [spec_walk_L3, Int.toNat_natCast, h1.1]
    have h7 := h5 x (by simp)
    refine Ex.yes (decide_eq_true (by omega)) (Ex.guard (by omega) (Ex.be (h4 x (by simp)).shift (Ex.guard (by simp; omega) ?_)))
    rw [view_all, w64_succ (by omega)]
    refine Ex.mono (specWalkAll_ex L xs (k + 1) (acc ++ g x.toNat) (fun n => rc (n + 1)) h1.2 (by omega) h3 (fun y hy => (h4 y (by simp [hy])).shift) (fun y hy => h5 y (by simp [hy])) (by simp; omega)) ?_
    rintro r rfl
    simp
theorem specWalk_ex {t : List Nod} (h : VT t) : ∀ (f i : Nat), i < t.length → t.length ≤ f + i + 1 → Ex (fun n => spec_walk n t (i : Int)) (· = nwk t f i) := by
  have hhi := h.hi
  have one : ∀ (f i : Nat) (g : Nat → List Int), i < t.length → (∀ k, k ∈ ks t i → Ex (fun n => spec_walk n t (k : Int)) (· = g k)) → (∀ k, k ∈ ks t i → (g k).length ≤ 12) → Ex (fun n => spec_walk n t (i : Int)) (· = (i : Int) :: (ks t i).flatMap g) := by
    intro f i g hi hg hg2
    refine Ex.succ ?_
    simp only [spec_walk]
    unfold spec_walk_B
    have hk := nkd_len (t := t) (i := i)
    refine Ex.be (specKids_ex h i) (Ex.be (a := nks t i) ?_ (Ex.be (a := (i : Int) :: (ks t i).flatMap g) ?_ (Ex.ret rfl)))
    · have := specSort_ex (t := t) (a := (i : Int)) (nkd t i) [] (fun n => spec_walk n) (by simp) nkd_in (by simp; omega)
      rw [sort_kids h i] at this
      exact this
    · have hl : (nks t i).length = (nkd t i).length := by
        rw [nks, nkd, List.length_map, List.length_map, ks, (List.mergeSort_perm _ _).length_eq]
      have := specWalkAll_ex (t := t) (g := g) (nks t i) (nks t i) 0 [(i : Int)] (fun n => spec_walk n) (by simp) (by simp) (by omega) (fun x hx => ?_) (fun x hx => ?_) (by simp)
      · refine Ex.mono this ?_
        rintro r rfl
        rw [nks, List.flatMap_map]
        simp
      · obtain ⟨j, hj, rfl⟩ := List.mem_map.1 hx
        rw [Int.toNat_natCast]; exact hg j hj
      · obtain ⟨j, hj, rfl⟩ := List.mem_map.1 hx
        rw [Int.toNat_natCast]; exact hg2 j hj
  intro f
  induction f with
  | zero =>
    intro i hi hf
    have hks : ks t i = [] := by
      rw [List.eq_nil_iff_forall_not_mem]
      intro k hk
      obtain ⟨k1, k2⟩ := mem_ks.1 hk
      have := (kd_pos h k1 k2).1
      omega
    have := one 0 i (fun _ => []) hi (fun k hk => by rw [hks] at hk; cases hk) (fun k hk => by simp)
    rw [hks] at this
    exact this
  | succ f ih =>
    intro i hi hf
    have := one f i (nwk t f) hi (fun k hk => ?_) (fun k hk => ?_)
    · refine Ex.mono this ?_
      rintro r rfl
      rw [nwk, wk, List.map_cons, List.map_flatMap]
      rfl
    · obtain ⟨k1, k2⟩ := mem_ks.1 hk
      have := (kd_pos h k1 k2).1
      exact ih k k1 (by omega)
    · obtain ⟨k1, k2⟩ := mem_ks.1 hk
      have := (kd_pos h k1 k2).1
      rw [nwk, List.length_map]
      exact wk_len h k1 (by omega)
theorem specEnt_ex {t : List Nod} (h : VT t) : Ex (fun n => spec_entries n t) (· = ent t) := by
  have hhi := h.hi
  unfold spec_entries
  refine Ex.be (specWalk_ex h t.length 0 h.lo (by omega)) (Ex.be (a := ent t) ?_ (Ex.ret rfl))
  have hw : nwk t t.length 0 = (walkT t).map fun (j : Nat) => (j : Int) := rfl
  have hlen := walk_len h
  rw [hw]
  refine up (walkT t).length (fun k (x : List Edt) => x = (ent t).take k) (f := fun n x j => spec_entries_L1 t ((walkT t).map fun (j : Nat) => (j : Int)) n x j) ?_ ?_ 0 [] (Nat.zero_le _) (by simp)
  · rintro k _ hk rfl next
    have e : (walkT t)[k]? = some ((walkT t).getD k 0) := by rw [List.getD_eq_getElem?_getD, List.getElem?_eq_getElem hk]; rfl
    have e2 : ((walkT t).map fun (j : Nat) => (j : Int)).getD k 0 = (((walkT t).getD k 0 : Nat) : Int) := by rw [List.getD_eq_getElem?_getD, List.getElem?_map, e]; rfl
    have h3 := (mem_walk h).1 (getD_mem (d := 0) hk)
    simp only [spec_entries_L1, Int.toNat_natCast, e2]
    refine Ex.yes (decide_eq_true (by simp; omega)) (Ex.guard (by simp; omega) (Ex.be (specPathText_ex h h3) (Ex.guard (by simp; omega) (Ex.guard (by omega) (Ex.guard (by simp; omega) ?_)))))
    rw [w64_succ (by omega)]
    refine next _ ?_
    rw [List.take_add_one, ent, List.getElem?_map, e]
    rfl
  · rintro _ rfl
    simp only [spec_entries_L1]
    refine Ex.no (decide_eq_false (by simp)) (Ex.ret ?_)
    rw [List.take_of_length_le (by rw [ent, List.length_map]; exact Nat.le_refl _)]
theorem res_np {a b : List Nod} (ha : VT a) (hb : VT b) {n : Nat} (hn : n < a.length) : res b (ptx (np a n)) = oi (loo b (np a n)) := by
  rw [res, resO_ptx (np_names ha n hn)]
end
section
open Go
set_option linter.unusedVariables false
def pD (a b : List Nod) (n : Nat) : Bool := (loo b (np a n)).isNone && (loo b (np a (pa a n).toNat)).isSome
def fD (a : List Nod) (n : Nat) : Edt := ⟨1, ptx (np a n), 0⟩
def pS (a b : List Nod) (n : Nat) : Bool := !decide (M a (np b n) = some (va b n))
def fS (b : List Nod) (n : Nat) : Edt := ⟨0, ptx (np b n), va b n⟩
theorem ebD_eq (a b : List Nod) : ebD a b = ((walkT a).filter (pD a b)).map (fD a) := rfl
theorem ebS_eq (a b : List Nod) : ebS a b = ((walkT b).filter (pS a b)).map (fS b) := rfl
theorem walk_at {t : List Nod} (h : VT t) {k : Nat} (hk : k < (walkT t).length) : (walkT t)[k]? = some ((walkT t).getD k 0) ∧ (walkT t).getD k 0 < t.length ∧ (0 < k → 0 < (walkT t).getD k 0) := by
  have e : (walkT t)[k]? = some ((walkT t).getD k 0) := by rw [List.getD_eq_getElem?_getD, List.getElem?_eq_getElem hk]; rfl
  refine ⟨e, (mem_walk h).1 (getD_mem hk), fun h0 => ?_⟩
  obtain ⟨l, hl⟩ := walk_head t (by have := h.lo; intro e; rw [e] at this; simp at this)
  have hn := walk_nodup h
  rw [hl] at hn e hk ⊢
  cases k with
  | zero => omega
  | succ k =>
    rw [List.nodup_cons] at hn
    have : (0 :: l).getD (k + 1) 0 ∈ l := by
      rw [List.getD_cons_succ]
      exact getD_mem (by simpa using hk)
    rcases Nat.eq_zero_or_pos ((0 :: l).getD (k + 1) 0) with h1 | h1
    · rw [h1] at this; exact absurd this hn.1
    · exact h1
theorem take_filter {α β : Type} (l : List α) (p : α → Bool) (f : α → β) {k : Nat} {x : α} (hk : l[k]? = some x) : ((l.take (k + 1)).filter p).map f = ((l.take k).filter p).map f ++ (if p x = true then [f x] else []) := by
  rw [List.take_add_one, hk, List.filter_append, List.map_append]
  congr 1
  simp only [Option.toList_some, List.filter_cons, List.filter_nil]
  split <;> rfl
theorem take_filter_len {α β : Type} (l : List α) (p : α → Bool) (f : α → β) (k : Nat) : (((l.take k).filter p).map f).length ≤ l.length := by
  rw [List.length_map]
  refine Nat.le_trans (List.length_filter_le _ _) ?_
  simp; omega
theorem specBetween_ex {a b : List Nod} (ha : NL a) (hb : NL b) (hla : a.length ≤ 400000000) (hlb : b.length ≤ 400000000) : Ex (fun n => spec_EditsBetween n a b) (· = eb a b) := by
  unfold spec_EditsBetween eb
  refine Ex.be (specTree_ex ha hla) ?_
  cases hva : validT a with
  | false => exact Ex.be (Ex.yes rfl (Ex.ret rfl)) (Ex.yes rfl (Ex.ret rfl))
  | true =>
    have h1 := validT_iff.1 hva
    refine Ex.be (Ex.no rfl (Ex.be (specTree_ex hb hlb) (Ex.ret rfl))) ?_
    cases hvb : validT b with
    | false => exact Ex.yes rfl (Ex.ret rfl)
    | true =>
      have h2 := validT_iff.1 hvb
      have ha12 := h1.hi
      have hb12 := h2.hi
      have wa := walk_len h1
      have wb := walk_len h2
      refine Ex.no rfl ?_
      rw [if_pos (show (true && true) = true from rfl)]
      refine Ex.be (specWalk_ex h1 a.length 0 h1.lo (by omega)) (Ex.be (a := ebD a b) ?_ (Ex.be (specEnt_ex h2) (Ex.be (a := ebD a b ++ ebS a b) ?_ (Ex.ret rfl))))
      · have hw : nwk a a.length 0 = (walkT a).map fun (j : Nat) => (j : Int) := rfl
        rw [hw]
        refine up (walkT a).length (fun k (x : List Edt) => x = (((walkT a).take k).filter (pD a b)).map (fD a)) (f := fun n x j => spec_EditsBetween_L1 a b ((walkT a).map fun (j : Nat) => (j : Int)) n x j) ?_ ?_ 1 [] (by rw [wa]; exact h1.lo) ?_
        · rintro k _ hk rfl next
          obtain ⟨e, h3, h4⟩ := walk_at h1 hk
          have e2 : ((walkT a).map fun (j : Nat) => (j : Int)).getD k 0 = (((walkT a).getD k 0 : Nat) : Int) := by rw [List.getD_eq_getElem?_getD, List.getElem?_map, e]; rfl
          have hlen := take_filter_len (walkT a) (pD a b) (fD a) k
          have := h4
          generalize hm : (walkT a).getD k 0 = m at *
          simp only [spec_EditsBetween_L1, Int.toNat_natCast, e2]
          refine Ex.yes (decide_eq_true (by simp; omega)) (Ex.guard (by simp; omega) (Ex.be (specPathText_ex h1 h3) (Ex.be (specRes_ex h2 _) ?_)))
          rw [res_np h1 h2 h3]
          have np0 : m = 0 → loo b (np a m) = some 0 := fun e0 => by rw [e0, np_zero h1]; exact (loo_iff h2).2 ⟨h2.lo, np_zero h2⟩
          refine Ex.be (a := pD a b m) ?_ ?_
          · rw [pD]
            cases hl : loo b (np a m) with
            | some q => exact Ex.no (decide_eq_false (by simp only [oi]; omega)) (Ex.ret rfl)
            | none =>
              have m0 : 0 < m := by
                rcases Nat.eq_zero_or_pos m with e0 | e0
                · rw [np0 e0] at hl; cases hl
                · exact e0
              have q := h1.par m m0 h3
              have e3 : (a.getD m dnod).parent = (((pa a m).toNat : Nat) : Int) := by rw [Int.toNat_of_nonneg q.1]; rfl
              refine Ex.yes (by simp [oi]) (Ex.guard (by omega) ?_)
              rw [e3]
              refine Ex.be (specPathText_ex h1 (by omega)) (Ex.be (specRes_ex h2 _) (Ex.ret ?_))
              rw [res_np h1 h2 (by omega)]
              cases loo b (np a (pa a m).toNat) <;> simp [oi]
          · refine Ex.be (a := (((walkT a).take (k + 1)).filter (pD a b)).map (fD a)) ?_ ?_
            · rw [take_filter _ _ _ e]
              refine Ex.ite (fun hp => ?_) (fun hp => Ex.ret ?_)
              · rw [if_pos hp]
                exact Ex.be (specPathText_ex h1 h3) (Ex.guard ⟨trivial, trivial, by simp at hlen ⊢; omega⟩ (Ex.ret rfl))
              · rw [hp]; simp
            · rw [w64_succ (by omega)]
              exact next _ rfl
        · rintro _ rfl
          simp only [spec_EditsBetween_L1]
          refine Ex.no (decide_eq_false (by simp)) (Ex.ret ?_)
          rw [ebD_eq, List.take_length]
        · obtain ⟨l, hl⟩ := walk_head a (by have := h1.lo; intro e; rw [e] at this; simp at this)
          rw [hl]
          have : pD a b 0 = false := by
            rw [pD, np_zero h1, (loo_iff h2).2 ⟨h2.lo, np_zero h2⟩]; rfl
          simp [this]
      · have hent : (ent b).length = (walkT b).length := by rw [ent, List.length_map]
        have hDl : (ebD a b).length ≤ 12 := by
          have := take_filter_len (walkT a) (pD a b) (fD a) (walkT a).length
          rw [List.take_length] at this
          rw [ebD_eq]; omega
        refine up (walkT b).length (fun k (x : List Edt) => x = ebD a b ++ (((walkT b).take k).filter (pS a b)).map (fS b)) (f := fun n x j => spec_EditsBetween_L2 a (ent b) b n x j) ?_ ?_ 0 _ (Nat.zero_le _) (by simp)
        · rintro k _ hk rfl next
          obtain ⟨e, h3, h4⟩ := walk_at h2 hk
          have e2 : (ent b).getD k dedt = fS b ((walkT b).getD k 0) := by rw [List.getD_eq_getElem?_getD, ent, List.getElem?_map, e]; rfl
          have hlen := take_filter_len (walkT b) (pS a b) (fS b) k
          generalize hm : (walkT b).getD k 0 = m at *
          simp only [spec_EditsBetween_L2, Int.toNat_natCast, e2]
          refine Ex.yes (decide_eq_true (by omega)) (Ex.guard (by omega) (Ex.be (specRes_ex h1 _) ?_))
          rw [show (fS b m).path = ptx (np b m) from rfl, res_np h2 h1 h3]
          refine Ex.be (a := pS a b m) ?_ ?_
          · rw [pS, M]
            cases hl : loo a (np b m) with
            | none => exact Ex.yes (by simp [oi]) (Ex.ret rfl)
            | some q =>
              have hq := ((loo_iff h1).1 hl).1
              refine Ex.no (decide_eq_false (by simp only [oi]; omega)) (Ex.guard (by simp only [oi]; omega) (Ex.guard (by omega) (Ex.ret ?_)))
              simp only [oi, Int.toNat_natCast, Option.map_some, Option.some.injEq]
              rfl
          · refine Ex.be (a := ebD a b ++ (((walkT b).take (k + 1)).filter (pS a b)).map (fS b)) ?_ ?_
            · rw [take_filter _ _ _ e]
              refine Ex.ite (fun hp => ?_) (fun hp => Ex.ret ?_)
              · rw [if_pos hp]
                refine Ex.guard (by omega) (Ex.guard ⟨trivial, trivial, by simp at hlen ⊢; omega⟩ (Ex.ret ?_))
                rw [← List.append_assoc]; rfl
              · rw [hp]; simp
            · rw [w64_succ (by omega)]
              exact next _ rfl
        · rintro _ rfl
          simp only [spec_EditsBetween_L2]
          refine Ex.no (decide_eq_false (by omega)) (Ex.ret ?_)
          rw [ebS_eq, List.take_length]
theorem eb_paths {a b : List Nod} : ∀ e ∈ eb a b, e.path.length ≤ 1000000000000 := by
  intro e he
  unfold eb at he
  split at he
  · rename_i hv
    simp only [Bool.and_eq_true] at hv
    have h1 := validT_iff.1 hv.1
    have h2 := validT_iff.1 hv.2
    rcases List.mem_append.1 he with h | h
    · obtain ⟨n, hn, rfl⟩ := List.mem_map.1 h
      have := ptx_len h1 ((mem_walk h1).1 (List.mem_filter.1 hn).1)
      show (ptx (np a n)).length ≤ _; omega
    · obtain ⟨n, hn, rfl⟩ := List.mem_map.1 h
      have := ptx_len h2 ((mem_walk h2).1 (List.mem_filter.1 hn).1)
      show (ptx (np b n)).length ≤ _; omega
  · cases he
theorem eb_len {a b : List Nod} : (eb a b).length ≤ 24 := by
  unfold eb
  split
  · rename_i hv
    simp only [Bool.and_eq_true] at hv
    have h1 := validT_iff.1 hv.1
    have h2 := validT_iff.1 hv.2
    have w1 := walk_len h1
    have w2 := walk_len h2
    have := h1.hi
    have := h2.hi
    have l1 := take_filter_len (walkT a) (pD a b) (fD a) (walkT a).length
    have l2 := take_filter_len (walkT b) (pS a b) (fS b) (walkT b).length
    rw [List.take_length] at l1 l2
    rw [List.length_append, ebD_eq, ebS_eq]; omega
  · simp
end
section
open Go
set_option linter.unusedVariables false
theorem eqEdits_ex {xs : List Edt} (hl : xs.length < 1000000000) : Ex (fun n => laws_equalEdits n xs xs) (· = true) := by
  unfold laws_equalEdits
  refine Ex.no (by simp) (Ex.be (skip_loop xs.length (f := laws_equalEdits_L1 xs xs) (B := .inr ()) ?_ ?_) (Ex.ret rfl))
  · intro k hk r ih
    simp only [laws_equalEdits_L1, Int.toNat_natCast]
    rw [w64_succ (by omega)]
    exact Ex.yes (decide_eq_true (by omega)) (Ex.guard (by omega) (Ex.guard (by omega) (Ex.no (by simp) ih)))
  · simp only [laws_equalEdits_L1]
    exact Ex.no (decide_eq_false (by omega)) (Ex.ret rfl)
theorem GR.set {x : List Nod} {a b : Nat} (h : GR x a b) {i : Nat} {y : Nod} (hy : y.name.length ≤ 5) : GR ((((x.drop a).take b)).set i y) 0 ((((x.drop a).take b)).set i y).length := by
  refine ⟨by have := h.len; rw [List.length_set]; exact this, fun z hz => ?_, by omega⟩
  rcases List.mem_or_eq_of_mem_set hz with h1 | rfl
  · exact h.names z h1
  · exact hy
theorem drawBetween_ex {x1 : List Int} (h : ∀ b ∈ x1, 0 ≤ b ∧ b ≤ 255) (hl : x1.length ≤ 1048576) : Ex (fun n => spec_DrawEditsBetween n x1) (fun r => GR r.1 r.2.2.1 r.2.2.2.1 ∧ GR r.2.1 r.2.2.2.2.1 r.2.2.2.2.2) := by
  unfold spec_DrawEditsBetween
  refine Ex.bind (newReader_ex h (by omega)) (fun k hk => ?_)
  refine Ex.bind (anyTree_ex hk (Int.le_refl 0) (by omega)) ?_
  rintro ⟨i, x, a, b⟩ ⟨h1, h2⟩
  simp only [List.nil_append] at h1 h2 ⊢
  have hlen := h2.len
  refine Ex.bind (pick_ex hk (by omega) (by omega) (by omega) (by omega)) (fun p hp => ?_)
  rw [w64_id (n := i + 1) (by omega) (by omega)]
  refine Ex.ite (fun _ => ?_) (fun _ => ?_)
  · refine Ex.guard ⟨trivial, trivial, by rw [List.length_nil, Nat.zero_add]; omega⟩ ?_
    refine Ex.bind (P := fun u => GR u 0 u.length) ?_ (fun u hu => Ex.ret ⟨h2, hu⟩)
    refine Ex.ite (fun hb => ?_) (fun _ => Ex.ret ⟨hlen, h2.names, by omega⟩)
    have hb := of_decide_eq_true hb
    refine Ex.bind (pick_ex hk (by omega) (by omega) (by omega) (by omega)) (fun q hq => ?_)
    rw [w64_id (n := i + 1 + 1) (by omega) (by omega)]
    refine Ex.bind (someValue_ex hk (by omega) (by omega)) ?_
    rintro ⟨j, v⟩ ⟨hj, hv⟩
    simp only at hj hv ⊢
    have hnm := h2.names (((x.drop a).take b).getD q.toNat dnod) (getD_mem (by omega))
    exact Ex.guard ⟨hq.1, hq.2⟩ (Ex.ret (h2.set (y := ⟨_, _, v⟩) hnm))
  · refine Ex.bind (anyTree_ex hk (by omega) (by omega)) ?_
    rintro ⟨j, y, c, d⟩ ⟨h3, h4⟩
    exact Ex.ret ⟨h2, h4⟩
end
section
open Go
set_option linter.unusedVariables false
theorem appAll_app : ∀ (l l' : List Edt) (t : List Nod), appAll t (l ++ l') = (appAll t l).bind fun u => appAll u l'
  | [], l', t => rfl
  | e :: l, l', t => by
    rw [List.cons_append, appAll, appAll]
    cases app1 t e with
    | none => rfl
    | some u => exact appAll_app l l' u
theorem applyR_of {t u : List Nod} {l : List Edt} (h : VT t) (hl : l.length ≤ 24) (e : appAll t l = some u) : applyR t l = (u, true) := by
  rw [applyR, if_pos (by rw [validT_iff.2 h, decide_eq_true hl]; rfl), e]
end
section
open Go
set_option linter.unusedVariables false
theorem M_up {t : List Nod} (h : VT t) {l l' : List Str} (h1 : l <+: l') (h2 : (M t l').isSome = true) : (M t l).isSome = true := by
  obtain ⟨v, hv⟩ := Option.isSome_iff_exists.1 h2
  obtain ⟨i, i1, rfl, _⟩ := (M_some h).1 hv
  obtain ⟨r, hr⟩ := h1
  obtain ⟨k, k1, k2⟩ := np_up h i i1 l r hr.symm
  rw [← k2, M_va h (by omega)]; rfl
theorem M_loo {t : List Nod} {l : List Str} : (M t l).isSome = (loo t l).isSome := by
  rw [M]; cases loo t l <;> rfl
theorem pD_iff {a b : List Nod} {n : Nat} : pD a b n = true ↔ (M b (np a n)).isSome = false ∧ (M b (np a (pa a n).toNat)).isSome = true := by
  rw [pD, Bool.and_eq_true, M_loo, M_loo]
  cases loo b (np a n) <;> simp
theorem M_root {t : List Nod} (h : VT t) : (M t []).isSome = true := by
  have := M_va h h.lo
  rw [np_zero h] at this; rw [this]; rfl
theorem pD_pos {a b : List Nod} (ha : VT a) (hb : VT b) {n : Nat} (h : pD a b n = true) : 0 < n := by
  rcases Nat.eq_zero_or_pos n with rfl | h0
  · have := (pD_iff.1 h).1
    rw [np_zero ha, M_root hb] at this; cases this
  · exact h0
/-- nothing that is dropped lies above another one -/
theorem pD_apart {a b : List Nod} (ha : VT a) (hb : VT b) {m n : Nat} (hm : m < a.length) (hn : n < a.length) (pm : pD a b m = true) (pn : pD a b n = true) (hne : m ≠ n) : ¬ np a m <+: np a n := by
  intro hp
  have n0 := pD_pos ha hb pn
  rw [np_pos ha n0 hn, List.prefix_concat_iff, ← np_pos ha n0 hn] at hp
  rcases hp with hp | hp
  · exact hne (np_inj ha m hm n hn hp)
  · have := M_up hb hp (pD_iff.1 pn).2
    rw [(pD_iff.1 pm).1] at this; cases this
theorem dropAll {a b : List Nod} (ha : VT a) (hb : VT b) : ∀ (L P : List Nat) (u : List Nod), VT u → (P ++ L).Nodup → (∀ n ∈ P ++ L, n < a.length ∧ pD a b n = true) →
    (∀ l, M u l = if (P.any fun m => decide (np a m <+: l)) = true then none else M a l) →
    ∃ w, appAll u (L.map (fD a)) = some w ∧ VT w ∧ ∀ l, M w l = if ((P ++ L).any fun m => decide (np a m <+: l)) = true then none else M a l
  | [], P, u, hu, hn, hd, hM => ⟨u, rfl, hu, by rw [List.append_nil]; exact hM⟩
  | n :: L, P, u, hu, hn, hd, hM => by
    obtain ⟨hna, hnD⟩ := hd n (by simp)
    have n0 := pD_pos ha hb hnD
    have hnot : (P.any fun m => decide (np a m <+: np a n)) = false := by
      rw [List.any_eq_false]
      intro m hm
      rw [decide_eq_true_eq]
      obtain ⟨m1, m2⟩ := hd m (by simp [hm])
      refine pD_apart ha hb m1 hna m2 hnD ?_
      rintro rfl
      rw [List.nodup_append] at hn
      exact hn.2.2 m hm m (by simp) rfl
    have hMn : M u (np a n) = some (va a n) := by
      rw [hM, if_neg (by rw [hnot]; simp), M_va ha hna]
    obtain ⟨k, k1, k2, _⟩ := (M_some hu).1 hMn
    have k0 : 0 < k := by
      rcases Nat.eq_zero_or_pos k with rfl | h0
      · rw [np_zero hu, np_pos ha n0 hna] at k2; simp at k2
      · exact h0
    have hr : resO u (ptx (np a n)) = some k := (resO_iff hu).2 ⟨k1, by rw [k2]⟩
    have hw : app1 u (fD a n) = some (dropT u k) := by
      rw [app1, fD, if_pos rfl, if_pos rfl, dropP, hr]
      exact if_pos k0
    obtain ⟨w, w1, w2, w3⟩ := dropAll ha hb L (P ++ [n]) (dropT u k) (dropT_VT hu k0) (by simpa using hn) (by simpa using hd) (fun l => by
      rw [dropT_M hu k0 k1, k2, hM, List.any_append]
      simp only [List.any_cons, List.any_nil, Bool.or_false]
      by_cases h1 : np a n <+: l
      · rw [if_pos h1, if_pos (by rw [decide_eq_true h1, Bool.or_true])]
      · rw [if_neg h1, decide_eq_false h1, Bool.or_false])
    refine ⟨w, ?_, w2, by simpa using w3⟩
    rw [List.map_cons, appAll, hw]
    exact w1
/-- the least path above that is dropped -/
theorem least_drop {a b : List Nod} (ha : VT a) (hb : VT b) : ∀ n, n < a.length → (M b (np a n)).isSome = false → ∃ m, m < a.length ∧ pD a b m = true ∧ np a m <+: np a n := by
  intro n
  induction n using Nat.strongRecOn with
  | ind n ih =>
    intro hn h
    have n0 : 0 < n := by
      rcases Nat.eq_zero_or_pos n with rfl | h0
      · rw [np_zero ha, M_root hb] at h; cases h
      · exact h0
    have p := ha.par n n0 hn
    cases hp : (M b (np a (pa a n).toNat)).isSome with
    | true => exact ⟨n, hn, pD_iff.2 ⟨h, hp⟩, List.prefix_refl _⟩
    | false =>
      obtain ⟨m, m1, m2, m3⟩ := ih _ p.2 (by omega) hp
      refine ⟨m, m1, m2, m3.trans ?_⟩
      rw [np_pos ha n0 hn]; exact List.prefix_append _ _
theorem ebD_apply {a b : List Nod} (ha : VT a) (hb : VT b) : ∃ u, appAll a (ebD a b) = some u ∧ VT u ∧ ∀ l, M u l = if (M b l).isSome = true then M a l else none := by
  obtain ⟨u, u1, u2, u3⟩ := dropAll ha hb ((walkT a).filter (pD a b)) [] a ha (List.Nodup.sublist List.filter_sublist (walk_nodup ha)) (fun n hn => by
    have := List.mem_filter.1 hn
    exact ⟨(mem_walk ha).1 this.1, this.2⟩) (fun l => by simp)
  refine ⟨u, u1, u2, fun l => ?_⟩
  rw [u3, List.nil_append]
  cases hA : M a l with
  | none => split <;> split <;> rfl
  | some v =>
    obtain ⟨n, n1, rfl, n3⟩ := (M_some ha).1 hA
    cases hB : (M b (np a n)).isSome with
    | false =>
      rw [if_pos, if_neg (by simp)]
      obtain ⟨m, m1, m2, m3⟩ := least_drop ha hb n n1 hB
      rw [List.any_eq_true]
      exact ⟨m, List.mem_filter.2 ⟨(mem_walk ha).2 m1, m2⟩, decide_eq_true m3⟩
    | true =>
      rw [if_neg, if_pos rfl]
      rw [Bool.not_eq_true, List.any_eq_false]
      intro m hm
      rw [decide_eq_true_eq]
      intro hp
      have := M_up hb hp hB
      rw [(pD_iff.1 (List.mem_filter.1 hm).2).1] at this; cases this
theorem setAll {a b : List Nod} (ha : VT a) (hb : VT b) : ∀ (L P : List Nat) (u : List Nod), VT u → P ++ L = walkT b →
    (∀ l, M u l = if l ∈ P.map (np b) then M b l else if (M b l).isSome = true then M a l else none) →
    ∃ w, appAll u ((L.filter (pS a b)).map (fS b)) = some w ∧ VT w ∧ ∀ l, M w l = M b l
  | [], P, u, hu, hP, hM => by
    refine ⟨u, rfl, hu, fun l => ?_⟩
    rw [List.append_nil] at hP
    rw [hM, hP]
    split
    · rfl
    · rename_i hl
      cases hB : M b l with
      | none => rfl
      | some v =>
        obtain ⟨n, n1, n2, _⟩ := (M_some hb).1 hB
        exact absurd (List.mem_map.2 ⟨n, (mem_walk hb).2 n1, n2⟩) hl
  | n :: L, P, u, hu, hP, hM => by
    have hn : n < b.length := (mem_walk hb).1 (by rw [← hP]; simp)
    have hnd := walk_nodup hb
    rw [← hP, List.nodup_append] at hnd
    have hnP : np b n ∉ P.map (np b) := by
      intro h
      obtain ⟨m, m1, m2⟩ := List.mem_map.1 h
      have hm : m < b.length := (mem_walk hb).1 (by rw [← hP]; simp [m1])
      have := np_inj hb m hm n hn m2
      exact hnd.2.2 m m1 n (by simp) this
    have hBn := M_va hb hn
    have hMn : M u (np b n) = M a (np b n) := by rw [hM, if_neg hnP, hBn]; rfl
    have step : ∀ w, VT w → (∀ l, M w l = if l = np b n then some (va b n) else M u l) → ∃ w', appAll w ((L.filter (pS a b)).map (fS b)) = some w' ∧ VT w' ∧ ∀ l, M w' l = M b l := by
      intro w hw hMw
      refine setAll ha hb L (P ++ [n]) w hw (by simpa using hP) (fun l => ?_)
      rw [hMw]
      by_cases h1 : l = np b n
      · rw [if_pos h1, if_pos (by rw [h1]; simp), h1, hBn]
      · rw [if_neg h1, hM]
        have : (l ∈ (P ++ [n]).map (np b)) ↔ l ∈ P.map (np b) := by
          rw [List.map_append, List.mem_append]
          simp [h1]
        by_cases h2 : l ∈ P.map (np b)
        · rw [if_pos h2, if_pos (this.2 h2)]
        · rw [if_neg h2, if_neg (fun h => h2 (this.1 h))]
    rw [List.filter_cons]
    cases hS : pS a b n with
    | false =>
      rw [if_neg (by simp)]
      refine step u hu (fun l => ?_)
      split
      · rename_i h1
        rw [h1, hMn]
        simpa [pS] using hS
      · rfl
    | true =>
      rw [if_pos rfl, List.map_cons, appAll]
      have hval := hb.val n hn
      have hrv : rv (va b n) = true := rv_iff.2 hval
      cases hr : resO u (ptx (np b n)) with
      | some k =>
        obtain ⟨k1, k2⟩ := (resO_iff hu).1 hr
        have k3 : np u k = np b n := ptx_inj (np_names hu k k1) (np_names hb n hn) k2
        have e : app1 u (fS b n) = some (setT u k (va b n)) := by
          rw [app1, fS, if_neg (show ¬ (0 : Int) = 1 by decide), if_pos rfl]
          simp only [hr, hrv, if_true]
        rw [e]
        exact step _ (setT_VT hu k1 hval) (fun l => by rw [setT_M hu k1 hval, k3])
      | none =>
        have hnone : M u (np b n) = none := by
          rw [M_none, ← hr, resO_ptx (np_names hb n hn)]
        have n0 : 0 < n := by
          rcases Nat.eq_zero_or_pos n with rfl | h0
          · have := M_root hu
            rw [np_zero hb] at hnone
            rw [hnone] at this; cases this
          · exact h0
        have p := hb.par n n0 hn
        have hq : (pa b n).toNat < b.length := by omega
        have enp := np_pos hb n0 hn
        have hqP : (pa b n).toNat ∈ P := by
          have h1 : (pa b n).toNat ∈ P ++ n :: L := by rw [hP]; exact (mem_walk hb).2 hq
          rcases List.mem_append.1 h1 with h1 | h1
          · exact h1
          · exfalso
            have hso := walk_sorted hb
            rw [← hP, List.pairwise_append] at hso
            have hlt : np b (pa b n).toNat < np b n := by rw [enp]; exact lt_prefix _ (by simp)
            rcases List.mem_cons.1 h1 with h2 | h2
            · omega
            · have := (List.pairwise_cons.1 hso.2.1).1 _ h2
              exact List.lt_irrefl _ (List.lt_trans hlt this)
        have hMq : M u (np b (pa b n).toNat) = some (va b (pa b n).toNat) := by
          rw [hM, if_pos (List.mem_map.2 ⟨_, hqP, rfl⟩), M_va hb hq]
        obtain ⟨k, k1, k2, _⟩ := (M_some hu).1 hMq
        have hroom : u.length < 12 := by
          have hnn : (np b n :: (List.range u.length).map (np u)).Nodup := by
            refine List.nodup_cons.2 ⟨fun hm => ?_, np_nodup hu⟩
            obtain ⟨i, hi, e3⟩ := List.mem_map.1 hm
            have := M_va hu (show i < u.length by simpa using hi)
            rw [e3, hnone] at this; cases this
          have := len_sub hnn (l' := (List.range b.length).map (np b)) (fun x hx => by
            rcases List.mem_cons.1 hx with rfl | hx
            · exact List.mem_map.2 ⟨n, by simpa using hn, rfl⟩
            · obtain ⟨i, hi, rfl⟩ := List.mem_map.1 hx
              have h1 := M_va hu (show i < u.length by simpa using hi)
              rw [hM] at h1
              have h2 : ∃ v, M b (np u i) = some v := by
                split at h1
                · exact ⟨_, h1⟩
                · split at h1
                  · rename_i h3; exact Option.isSome_iff_exists.1 h3
                  · cases h1
              obtain ⟨v, hv⟩ := h2
              obtain ⟨j, j1, j2, _⟩ := (M_some hb).1 hv
              exact List.mem_map.2 ⟨j, by simpa using j1, j2⟩)
          have := hb.hi
          simp at *
          omega
        have f : Fits u ⟨(k : Int), nmo b n, va b n⟩ := by
          refine ⟨hroom, hval, by simp, by simpa using k1, hb.nam n n0 hn, ?_, ?_⟩
          · simp only [Int.toNat_natCast]
            rw [k2, ← enp]
            exact M_none.1 hnone
          · simp only [Int.toNat_natCast]
            have := hb.dep n hn
            rw [← np_len, enp] at this
            rw [k2]
            simpa using this
        have e : app1 u (fS b n) = some (u ++ [⟨(k : Int), nmo b n, va b n⟩]) := by
          rw [app1, fS, if_neg (show ¬ (0 : Int) = 1 by decide), if_pos rfl]
          simp only [hr]
          exact (addP_iff hu).2 ⟨k, nmo b n, rfl, f, by rw [k2, ← enp]⟩
        rw [e]
        refine step _ ((fits_iff hu).2 f) (fun l => ?_)
        rw [app_M hu f]
        simp only [Int.toNat_natCast, k2, ← enp]
/-- the edits between two trees make the second one of the first one -/
theorem eb_apply {a b : List Nod} (ha : VT a) (hb : VT b) : ∃ w, applyR a (eb a b) = (w, true) ∧ VT w ∧ ∀ l, M w l = M b l := by
  obtain ⟨u, u1, u2, u3⟩ := ebD_apply ha hb
  obtain ⟨w, w1, w2, w3⟩ := setAll ha hb (walkT b) [] u u2 rfl (fun l => by rw [u3]; simp)
  have hlen := eb_len (a := a) (b := b)
  refine ⟨w, applyR_of ha hlen ?_, w2, w3⟩
  rw [eb, if_pos (by rw [validT_iff.2 ha, validT_iff.2 hb]; rfl), appAll_app, u1]
  exact w1
end
section
open Go
set_option linter.unusedVariables false
theorem reaches_loop {t : List Nod} (h : VT t) (k : Nat) : ∀ j, j < t.length → Ex (fun n => impl_reaches_L1 t (k : Int) n (j : Int)) (fun r => decide (r = (k : Int)) = decide (k ∈ ix t j)) := by
  intro j
  induction j using Nat.strongRecOn with
  | ind j ih =>
    intro hj
    refine Ex.succ ?_
    simp only [impl_reaches_L1, Int.toNat_natCast]
    rcases Nat.lt_or_ge k j with hkj | hkj
    · have p := h.par j (by omega) hj
      have e : (t.getD j dnod).parent = (((pa t j).toNat : Nat) : Int) := by rw [Int.toNat_of_nonneg p.1]; rfl
      refine Ex.yes (decide_eq_true (by omega)) (Ex.guard (by omega) ?_)
      rw [e]
      refine Ex.mono (ih _ p.2 (by omega)) (fun r hr => ?_)
      rw [hr, ix_pos h (by omega) hj, Bool.eq_iff_iff, decide_eq_true_eq, decide_eq_true_eq, List.mem_append, List.mem_singleton]
      constructor
      · exact .inl
      · rintro (h1 | h1)
        · exact h1
        · omega
    · refine Ex.no (decide_eq_false (by omega)) (Ex.ret ?_)
      rw [Bool.eq_iff_iff, decide_eq_true_eq, decide_eq_true_eq]
      constructor
      · intro e
        have : j = k := by omega
        rw [this]; exact ix_self t k
      · intro e
        have := ix_le t j k e; omega
theorem implReaches_ex {t : List Nod} (h : VT t) (k : Nat) {j : Nat} (hj : j < t.length) : Ex (fun n => impl_reaches n t (k : Int) (j : Int)) (· = !kept t k j) := by
  unfold impl_reaches
  refine Ex.bind (reaches_loop h k j hj) (fun r hr => Ex.ret ?_)
  rw [hr, kept, Bool.not_not]
theorem implDropLoop_ex {t : List Nod} (h : VT t) {k : Nat} (hk0 : 0 < k) : Ex (fun n => impl_DropNode_L1 t (k : Int) n (List.replicate t.length (0 : Int)) [] 0) (· = dropT t k) := by
  have hhi := h.hi
  refine up t.length (fun i (s : List Int × List Nod) => s.2 = ((List.range i).filter (kept t k)).map (moved t k) ∧ s.1.length = t.length ∧ ∀ j, j < i → kept t k j = true → s.1.getD j 0 = (cnt t k j : Int)) (f := fun n s i => impl_DropNode_L1 t k n s.1 s.2 i) ?_ ?_ 0 (_, []) (Nat.zero_le _) ⟨rfl, by simp, fun j hj => by omega⟩
  · rintro i ⟨p, o⟩ hi ⟨h1, h2, h3⟩ next
    simp only at h1 h2 h3
    subst h1
    have hc := cnt_le t k i
    have hl := pre_len t k i
    simp only [impl_DropNode_L1, Int.toNat_natCast]
    refine Ex.yes (decide_eq_true (by omega)) ?_
    rw [w64_succ (by omega)]
    have er : (List.range (i + 1)).filter (kept t k) = (List.range i).filter (kept t k) ++ (if kept t k i = true then [i] else []) := by
      rw [List.range_succ, List.filter_append, List.filter_cons]; rfl
    cases hki : kept t k i with
    | false =>
      refine Ex.be (a := (p, ((List.range i).filter (kept t k)).map (moved t k))) (Ex.guard (by omega) (Ex.be (implReaches_ex h k hi) (Ex.yes (by rw [hki]; rfl) (Ex.ret rfl)))) ?_
      refine next (p, _) ⟨?_, h2, fun j hj hkj => ?_⟩
      · rw [er, hki]; simp
      · rcases Nat.eq_or_lt_of_le (Nat.le_of_lt_succ hj) with rfl | h6
        · rw [hki] at hkj; cases hkj
        · exact h3 j h6 hkj
    | true =>
      refine Ex.be (a := (p.set i (cnt t k i : Int), ((List.range i).filter (kept t k)).map (moved t k) ++ [moved t k i])) (Ex.guard (by omega) (Ex.be (implReaches_ex h k hi) (Ex.no (by rw [hki]; rfl) (Ex.guard (by omega) (Ex.be (a := (moved t k i).parent) ?_ (Ex.guard ⟨trivial, trivial, by rw [hl]; simp; omega⟩ (Ex.ret ?_))))))) ?_
      · refine Ex.ite (fun hb => ?_) (fun hb => ?_)
        · have h0 : 0 < i := by have := of_decide_eq_true hb; omega
          have q := h.par i h0 hi
          have q2 : 0 ≤ (t.getD i dnod).parent ∧ (t.getD i dnod).parent < ((p.set i ((((List.range i).filter (kept t k)).map (moved t k)).length : Int)).length : Int) := by
            rw [List.length_set]
            have := q.1; have := q.2; simp only [pa] at *; omega
          refine Ex.guard q2 (Ex.ret ?_)
          rw [moved, if_pos h0, getD_set' (by omega), if_neg (by have := q.2; simp only [pa] at this; omega)]
          exact h3 _ q.2 (kept_up h h0 hi hki)
        · have h0 : ¬ 0 < i := by have := of_decide_eq_false hb; omega
          refine Ex.ret ?_
          rw [moved, if_neg h0]; rfl
      · simp only [hl]; rfl
      · refine next (_, _) ⟨?_, by simpa using h2, fun j hj hkj => ?_⟩
        · rw [er, hki, if_pos rfl, List.map_append]; rfl
        · simp only
          rw [getD_set' (by omega)]
          split
          · rename_i e; rw [e]
          · exact h3 j (by omega) hkj
  · rintro ⟨o, p⟩ ⟨h1, _, _⟩
    simp only at h1
    subst h1
    simp only [impl_DropNode_L1]
    exact Ex.no (decide_eq_false (by omega)) (Ex.ret rfl)
theorem implDrop_ex {t : List Nod} (h : VT t) (s : Str) : Ex (fun n => impl_DropNode n t (res t s)) (· = pairO (dropP t s)) := by
  have hhi := h.hi
  unfold impl_DropNode
  refine Ex.be (implNode_ex (by omega) _) ?_
  rw [validT_iff.2 h, Bool.and_true, dropP, res]
  cases e : resO t s with
  | none => exact Ex.yes (by simp [oi]) (Ex.ret rfl)
  | some k =>
    have hk := ((resO_iff h).1 e).1
    have ho : oi (some k) = (k : Int) := rfl
    rw [decide_eq_true (p := 0 ≤ oi (some k) ∧ _) (by omega)]
    show Ex _ (· = pairO (if 0 < k then some (dropT t k) else none))
    by_cases h0 : 0 < k
    · rw [if_pos h0]
      refine Ex.no (by rw [decide_eq_false (by omega)]; rfl) (Ex.guard ⟨rfl, by omega, by omega⟩ ?_)
      rw [Int.toNat_natCast]
      exact Ex.be (implDropLoop_ex h h0) (Ex.ret rfl)
    · rw [if_neg h0]
      exact Ex.yes (by rw [decide_eq_true (by omega)]; rfl) (Ex.ret rfl)
theorem clone_nod {t : List Nod} (h : t.length ≤ 1000000000000) : slices_Clone_Node t = some t := by
  unfold slices_Clone_Node
  rw [guardO_pos (by omega)]
theorem implSet_ex {t : List Nod} (h : VT t) {k : Nat} (hk : k < t.length) (v : Int) : Ex (fun n => impl_SetValue n t (k : Int) v) (· = pairO (if rv v = true then some (setT t k v) else none)) := by
  have hhi := h.hi
  unfold impl_SetValue
  refine Ex.be (implNode_ex (by omega) _) ?_
  rw [validT_iff.2 h, decide_eq_true (by omega), show impl_within v (-1000) 1000 = rv v from rfl]
  refine Ex.ite (fun hb => Ex.ret ?_) (fun hb => ?_)
  · rw [if_neg (by rw [show rv v = false from notT hb]; simp)]; rfl
  · rw [if_pos (show rv v = true from notF hb)]
    exact Ex.bc (clone_nod (by omega)) (Ex.guard (by omega) (Ex.ret rfl))
theorem implAdd_ex {t : List Nod} (h : VT t) (x : Nod) : Ex (fun n => impl_AddNode n t x.parent x.name x.value) (· = addT t x) := by
  have hhi := h.hi
  unfold impl_AddNode
  refine Ex.be (implTree_ex t) ?_
  rw [validT_iff.2 h, addT_fits h]
  refine Ex.no rfl (Ex.bc (clone_nod (by omega)) (Ex.guard ⟨rfl, rfl, by simp; omega⟩ ?_))
  rw [show (([(⟨x.parent, x.name, x.value⟩ : Nod)].drop 0).take [(⟨x.parent, x.name, x.value⟩ : Nod)].length) = [x] from rfl]
  refine Ex.be (implTree_ex _) (Ex.ite (fun hb => Ex.ret ?_) (fun hb => Ex.ret ?_))
  · rw [if_neg (by rw [notT hb]; simp)]
  · rw [if_pos (notF hb)]
theorem lastIdx_some {a b : Str} (hb : (47 : UInt8) ∉ b) (hl : (a ++ 47 :: b).length ≤ 1000000000000) : Ex (fun n => strings_LastIndexByte n (a ++ 47 :: b) 47) (· = (a.length : Int)) := by
  have hlen : (a ++ 47 :: b).length = a.length + 1 + b.length := by simp; omega
  have hat : ∀ j, j < b.length → (a ++ 47 :: b).getD (a.length + 1 + j) 0 ≠ 47 := by
    intro j hj e
    rw [show a.length + 1 + j = a.length + (1 + j) by omega, getD_app, show 1 + j = j + 1 by omega, List.getD_cons_succ] at e
    exact hb (e ▸ getD_mem hj)
  have h0 : (a ++ 47 :: b).getD a.length 0 = 47 := by
    have := getD_app (a := a) (b := 47 :: b) (d := (0 : UInt8)) 0
    rw [Nat.add_zero] at this; rw [this]; rfl
  have key : ∀ m, m ≤ b.length → Ex (fun n => bytealg_LastIndexByteString_L1 (a ++ 47 :: b) 47 n ((a.length + m : Nat) : Int)) (· = .inl (a.length : Int)) := by
    intro m
    induction m with
    | zero =>
      intro _
      rw [Nat.add_zero]
      refine Ex.succ ?_
      simp only [bytealg_LastIndexByteString_L1, Int.toNat_natCast]
      exact Ex.yes (decide_eq_true (by omega)) (Ex.guard (by omega) (Ex.yes (decide_eq_true (by rw [h0]; rfl)) (Ex.ret rfl)))
    | succ m ih =>
      intro hm
      refine Ex.succ ?_
      simp only [bytealg_LastIndexByteString_L1, Int.toNat_natCast]
      have h1 := hat m (by omega)
      rw [show a.length + 1 + m = a.length + (m + 1) by omega] at h1
      refine Ex.yes (decide_eq_true (by omega)) (Ex.guard (by omega) (Ex.no (decide_eq_false (fun e => h1 ?_)) ?_))
      · apply UInt8.toNat_inj.1
        rw [show (47 : UInt8).toNat = 47 from rfl]
        omega
      · have e : w64 (((a.length + (m + 1) : Nat) : Int) - 1) = ((a.length + m : Nat) : Int) := by rw [w64_id (by omega) (by omega)]; omega
        rw [e]
        exact ih (by omega)
  unfold strings_LastIndexByte bytealg_LastIndexByteString
  have e : w64 (((a ++ 47 :: b).length : Int) - 1) = ((a.length + b.length : Nat) : Int) := by rw [w64_id (by omega) (by omega)]; omega
  rw [e]
  exact Ex.be (Ex.be (key b.length (Nat.le_refl _)) (Ex.ret rfl)) (Ex.ret rfl)
theorem lastIdx_none {s : Str} (h : (47 : UInt8) ∉ s) (hl : s.length ≤ 1000000000000) : Ex (fun n => strings_LastIndexByte n s 47) (· = -1) := by
  have key : ∀ m : Nat, m ≤ s.length → Ex (fun n => bytealg_LastIndexByteString_L1 s 47 n ((m : Int) - 1)) (· = .inr ()) := by
    intro m
    induction m with
    | zero => intro _; refine Ex.succ ?_; simp only [bytealg_LastIndexByteString_L1]; exact Ex.no (by decide) (Ex.ret rfl)
    | succ m ih =>
      intro hm
      rw [show ((m + 1 : Nat) : Int) - 1 = (m : Int) by omega]
      refine Ex.succ ?_
      simp only [bytealg_LastIndexByteString_L1, Int.toNat_natCast]
      have h1 : s.getD m 0 ≠ 47 := fun e => h (e ▸ getD_mem hm)
      refine Ex.yes (decide_eq_true (by omega)) (Ex.guard (by omega) (Ex.no (decide_eq_false (fun e => h1 ?_)) ?_))
      · apply UInt8.toNat_inj.1
        rw [show (47 : UInt8).toNat = 47 from rfl]
        omega
      · rw [w64_id (by omega) (by omega)]
        exact ih (by omega)
  unfold strings_LastIndexByte bytealg_LastIndexByteString
  rw [w64_id (by omega) (by omega)]
  exact Ex.be (Ex.be (key s.length (Nat.le_refl _)) (Ex.ret rfl)) (Ex.ret rfl)
/-- the further node has the path -/
theorem last_path {t : List Nod} {x : Nod} (h : VT t) (h' : VT (t ++ [x])) {s : Str} (hn : resO t s = none) : 0 ≤ res (t ++ [x]) s ↔ pathT (t ++ [x]) (t.length : Int) = s := by
  have f := (fits_iff h).1 h'
  rw [pathT_of h' (by simp)]
  rw [res]
  cases e : resO (t ++ [x]) s with
  | none =>
    simp only [oi]
    constructor
    · intro h1; omega
    · intro e2; exact absurd e2 ((resO_none h').1 e t.length (by simp))
  | some k =>
    obtain ⟨k1, k2⟩ := (resO_iff h').1 e
    have hk : k = t.length := by
      rcases Nat.lt_or_ge k t.length with h3 | h3
      · rw [app_np h3] at k2
        rw [(resO_iff h).2 ⟨h3, k2⟩] at hn; cases hn
      · simp at k1; omega
    subst hk
    simp only [oi]
    exact ⟨fun _ => k2, fun _ => by omega⟩
theorem implAddPath_ex {t : List Nod} (h : VT t) {s : Str} (hs : s.length ≤ 1000000000000) (hn : resO t s = none) (v : Int) : Ex (fun n => impl_addPath n t s v) (· = pairO (addP t s v)) := by
  have hhi := h.hi
  unfold impl_addPath
  have fin : ∀ (x : Nod), Ex (fun n => bindO (impl_AddNode n t x.parent x.name x.value) fun (x31, i32, b33) => bindO (iteO (!b33) (some true) (bindO (impl_PathText n x31 i32) fun s41 => some (!decide (s41 = s)))) fun b38 => iteO b38 (some (([] : List Nod), false)) (some (x31, true))) (· = pairO (if validT (t ++ [x]) = true ∧ 0 ≤ res (t ++ [x]) s then some (t ++ [x]) else none)) := by
    intro x
    refine Ex.be (implAdd_ex h x) ?_
    rw [addT_fits h]
    by_cases hv : validT (t ++ [x]) = true
    · rw [if_pos hv]
      have h' := validT_iff.1 hv
      refine Ex.be (a := !decide (pathT (t ++ [x]) (t.length : Int) = s)) (Ex.no rfl (Ex.be (implPathText_ex (by have := h'.hi; omega) _) (Ex.ret rfl))) ?_
      refine Ex.ite (fun hb => Ex.ret ?_) (fun hb => Ex.ret ?_)
      · rw [if_neg (fun h2 => by have := (last_path h h' hn).1 h2.2; rw [decide_eq_true this] at hb; cases hb)]; rfl
      · rw [if_pos ⟨hv, (last_path h h' hn).2 (by simpa using hb)⟩]; rfl
    · rw [if_neg hv, if_neg (fun h => hv h.1)]
      exact Ex.be (a := true) (Ex.yes rfl (Ex.ret rfl)) (Ex.yes rfl (Ex.ret rfl))
  rcases last_at 47 s with h1 | ⟨a, b, rfl, h2⟩
  · have e1 : addP t s v = none := by rw [addP, pth_nohead h1]
    rw [e1]
    have hu : Ex (fun n => impl_upperNode n t s) (· = -1) := by
      unfold impl_upperNode
      exact Ex.be (lastIdx_none h1 hs) (Ex.yes (by decide) (Ex.ret rfl))
    refine Ex.be hu (Ex.be (lastIdx_none h1 hs) ?_)
    have e2 : w64 (-1 + 1) = 0 := by decide
    rw [e2]
    refine Ex.guard (by omega) ?_
    refine Ex.mono (fin ⟨-1, s.drop (0 : Int).toNat, v⟩) (fun r hr => ?_)
    rw [hr, if_neg]
    rintro ⟨h3, _⟩
    have := ((fits_iff h).1 (validT_iff.1 h3)).p0
    simp at this
  · have hu : Ex (fun n => impl_upperNode n t (a ++ 47 :: b)) (· = if a = [] then 0 else res t a) := by
      unfold impl_upperNode
      refine Ex.be (lastIdx_some h2 hs) (Ex.no (decide_eq_false (by omega)) ?_)
      by_cases ha : a = []
      · rw [if_pos ha]; exact Ex.yes (by rw [ha]; rfl) (Ex.ret rfl)
      · rw [if_neg ha]
        have : 0 < a.length := List.length_pos_iff.2 ha
        simp only [List.length_append, List.length_cons] at hs
        refine Ex.no (decide_eq_false (by omega)) (Ex.guard (by simp; omega) ?_)
        rw [Int.toNat_natCast, List.take_left' rfl]
        have e := implRes_ex (t := t) (s := a) (by omega)
        rw [if_pos (validT_iff.2 h)] at e
        exact Ex.be e (Ex.ret rfl)
    refine Ex.be hu (Ex.be (lastIdx_some h2 hs) ?_)
    have hlen : (a ++ 47 :: b).length = a.length + 1 + b.length := by simp; omega
    rw [w64_succ (by omega)]
    refine Ex.guard (by omega) ?_
    have ed : (a ++ 47 :: b).drop ((a.length + 1 : Nat) : Int).toNat = b := by
      rw [Int.toNat_natCast]
      have e : a ++ 47 :: b = (a ++ [47]) ++ b := by simp
      rw [e]; exact List.drop_left' (by simp)
    rw [ed, addP_up h h2 hn]
    exact fin ⟨if a = [] then 0 else res t a, b, v⟩
theorem implApply_ex {t : List Nod} (h : VT t) {e : Edt} (hp : e.path.length ≤ 1000000000000) : Ex (fun n => impl_applyEdit n t e) (· = pairO (app1 t e)) := by
  have hhi := h.hi
  unfold impl_applyEdit
  have er := implRes_ex (t := t) (s := e.path) hp
  rw [if_pos (validT_iff.2 h)] at er
  refine Ex.be er ?_
  rw [app1]
  by_cases hk1 : e.kind = 1
  · rw [if_pos hk1]
    refine Ex.yes (decide_eq_true hk1) ?_
    by_cases hv : e.value = 0
    · rw [if_pos hv]
      exact Ex.no (by rw [decide_eq_true hv]; rfl) (Ex.be (implDrop_ex h e.path) (Ex.ret rfl))
    · rw [if_neg hv]
      exact Ex.yes (by rw [decide_eq_false hv]; rfl) (Ex.ret rfl)
  · rw [if_neg hk1]
    refine Ex.no (decide_eq_false hk1) ?_
    by_cases hk0 : e.kind = 0
    · rw [if_pos hk0]
      refine Ex.yes (decide_eq_true hk0) ?_
      cases hr : resO t e.path with
      | some k =>
        have hk := ((resO_iff h).1 hr).1
        rw [res, hr]
        simp only [oi]
        exact Ex.yes (decide_eq_true (by omega)) (Ex.be (implSet_ex h hk e.value) (Ex.ret rfl))
      | none =>
        rw [res, hr]
        simp only [oi]
        exact Ex.no (by decide) (Ex.be (implAddPath_ex h hp hr e.value) (Ex.ret rfl))
    · rw [if_neg hk0]
      exact Ex.no (decide_eq_false hk0) (Ex.ret rfl)
theorem implApplyAll_ex {t : List Nod} {l : List Edt} (hp : ∀ e ∈ l, e.path.length ≤ 1000000000000) : Ex (fun n => impl_ApplyEdits n t l) (· = applyR t l) := by
  unfold impl_ApplyEdits
  refine Ex.be (implTree_ex t) ?_
  rw [applyR]
  cases hv : validT t with
  | false => exact Ex.yes rfl (Ex.ret rfl)
  | true =>
    have h := validT_iff.1 hv
    have hhi := h.hi
    by_cases h24 : l.length ≤ 24
    · rw [decide_eq_true h24]
      refine Ex.no (by rw [decide_eq_false (by omega)]; rfl) ?_
      rw [if_pos (show (true && true) = true from rfl)]
      have loop : ∀ (L : List Edt) (k : Nat) (u : List Nod), VT u → l.drop k = L → k ≤ l.length → Ex (fun n => impl_ApplyEdits_L1 l t n u (k : Int)) (· = match appAll u L with
          | some w => .inr w
          | none => .inl ()) := by
        intro L
        induction L with
        | nil =>
          intro k u hu h1 h2
          have h3 := List.drop_eq_nil_iff.1 h1
          refine Ex.succ ?_
          simp only [impl_ApplyEdits_L1]
          exact Ex.no (decide_eq_false (by omega)) (Ex.ret rfl)
        | cons e L ih =>
          intro k u hu h1 h2
          have hk : k < l.length := by
            rcases Nat.lt_or_ge k l.length with h3 | h3
            · exact h3
            · rw [List.drop_eq_nil_of_le h3] at h1; cases h1
          rw [drop_at dedt hk, List.cons.injEq] at h1
          refine Ex.succ ?_
          simp only [impl_ApplyEdits_L1, Int.toNat_natCast, h1.1]
          refine Ex.yes (decide_eq_true (by omega)) (Ex.guard (by omega) (Ex.be (implApply_ex hu (hp e (by rw [← h1.1]; exact getD_mem hk))) ?_))
          rw [appAll]
          cases ha : app1 u e with
          | none => exact Ex.yes rfl (Ex.ret rfl)
          | some w =>
            refine Ex.no rfl ?_
            rw [w64_succ (by omega)]
            exact ih (k + 1) w (app1_VT hu ha) h1.2 (by omega)
      refine Ex.bc (clone_nod (by omega)) (Ex.be (loop l 0 t h rfl (Nat.zero_le _)) ?_)
      cases ha : appAll t l with
      | none => exact Ex.ret rfl
      | some u => exact Ex.ret rfl
    · rw [decide_eq_false h24]
      exact Ex.yes (by rw [decide_eq_true (by omega)]; rfl) (Ex.ret rfl)
end
section
open Go
set_option linter.unusedVariables false
theorem cmp_lt : ∀ (a b : Str), (Lib.compareBytes a b < 0) ↔ a < b
  | [], [] => by
    rw [Lib.compareBytes]
    exact ⟨fun h => by omega, fun h => absurd h (List.lt_irrefl _)⟩
  | [], b :: y => by
    rw [Lib.compareBytes]
    exact ⟨fun _ => List.nil_lt_cons b y, fun _ => by omega⟩
  | a :: x, [] => by
    rw [Lib.compareBytes]
    exact ⟨fun h => by omega, fun h => absurd h (List.not_lt_nil _)⟩
  | a :: x, b :: y => by
    rw [Lib.compareBytes, List.cons_lt_cons_iff]
    split
    · rename_i h; exact ⟨fun _ => .inl h, fun _ => by omega⟩
    · rename_i h
      split
      · rename_i h2
        refine ⟨fun h => by omega, ?_⟩
        rintro (h3 | ⟨rfl, _⟩)
        · exact absurd h3 h
        · exact absurd h2 h
      · rename_i h2
        rw [cmp_lt x y]
        have e : a = b := by
          apply UInt8.toNat_inj.1
          rw [UInt8.lt_iff_toNat_lt] at h h2
          omega
        exact ⟨fun h3 => .inr ⟨e, h3⟩, fun h3 => by
          rcases h3 with h3 | h3
          · exact absurd h3 h
          · exact h3.2⟩
theorem cmp_ex {t : List Nod} {x y : Int} (hx : InT t x) (hy : InT t y) : ∃ c, impl_walkFrom_1 x y t t.length = some c ∧ decide (c < 0) = decide (ky t x < ky t y) := by
  unfold impl_walkFrom_1
  rw [guardO_pos (show 0 ≤ x ∧ x < (t.length : Int) from hx), guardO_pos (show 0 ≤ y ∧ y < (t.length : Int) from hy)]
  refine ⟨_, rfl, ?_⟩
  rw [strings_Compare, bytealg_CompareString, Bool.eq_iff_iff, decide_eq_true_eq, decide_eq_true_eq, cmp_lt]; rfl
theorem implIns_ex {t : List Nod} {a : Int} {v : Int} (hv : InT t v) : ∀ (R S : List Int) (b : Int), (∀ x ∈ R, InT t x) → R.length + S.length ≤ 1000000 →
    Ex (fun n => slices_insertionSortCmpFunc_int_impl_walkFrom_1_L2 (R.length + S.length + 1) 0 a b t.length t n (R.reverse ++ v :: S) (R.length : Int)) (· = (insR (ky t) v R).reverse ++ S)
  | [], S, b, _, hl => by
    refine Ex.succ ?_
    simp only [slices_insertionSortCmpFunc_int_impl_walkFrom_1_L2]
    refine Ex.be (a := false) (Ex.no (by simp) (Ex.ret rfl)) (Ex.no rfl (Ex.ret ?_))
    simp [insR]
  | p :: R, S, b, hR, hl => by
    refine Ex.succ ?_
    simp only [List.length_cons] at hl
    have hp := hR p (by simp)
    have e1 : w64 (((p :: R).length : Int) - 1) = ((R.length : Nat) : Int) := by rw [w64_id (by simp <;> omega) (by simp; omega)]; simp
    simp only [slices_insertionSortCmpFunc_int_impl_walkFrom_1_L2, e1, Int.toNat_natCast]
    have g1 : ((p :: R).reverse ++ v :: S).getD (p :: R).length 0 = v := rev_at
    have g2 : ((p :: R).reverse ++ v :: S).getD R.length 0 = p := rev_at1
    rw [g1, g2]
    have hP : (((p :: R).length : Nat) : Int) = R.length + 1 := by simp
    obtain ⟨c, hc1, hc2⟩ := cmp_ex hv hp
    refine Ex.be (a := decide (ky t v < ky t p)) (Ex.yes (decide_eq_true (by omega)) (Ex.guard (by simp; omega) (Ex.guard (by simp; omega) (Ex.bc hc1 (Ex.ret hc2))))) ?_
    rw [insR]
    refine Ex.ite (fun hb => ?_) (fun hb => Ex.ret ?_)
    · rw [if_pos (of_decide_eq_true hb)]
      refine Ex.guard (by simp; omega) (Ex.guard (by simp; omega) (Ex.guard (by simp; omega) (Ex.guard (by simp; omega) ?_)))
      have e2 := rev_swap (R := R) (S := S) (p := p) (v := v)
      rw [show R.length + 1 = (p :: R).length from rfl] at e2
      rw [e2]
      have e3 : (p :: R).length + S.length + 1 = R.length + (p :: S).length + 1 := by simp; omega
      rw [e3]
      refine Ex.mono (implIns_ex hv R (p :: S) b (fun x hx => hR x (by simp [hx])) (by simp; omega)) ?_
      rintro r rfl
      simp
    · rw [if_neg (of_decide_eq_false hb)]; simp
theorem implSortL_ex {t : List Nod} {k : Nat} : ∀ (S R : List Int), (∀ x ∈ R, InT t x) → (∀ x ∈ S, InT t x) → k = R.length + S.length → R.length + S.length ≤ 1000000 →
    Ex (fun n => slices_insertionSortCmpFunc_int_impl_walkFrom_1_L1 k 0 (k : Int) t.length t n (R.reverse ++ S) (R.length : Int)) (· = isort (ky t) R S)
  | [], R, hR, hS, hk, hl => by
    refine Ex.succ ?_
    simp only [slices_insertionSortCmpFunc_int_impl_walkFrom_1_L1]
    simp only [List.length_nil] at hk
    exact Ex.no (decide_eq_false (by omega)) (Ex.ret (by simp [isort]))
  | v :: S, R, hR, hS, hk, hl => by
    refine Ex.succ ?_
    simp only [List.length_cons] at hl hk
    simp only [slices_insertionSortCmpFunc_int_impl_walkFrom_1_L1]
    have hk2 : k = R.length + S.length + 1 := by omega
    have hi := implIns_ex (a := (k : Int)) (hS v (by simp)) R S (R.length : Int) hR (by omega)
    rw [← hk2] at hi
    refine Ex.yes (decide_eq_true (by omega)) (Ex.be hi ?_)
    have e := insR_len (ky t) v R
    rw [w64_succ (by omega), ← e, isort]
    refine implSortL_ex S (insR (ky t) v R) (fun x hx => ?_) (fun x hx => hS x (by simp [hx])) (by omega) (by omega)
    rcases List.mem_cons.1 ((insR_perm (ky t) v R).mem_iff.1 hx) with rfl | hx
    · exact hS x (by simp)
    · exact hR x hx
theorem small_len {k : Nat} (h : k ≤ 12) : ∃ c, bits_Len (IntKind.u64.wrap (k : Int)) = some c := by
  have hk : k = 0 ∨ k = 1 ∨ k = 2 ∨ k = 3 ∨ k = 4 ∨ k = 5 ∨ k = 6 ∨ k = 7 ∨ k = 8 ∨ k = 9 ∨ k = 10 ∨ k = 11 ∨ k = 12 := by omega
  rcases hk with rfl | rfl | rfl | rfl | rfl | rfl | rfl | rfl | rfl | rfl | rfl | rfl | rfl <;> exact Option.isSome_iff_exists.1 (by decide +kernel)
theorem isort_len {α : Type} (k : α → Str) (S R : List α) : (isort k R S).length = R.length + S.length := by
  rw [(isort_perm k S R).length_eq, List.length_append]
theorem implSort_ex {t : List Nod} {S : List Int} (hS : ∀ x ∈ S, InT t x) (hl : S.length ≤ 12) : Ex (fun n => slices_SortFunc_int_int_impl_walkFrom_1 n S S.length t t.length) (· = isort (ky t) [] S) := by
  unfold slices_SortFunc_int_int_impl_walkFrom_1
  obtain ⟨c, hc⟩ := small_len hl
  have hlen := isort_len (ky t) S []
  rw [List.length_nil, Nat.zero_add] at hlen
  refine Ex.bc hc (Ex.be (a := isort (ky t) [] S) ?_ (Ex.guard hlen.symm (Ex.ret rfl)))
  unfold slices_pdqsortCmpFunc_int_impl_walkFrom_1
  refine Ex.be (a := isort (ky t) [] S) ?_ (Ex.ret rfl)
  refine Ex.succ ?_
  simp only [slices_pdqsortCmpFunc_int_impl_walkFrom_1_L1]
  rw [w64_id (n := (S.length : Int) - 0) (by omega) (by omega)]
  refine Ex.yes (decide_eq_true (by omega)) (Ex.be (a := isort (ky t) [] S) ?_ (Ex.guard hlen.symm (Ex.ret rfl)))
  unfold slices_insertionSortCmpFunc_int_impl_walkFrom_1
  refine Ex.be (a := isort (ky t) [] S) ?_ (Ex.ret rfl)
  rw [show w64 (0 + 1) = ((1 : Nat) : Int) from by decide]
  cases S with
  | nil =>
    refine Ex.succ ?_
    simp only [slices_insertionSortCmpFunc_int_impl_walkFrom_1_L1]
    exact Ex.no (by simp) (Ex.ret rfl)
  | cons v S =>
    have := implSortL_ex (t := t) (k := (v :: S).length) S [v] (fun x hx => by rw [List.mem_singleton.1 hx]; exact hS v (by simp)) (fun x hx => hS x (by simp [hx])) (by simp; omega) (by simp at hl ⊢; omega)
    exact this
abbrev RecW := List Nod → Int → List Int → Nat → Option (List Int)
theorem implKids_ex {t : List Nod} (h : VT t) (i : Nat) (w : List Int) : ∀ (rc : Nat → RecW), Ex (fun n => impl_walkFrom_L1 (rc n) i w t n [] 0) (· = nkd t i) := by
  have hhi := h.hi
  have key : ∀ (m k : Nat) (rc : Nat → RecW), k + m = t.length → Ex (fun n => impl_walkFrom_L1 (rc n) i w t n ((((List.range t.length).take k).filter fun j => decide (pa t j = (i : Int))).map fun (j : Nat) => (j : Int)) (k : Int)) (· = nkd t i) := by
    intro m
    induction m with
    | zero =>
      intro k rc hk
      refine Ex.succ ?_
      simp only [impl_walkFrom_L1]
      refine Ex.no (decide_eq_false (by omega)) (Ex.ret ?_)
      rw [nkd, kd, List.take_of_length_le (by simp; omega)]
    | succ m ih =>
      intro k rc hk
      have hkl : k < t.length := by omega
      have hx : ((((List.range t.length).take k).filter fun j => decide (pa t j = (i : Int))).map fun (j : Nat) => (j : Int)).length ≤ t.length := by
        rw [List.length_map]
        exact Nat.le_trans (List.length_filter_le _ _) (by simp; omega)
      refine Ex.succ ?_
      simp only [impl_walkFrom_L1, Int.toNat_natCast]
      refine Ex.yes (decide_eq_true (by omega)) (Ex.guard (by omega) ?_)
      rw [w64_succ (by omega)]
      have e1 : (List.range t.length)[k]? = some k := List.getElem?_range hkl
      refine Ex.be (a := (((List.range t.length).take (k + 1)).filter fun j => decide (pa t j = (i : Int))).map fun (j : Nat) => (j : Int)) ?_ (ih (k + 1) (fun n => rc (n + 1)) (by omega))
      rw [take_filter _ _ _ e1]
      refine Ex.ite (fun hb => Ex.guard (by simp at hx ⊢; omega) (Ex.ret ?_)) (fun hb => Ex.ret ?_)
      · rw [if_pos (show decide (pa t k = (i : Int)) = true from hb)]; rfl
      · rw [if_neg (by rw [show decide (pa t k = (i : Int)) = false from hb]; simp)]; simp
  intro rc
  exact key t.length 0 rc (by omega)
theorem implWalkAll_ex {t : List Nod} {g : Nat → List Int} {B : Nat} : ∀ (L : List Int) (xs : List Int) (k : Nat) (a : List Int) (rc : Nat → RecW), xs.drop k = L → k + L.length = xs.length → xs.length ≤ 12 → (∀ x ∈ L, ∀ b : List Int, b.length ≤ B → Ex (fun n => rc n t x b b.length) (· = b ++ g x.toNat)) → (∀ x ∈ L, (g x.toNat).length ≤ 12) → a.length + 12 * L.length ≤ B →
    Ex (fun n => impl_walkFrom_L2 (rc n) xs t n a (k : Int)) (· = a ++ L.flatMap fun x => g x.toNat)
  | [], xs, k, a, rc, h1, h2, h3, h4, h5, h6 => by
    refine Ex.succ ?_
    simp only [impl_walkFrom_L2]
    simp only [List.length_nil] at h2
    exact Ex.no (decide_eq_false (by omega)) (Ex.ret (by simp))
  | x :: L, xs, k, a, rc, h1, h2, h3, h4, h5, h6 => by
    refine Ex.succ ?_
    simp only [List.length_cons] at h2 h6
    have hk : k < xs.length := by omega
    rw [drop_at 0 hk, List.cons.injEq] at h1
    simp only [impl_walkFrom_L2, Int.toNat_natCast, h1.1, view_all]
    have h7 := h5 x (by simp)
    refine Ex.yes (decide_eq_true (by omega)) (Ex.guard (by omega) (Ex.be (h4 x (by simp) a (by omega)).shift ?_))
    rw [w64_succ (by omega)]
    refine Ex.mono (implWalkAll_ex L xs (k + 1) (a ++ g x.toNat) (fun n => rc (n + 1)) h1.2 (by omega) h3 (fun y hy b hb => (h4 y (by simp [hy]) b hb).shift) (fun y hy => h5 y (by simp [hy])) (by simp; omega)) ?_
    rintro r rfl
    simp
theorem implWalkFrom_ex {t : List Nod} (h : VT t) : ∀ (f i : Nat), i < t.length → t.length ≤ f + i + 1 → ∀ acc : List Int, acc.length + 200 * (f + 1) ≤ 50000 → Ex (fun n => impl_walkFrom n t (i : Int) acc acc.length) (· = acc ++ nwk t f i) := by
  have hhi := h.hi
  have one : ∀ (B i : Nat) (g : Nat → List Int), B ≤ 50000 → i < t.length → (∀ k, k ∈ ks t i → ∀ acc : List Int, acc.length ≤ B → Ex (fun n => impl_walkFrom n t (k : Int) acc acc.length) (· = acc ++ g k)) → (∀ k, k ∈ ks t i → (g k).length ≤ 12) → ∀ acc : List Int, acc.length + 200 ≤ B → Ex (fun n => impl_walkFrom n t (i : Int) acc acc.length) (· = acc ++ (i : Int) :: (ks t i).flatMap g) := by
    intro B i g hB hi hg hg2 acc hacc
    refine Ex.succ ?_
    simp only [impl_walkFrom]
    unfold impl_walkFrom_B
    have hk := nkd_len (t := t) (i := i)
    have hl : (nks t i).length = (nkd t i).length := by
      rw [nks, nkd, List.length_map, List.length_map, ks, (List.mergeSort_perm _ _).length_eq]
    refine Ex.guard ⟨rfl, rfl, by simp; omega⟩ (Ex.be (implKids_ex h i acc (fun n => impl_walkFrom n)) ?_)
    have hs := implSort_ex (t := t) (S := nkd t i) nkd_in (by omega)
    rw [sort_kids h i] at hs
    refine Ex.be hs (Ex.guard hl.symm (Ex.be (a := acc ++ (i : Int) :: (ks t i).flatMap g) ?_ (Ex.ret rfl)))
    rw [show (([(i : Int)].drop 0).take [(i : Int)].length) = [(i : Int)] from rfl]
    have := implWalkAll_ex (t := t) (g := g) (B := B) (nks t i) (nks t i) 0 (acc ++ [(i : Int)]) (fun n => impl_walkFrom n) (by simp) (by simp) (by omega) (fun x hx b hb => ?_) (fun x hx => ?_) (by simp; omega)
    · refine Ex.mono this ?_
      rintro r rfl
      rw [nks, List.flatMap_map]
      simp
    · obtain ⟨j, hj, rfl⟩ := List.mem_map.1 hx
      rw [Int.toNat_natCast]; exact hg j hj b hb
    · obtain ⟨j, hj, rfl⟩ := List.mem_map.1 hx
      rw [Int.toNat_natCast]; exact hg2 j hj
  intro f
  induction f with
  | zero =>
    intro i hi hf acc hacc
    have hks : ks t i = [] := by
      rw [List.eq_nil_iff_forall_not_mem]
      intro k hk
      obtain ⟨k1, k2⟩ := mem_ks.1 hk
      have := (kd_pos h k1 k2).1
      omega
    have := one 50000 i (fun _ => []) (Nat.le_refl _) hi (fun k hk => by rw [hks] at hk; cases hk) (fun k hk => by simp) acc (by omega)
    rw [hks] at this
    exact this
  | succ f ih =>
    intro i hi hf acc hacc
    obtain ⟨B, hB⟩ : ∃ B : Nat, B + 200 * (f + 1) = 50000 := ⟨50000 - 200 * (f + 1), by omega⟩
    have := one B i (nwk t f) (by omega) hi (fun k hk b hb => ?_) (fun k hk => ?_) acc (by omega)
    · refine Ex.mono this ?_
      rintro r rfl
      rw [nwk, wk, List.map_cons, List.map_flatMap]
      rfl
    · obtain ⟨k1, k2⟩ := mem_ks.1 hk
      have := (kd_pos h k1 k2).1
      exact ih k k1 (by omega) b (by omega)
    · obtain ⟨k1, k2⟩ := mem_ks.1 hk
      have := (kd_pos h k1 k2).1
      rw [nwk, List.length_map]
      exact wk_len h k1 (by omega)
theorem implWalk_ex {t : List Nod} (h : VT t) : Ex (fun n => impl_WalkNodes n t 0) (· = (walkT t).map fun (j : Nat) => (j : Int)) := by
  have hlo := h.lo
  have hhi := h.hi
  unfold impl_WalkNodes
  refine Ex.be (implNode_ex (by omega) 0) ?_
  rw [validT_iff.2 h, decide_eq_true (by omega)]
  refine Ex.no rfl (Ex.be (a := (walkT t).map fun (j : Nat) => (j : Int)) ?_ (Ex.ret rfl))
  have := implWalkFrom_ex h t.length 0 hlo (by omega) [] (by simp; omega)
  rwa [List.nil_append] at this
theorem implBetween_ex {a b : List Nod} (hla : a.length ≤ 1000000000000) (hlb : b.length ≤ 1000000000000) : Ex (fun n => impl_EditsBetween n a b) (· = eb a b) := by
  unfold impl_EditsBetween eb
  refine Ex.be (implTree_ex a) ?_
  cases hva : validT a with
  | false => exact Ex.be (Ex.yes rfl (Ex.ret rfl)) (Ex.yes rfl (Ex.ret rfl))
  | true =>
    have h1 := validT_iff.1 hva
    refine Ex.be (Ex.no rfl (Ex.be (implTree_ex b) (Ex.ret rfl))) ?_
    cases hvb : validT b with
    | false => exact Ex.yes rfl (Ex.ret rfl)
    | true =>
      have h2 := validT_iff.1 hvb
      have ha12 := h1.hi
      have hb12 := h2.hi
      have wa := walk_len h1
      have wb := walk_len h2
      refine Ex.no rfl ?_
      rw [if_pos (show (true && true) = true from rfl)]
      refine Ex.be (implWalk_ex h1) (Ex.be (a := ebD a b) ?_ (Ex.be (implWalk_ex h2) (Ex.be (a := ebD a b ++ ebS a b) ?_ (Ex.ret rfl))))
      · refine up (walkT a).length (fun k (x : List Edt) => x = (((walkT a).take k).filter (pD a b)).map (fD a)) (f := fun n x j => impl_EditsBetween_L1 a b ((walkT a).map fun (j : Nat) => (j : Int)) n x j) ?_ ?_ 0 [] (Nat.zero_le _) (by simp)
        · rintro k _ hk rfl next
          obtain ⟨e, h3, h4⟩ := walk_at h1 hk
          have e2 : ((walkT a).map fun (j : Nat) => (j : Int)).getD k 0 = (((walkT a).getD k 0 : Nat) : Int) := by rw [List.getD_eq_getElem?_getD, List.getElem?_map, e]; rfl
          have hlen := take_filter_len (walkT a) (pD a b) (fD a) k
          have := h4
          generalize hm : (walkT a).getD k 0 = m at *
          simp only [impl_EditsBetween_L1, Int.toNat_natCast, e2]
          have pe := implPathText_ex hla (m : Int)
          rw [pathT_of h1 h3] at pe
          have hpl := ptx_len h1 h3
          have re := implRes_ex (t := b) (s := ptx (np a m)) (by omega)
          rw [if_pos hvb, res_np h1 h2 h3] at re
          refine Ex.yes (decide_eq_true (by simp; omega)) (Ex.guard (by simp; omega) (Ex.be pe (Ex.be re ?_)))
          have np0 : m = 0 → loo b (np a m) = some 0 := fun e0 => by rw [e0, np_zero h1]; exact (loo_iff h2).2 ⟨h2.lo, np_zero h2⟩
          refine Ex.be (a := pD a b m) ?_ ?_
          · rw [pD]
            cases hl : loo b (np a m) with
            | some q => exact Ex.no (decide_eq_false (by simp only [oi]; omega)) (Ex.ret rfl)
            | none =>
              have m0 : 0 < m := by
                rcases Nat.eq_zero_or_pos m with e0 | e0
                · rw [np0 e0] at hl; cases hl
                · exact e0
              have q := h1.par m m0 h3
              have e3 : (a.getD m dnod).parent = (((pa a m).toNat : Nat) : Int) := by rw [Int.toNat_of_nonneg q.1]; rfl
              refine Ex.yes (by simp [oi]) (Ex.guard (by omega) ?_)
              rw [e3]
              have hq : (pa a m).toNat < a.length := by omega
              have pe2 := implPathText_ex hla (((pa a m).toNat : Nat) : Int)
              rw [pathT_of h1 hq] at pe2
              have hpl2 := ptx_len h1 hq
              have re2 := implRes_ex (t := b) (s := ptx (np a (pa a m).toNat)) (by omega)
              rw [if_pos hvb, res_np h1 h2 hq] at re2
              refine Ex.be pe2 (Ex.be re2 (Ex.ret ?_))
              cases loo b (np a (pa a m).toNat) <;> simp [oi]
          · refine Ex.be (a := (((walkT a).take (k + 1)).filter (pD a b)).map (fD a)) ?_ ?_
            · rw [take_filter _ _ _ e]
              refine Ex.ite (fun hp => ?_) (fun hp => Ex.ret ?_)
              · rw [if_pos hp]
                exact Ex.guard ⟨trivial, trivial, by simp at hlen ⊢; omega⟩ (Ex.ret rfl)
              · rw [hp]; simp
            · rw [w64_succ (by omega)]
              exact next _ rfl
        · rintro _ rfl
          simp only [impl_EditsBetween_L1]
          refine Ex.no (decide_eq_false (by simp)) (Ex.ret ?_)
          rw [ebD_eq, List.take_length]
      · have hDl : (ebD a b).length ≤ 12 := by
          have := take_filter_len (walkT a) (pD a b) (fD a) (walkT a).length
          rw [List.take_length] at this
          rw [ebD_eq]; omega
        refine up (walkT b).length (fun k (x : List Edt) => x = ebD a b ++ (((walkT b).take k).filter (pS a b)).map (fS b)) (f := fun n x j => impl_EditsBetween_L2 a b ((walkT b).map fun (j : Nat) => (j : Int)) n x j) ?_ ?_ 0 _ (Nat.zero_le _) (by simp)
        · rintro k _ hk rfl next
          obtain ⟨e, h3, h4⟩ := walk_at h2 hk
          have e2 : ((walkT b).map fun (j : Nat) => (j : Int)).getD k 0 = (((walkT b).getD k 0 : Nat) : Int) := by rw [List.getD_eq_getElem?_getD, List.getElem?_map, e]; rfl
          have hlen := take_filter_len (walkT b) (pS a b) (fS b) k
          generalize hm : (walkT b).getD k 0 = m at *
          simp only [impl_EditsBetween_L2, Int.toNat_natCast, e2]
          have pe := implPathText_ex hlb (m : Int)
          rw [pathT_of h2 h3] at pe
          have hpl := ptx_len h2 h3
          have re := implRes_ex (t := a) (s := ptx (np b m)) (by omega)
          rw [if_pos hva, res_np h2 h1 h3] at re
          refine Ex.yes (decide_eq_true (by simp; omega)) (Ex.guard (by simp; omega) (Ex.be pe (Ex.be re ?_)))
          refine Ex.be (a := pS a b m) ?_ ?_
          · rw [pS, M]
            cases hl : loo a (np b m) with
            | none => exact Ex.yes (by simp [oi]) (Ex.ret rfl)
            | some q =>
              have hq := ((loo_iff h1).1 hl).1
              refine Ex.no (decide_eq_false (by simp only [oi]; omega)) (Ex.guard (by simp only [oi]; omega) (Ex.guard (by omega) (Ex.ret ?_)))
              simp only [oi, Int.toNat_natCast, Option.map_some, Option.some.injEq]
              rfl
          · refine Ex.be (a := ebD a b ++ (((walkT b).take (k + 1)).filter (pS a b)).map (fS b)) ?_ ?_
            · rw [take_filter _ _ _ e]
              refine Ex.ite (fun hp => ?_) (fun hp => Ex.ret ?_)
              · rw [if_pos hp]
                refine Ex.guard (by omega) (Ex.guard ⟨trivial, trivial, by simp at hlen ⊢; omega⟩ (Ex.ret ?_))
                rw [← List.append_assoc]; rfl
              · rw [hp]; simp
            · rw [w64_succ (by omega)]
              exact next _ rfl
        · rintro _ rfl
          simp only [impl_EditsBetween_L2]
          refine Ex.no (decide_eq_false (by simp)) (Ex.ret ?_)
          rw [ebS_eq, List.take_length]
end
section
open Go
set_option linter.unusedVariables false
/-- whether trees are the same -/
def sameT (a b : List Nod) : Bool := (validT a && validT b) && (decide (a.length = b.length) && decide (ent a = ent b))
/-- a node and its partner -/
def twin (a b : List Nod) (n : Nat) : Bool := match loo b (np a n) with
  | some m => decide (va a n = va b m)
  | none => false
theorem sameP_dec {a b : List Nod} (ha : VT a) (hb : VT b) (hl : a.length = b.length) : decide (ent a = ent b) = (List.range a.length).all (twin a b) := by
  rw [Bool.eq_iff_iff, decide_eq_true_eq, sameP_iff ha hb hl, all_range]
  constructor
  · rintro ⟨_, h⟩ n hn
    obtain ⟨m, h1, h2⟩ := h n hn
    rw [twin, h1]; exact decide_eq_true h2
  · intro h
    refine ⟨hl, fun n hn => ?_⟩
    have := h n hn
    rw [twin] at this
    split at this
    · rename_i m hm; exact ⟨m, hm, of_decide_eq_true this⟩
    · cases this
theorem implSame_ex {a b : List Nod} (hla : a.length ≤ 1000000000000) : Ex (fun n => impl_SameTree n a b) (· = sameT a b) := by
  unfold impl_SameTree sameT
  refine Ex.be (implTree_ex a) ?_
  cases hva : validT a with
  | false => exact Ex.be (Ex.yes rfl (Ex.ret rfl)) (Ex.yes rfl (Ex.ret rfl))
  | true =>
    have h1 := validT_iff.1 hva
    have hhi := h1.hi
    refine Ex.be (a := !(validT b && decide (a.length = b.length))) (Ex.no rfl (Ex.be (implTree_ex b) ?_)) ?_
    · cases hvb : validT b with
      | false => exact Ex.yes rfl (Ex.ret rfl)
      | true =>
        refine Ex.no rfl (Ex.ret ?_)
        rw [Bool.true_and]; congr 1
        rw [Bool.eq_iff_iff]; simp only [decide_eq_true_eq]; omega
    · rw [Bool.true_and, ← Bool.and_assoc]
      refine Ex.ite (fun hb => Ex.ret ?_) (fun hb => ?_)
      · rw [notT hb]; rfl
      · have hb := notF hb
        rw [hb, Bool.true_and]
        simp only [Bool.and_eq_true, decide_eq_true_eq] at hb
        have h2 := validT_iff.1 hb.1
        rw [sameP_dec h1 h2 hb.2]
        refine Ex.be (a := if (List.range a.length).all (twin a b) = true then .inr () else .inl ()) ?_ ?_
        · refine upU a.length (fun k => ∀ j, j < k → twin a b j = true) ?_ ?_ 0 (Nat.zero_le _) (fun j hj => by omega)
          · intro k hk hi next
            have hp := ptx_len h1 hk
            simp only [impl_SameTree_L1, Int.toNat_natCast]
            have e1 := implPathText_ex hla (k : Int)
            rw [pathT_of h1 hk] at e1
            have e2 := implRes_ex (t := b) (s := ptx (np a k)) (by omega)
            rw [if_pos hb.1, res_np h1 h2 hk] at e2
            refine Ex.yes (decide_eq_true (by omega)) (Ex.be e1 (Ex.be e2 (Ex.be (a := !twin a b k) ?_ ?_)))
            · rw [twin]
              cases hm : loo b (np a k) with
              | none => exact Ex.yes (by decide) (Ex.ret rfl)
              | some m =>
                have h3 := ((loo_iff h2).1 hm).1
                show Ex (fun n => iteO (decide ((m : Int) < 0)) _ _) _
                refine Ex.no (decide_eq_false (by omega)) (Ex.guard (by omega) (Ex.guard (by simp only [oi]; omega) (Ex.ret ?_)))
                rfl
            · refine Ex.ite (fun ht => Ex.ret ?_) (fun ht => ?_)
              · rw [all_range_false hk (notT ht)]; rfl
              · rw [w64_succ (by omega)]
                refine next (fun j hj => ?_)
                rcases Nat.eq_or_lt_of_le (Nat.le_of_lt_succ hj) with rfl | h6
                · exact notF ht
                · exact hi j h6
          · intro hi
            simp only [impl_SameTree_L1]
            refine Ex.no (decide_eq_false (by omega)) (Ex.ret ?_)
            rw [all_range.2 hi]; rfl
        · cases (List.range a.length).all (twin a b) with
          | true => exact Ex.ret rfl
          | false => exact Ex.ret rfl
theorem sameT_iff {a b : List Nod} : sameT a b = true ↔ VT a ∧ VT b ∧ ∀ l, M a l = M b l := by
  rw [sameT]
  simp only [Bool.and_eq_true, decide_eq_true_eq, validT_iff]
  constructor
  · rintro ⟨⟨ha, hb⟩, hl, he⟩
    exact ⟨ha, hb, (sameP_M ha hb).1 ((sameP_iff ha hb hl).1 he)⟩
  · rintro ⟨ha, hb, h⟩
    have := (sameP_M ha hb).2 h
    exact ⟨⟨ha, hb⟩, this.1, (sameP_iff ha hb this.1).2 this⟩
end
section
open Go
set_option linter.unusedVariables false
theorem law_FnEditsBetweenBack (x0 : List Int) (h0 : x0.length ≤ 9223372036854775807 ∧ ∀ x ∈ x0, RC.wf .u8 x) : ∃ n, laws_FnEditsBetweenBack n x0 = some true := by
  refine Ex.get ?_
  unfold laws_FnEditsBetweenBack
  refine Ex.code rfl (fun hl => ?_)
  refine Ex.bind (drawBetween_ex (u8_wf h0.2) hl) ?_
  rintro ⟨x, y, k1, k2, k3, k4⟩ ⟨g1, g2⟩
  simp only at g1 g2 ⊢
  have l1 := g1.len
  have l2 := g2.len
  have n1 := g1.nl
  have n2 := g2.nl
  generalize hA : (x.drop k1).take k2 = a at *
  generalize hB : (y.drop k3).take k4 = b at *
  have he := eb_len (a := a) (b := b)
  have sp : ∀ {g : Nat → List Edt → Option Bool} {Q : Bool → Prop}, Ex (fun n => g n (eb a b)) Q → Ex (fun n => bindO (spec_EditsBetween n a b) (g n)) Q := fun k => Ex.be (specBetween_ex n1 n2 (by omega) (by omega)) k
  refine Ex.be (implBetween_ex (by omega) (by omega)) (sp (Ex.be (eqEdits_ex (by omega)) ?_))
  refine Ex.be (a := !(validT a && validT b)) (Ex.no rfl (Ex.be (implTree_ex a) ?_)) ?_
  · cases validT a with
    | false => exact Ex.yes rfl (Ex.ret rfl)
    | true => exact Ex.no rfl (Ex.be (implTree_ex b) (Ex.ret rfl))
  · refine Ex.ite (fun _ => sp (Ex.be (eqEdits_ex (by omega)) (Ex.ret rfl))) (fun hv => ?_)
    have hv := notF hv
    simp only [Bool.and_eq_true] at hv
    have ha := validT_iff.1 hv.1
    have hb := validT_iff.1 hv.2
    obtain ⟨w, w1, w2, w3⟩ := eb_apply ha hb
    have hw12 := w2.hi
    have i1 := implApplyAll_ex (t := a) (l := eb a b) eb_paths
    rw [w1] at i1
    obtain ⟨z, z1, z2, z3⟩ := eb_apply w2 ha
    have hz12 := z2.hi
    have i2 := implApplyAll_ex (t := w) (l := eb w a) eb_paths
    rw [z1] at i2
    refine Ex.be i1 ?_
    simp only
    refine Ex.be (implBetween_ex (by omega) (by omega)) (Ex.be i2 (Ex.be (a := true) (Ex.yes rfl (Ex.yes rfl (Ex.be (implSame_ex (by show z.length ≤ _; omega)) (Ex.ret ?_)))) (Ex.ret rfl)))
    exact sameT_iff.2 ⟨z2, ha, z3⟩
end
end Go.Proofs.Ytghdgncfcfdlfaa
