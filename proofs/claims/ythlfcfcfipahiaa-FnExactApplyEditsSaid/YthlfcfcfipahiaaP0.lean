/- Plain facts: what a function with fuel comes to. Conditions: none. -/
import Derived.Test.YthlfcfcfipahiaaTLx
import Derived.Test.YthlfcfcfipahiaaTLzb
import Derived.Test.YthlfcfcfipahiaaP1
namespace Go.Proofs.Ythlfcfcfipahiaa
open Go

/-- with enough fuel f comes to something that P holds of -/
def Ex {α : Type} (f : Nat → Option α) (P : α → Prop) : Prop := ∃ r, P r ∧ ∃ N, ∀ n, N ≤ n → f n = some r

theorem Ex.ret {α : Type} {P : α → Prop} {r : α} (h : P r) : Ex (fun _ => some r) P := ⟨r, h, 0, fun _ _ => rfl⟩
theorem Ex.const {α : Type} {P : α → Prop} {x : Option α} {r : α} (e : x = some r) (h : P r) : Ex (fun _ => x) P := ⟨r, h, 0, fun _ _ => e⟩
theorem Ex.of_eq {α : Type} {f : Nat → Option α} {r : α} (N : Nat) (h : ∀ n, N ≤ n → f n = some r) : Ex f (· = r) := ⟨r, rfl, N, h⟩
theorem Ex.mono {α : Type} {f : Nat → Option α} {P Q : α → Prop} (h : Ex f P) (k : ∀ r, P r → Q r) : Ex f Q := by
  obtain ⟨r, h1, h2⟩ := h; exact ⟨r, k r h1, h2⟩
theorem Ex.bind {α β : Type} {f : Nat → Option α} {g : Nat → α → Option β} {P : α → Prop} {Q : β → Prop} (h : Ex f P) (k : ∀ a, P a → Ex (fun n => g n a) Q) : Ex (fun n => bindO (f n) (g n)) Q := by
  obtain ⟨a, h1, N, h2⟩ := h
  obtain ⟨r, k1, M, k2⟩ := k a h1
  refine ⟨r, k1, max N M, fun n hn => ?_⟩
  show bindO (f n) (g n) = some r
  rw [h2 n (by omega)]
  exact k2 n (by omega)
/-- a call that comes to one value -/
theorem Ex.be {α β : Type} {f : Nat → Option α} {g : Nat → α → Option β} {a : α} {Q : β → Prop} (h : Ex f (· = a)) (k : Ex (fun n => g n a) Q) : Ex (fun n => bindO (f n) (g n)) Q := Ex.bind h (fun b hb => by subst hb; exact k)
/-- a call without fuel that comes to one value -/
theorem Ex.bc {α β : Type} {x : Option α} {g : Nat → α → Option β} {a : α} {Q : β → Prop} (h : x = some a) (k : Ex (fun n => g n a) Q) : Ex (fun n => bindO x (g n)) Q := by subst h; exact k
theorem Ex.guard {α : Type} {c : Prop} [Decidable c] {f : Nat → Option α} {P : α → Prop} (h : c) (k : Ex f P) : Ex (fun n => guardO c (f n)) P := by
  have : (fun n => guardO c (f n)) = f := by funext n; exact guardO_pos h
  rw [this]; exact k
theorem Ex.ite {α : Type} {b : Bool} {f g : Nat → Option α} {P : α → Prop} (h1 : b = true → Ex f P) (h2 : b = false → Ex g P) : Ex (fun n => iteO b (f n) (g n)) P := by
  cases b with
  | true => exact h1 rfl
  | false => exact h2 rfl
theorem Ex.yes {α : Type} {b : Bool} {f g : Nat → Option α} {P : α → Prop} (h : b = true) (k : Ex f P) : Ex (fun n => iteO b (f n) (g n)) P := by subst h; exact k
theorem Ex.no {α : Type} {b : Bool} {f g : Nat → Option α} {P : α → Prop} (h : b = false) (k : Ex g P) : Ex (fun n => iteO b (f n) (g n)) P := by subst h; exact k
theorem Ex.succ {α : Type} {f : Nat → Option α} {P : α → Prop} (h : Ex (fun n => f (n + 1)) P) : Ex f P := by
  obtain ⟨r, h1, N, h2⟩ := h
  refine ⟨r, h1, N + 1, fun n hn => ?_⟩
  obtain ⟨m, rfl⟩ : ∃ m, n = m + 1 := ⟨n - 1, by omega⟩
  exact h2 m (by omega)
theorem Ex.get {α : Type} {f : Nat → Option α} {r : α} (h : Ex f (· = r)) : ∃ n, f n = some r := by
  obtain ⟨a, rfl, N, h⟩ := h; exact ⟨N, h N (Nat.le_refl _)⟩

theorem dec_lt {a b : Nat} : decide ((a : Int) < (b : Int)) = decide (a < b) := by simp
theorem u8_wf {xs : List Int} (h : ∀ x ∈ xs, RC.wf .u8 x) : ∀ x ∈ xs, 0 ≤ x ∧ x ≤ 255 := by
  intro x hx
  obtain ⟨n, h1, h2, h3⟩ := (h x hx).1
  cases h1
  exact ⟨h2, h3⟩
theorem getD_mem {α : Type} {xs : List α} {k : Nat} {d : α} (h : k < xs.length) : xs.getD k d ∈ xs := by
  rw [List.getD_eq_getElem?_getD, List.getElem?_eq_getElem h]; exact List.getElem_mem h
theorem view_all {α : Type} (xs : List α) : (xs.drop 0).take xs.length = xs := by simp
theorem view_tail {α : Type} (xs : List α) (j : Nat) : (xs.drop j).take (xs.length - j) = xs.drop j := by rw [← List.length_drop, List.take_length]
theorem tmod_nat {m n : Nat} : ((m : Int)).tmod (n : Int) = ((m % n : Nat) : Int) := by
  rw [Int.tmod_eq_emod_of_nonneg (by omega)]; omega
/-- a loop that looks for an element -/
theorem any_loop {ρ α : Type} (xs : List ρ) (d : ρ) (q : ρ → Bool) {f : Nat → Int → Option α} {A B : α}
    (h1 : ∀ k : Nat, k < xs.length → q (xs.getD k d) = true → Ex (fun n => f (n + 1) (k : Int)) (· = A))
    (h2 : ∀ k : Nat, k < xs.length → q (xs.getD k d) = false → ∀ r, Ex (fun n => f n ((k + 1 : Nat) : Int)) (· = r) → Ex (fun n => f (n + 1) (k : Int)) (· = r))
    (h3 : Ex (fun n => f (n + 1) (xs.length : Int)) (· = B)) : Ex (fun n => f n 0) (· = if xs.any q = true then A else B) := by
  have key : ∀ (m k : Nat), k + m = xs.length → Ex (fun n => f n (k : Int)) (· = if (xs.drop k).any q = true then A else B) := by
    intro m
    induction m with
    | zero =>
      intro k hk
      obtain rfl : k = xs.length := by omega
      rw [List.drop_length]
      exact Ex.succ h3
    | succ m ih =>
      intro k hk
      have hlt : k < xs.length := by omega
      have e : xs.drop k = xs.getD k d :: xs.drop (k + 1) := by
        rw [List.drop_eq_getElem_cons hlt, List.getD_eq_getElem?_getD, List.getElem?_eq_getElem hlt]; rfl
      rw [e, List.any_cons]
      refine Ex.succ ?_
      cases hq : q (xs.getD k d) with
      | true => exact h1 k hlt hq
      | false =>
        rw [Bool.false_or]
        exact h2 k hlt hq _ (ih (k + 1) (by omega))
  have := key xs.length 0 (by omega)
  rw [List.drop_zero] at this
  exact this
/-- a loop that goes over all elements -/
theorem fold_loop {ρ σ α : Type} (xs : List ρ) (d : ρ) (g : Nat → σ → ρ → σ) (inv : Nat → σ → Prop) {f : Nat → σ → Int → Option α} {fin : σ → α} {s0 : σ} (hi : inv 0 s0)
    (h1 : ∀ (k : Nat) (s : σ), k < xs.length → inv k s → inv (k + 1) (g k s (xs.getD k d)) ∧ ∀ Q : α → Prop, Ex (fun n => f n (g k s (xs.getD k d)) ((k + 1 : Nat) : Int)) Q → Ex (fun n => f (n + 1) s (k : Int)) Q)
    (h2 : ∀ s, inv xs.length s → Ex (fun n => f (n + 1) s (xs.length : Int)) (· = fin s)) : Ex (fun n => f n s0 0) (fun r => ∃ s, r = fin s ∧ inv xs.length s) := by
  have key : ∀ (m k : Nat) (s : σ), k + m = xs.length → inv k s → Ex (fun n => f n s (k : Int)) (fun r => ∃ s, r = fin s ∧ inv xs.length s) := by
    intro m
    induction m with
    | zero =>
      intro k s hk hs
      obtain rfl : k = xs.length := by omega
      exact Ex.succ (Ex.mono (h2 s hs) (fun r hr => ⟨s, hr, hs⟩))
    | succ m ih =>
      intro k s hk hs
      obtain ⟨h3, h4⟩ := h1 k s (by omega) hs
      exact Ex.succ (h4 _ (ih (k + 1) _ (by omega) h3))
  exact key xs.length 0 s0 (by omega) hi
/-- a loop over 0, 1, 2, 3 -/
theorem loop4 {σ α : Type} (inv : Nat → σ → Prop) {f : Nat → σ → Int → Option α} {fin : σ → α} {s0 : σ} (hi : inv 0 s0)
    (h1 : ∀ (k : Nat) (s : σ), k < 4 → inv k s → ∀ Q : α → Prop, (∀ s', inv (k + 1) s' → Ex (fun n => f n s' ((k + 1 : Nat) : Int)) Q) → Ex (fun n => f (n + 1) s (k : Int)) Q)
    (h2 : ∀ s, inv 4 s → Ex (fun n => f (n + 1) s 4) (· = fin s)) : Ex (fun n => f n s0 0) (fun r => ∃ s, r = fin s ∧ inv 4 s) := by
  have key : ∀ (m k : Nat) (s : σ), k + m = 4 → inv k s → Ex (fun n => f n s (k : Int)) (fun r => ∃ s, r = fin s ∧ inv 4 s) := by
    intro m
    induction m with
    | zero =>
      intro k s hk hs
      obtain rfl : k = 4 := by omega
      exact Ex.succ (Ex.mono (h2 s hs) (fun r hr => ⟨s, hr, hs⟩))
    | succ m ih =>
      intro k s hk hs
      exact Ex.succ (h1 k s (by omega) hs _ (fun s' hs' => ih (k + 1) s' (by omega) hs'))
  exact key 4 0 s0 (by omega) hi
/-- a loop that goes through without a change -/
theorem skip_loop {α : Type} (len : Nat) {f : Nat → Int → Option α} {B : α}
    (h1 : ∀ k : Nat, k < len → ∀ r, Ex (fun n => f n ((k + 1 : Nat) : Int)) (· = r) → Ex (fun n => f (n + 1) (k : Int)) (· = r))
    (h2 : Ex (fun n => f (n + 1) (len : Int)) (· = B)) : Ex (fun n => f n 0) (· = B) := by
  have key : ∀ (m k : Nat), k + m = len → Ex (fun n => f n (k : Int)) (· = B) := by
    intro m
    induction m with
    | zero =>
      intro k hk
      obtain rfl : k = len := by omega
      exact Ex.succ h2
    | succ m ih =>
      intro k hk
      exact Ex.succ (h1 k (by omega) _ (ih (k + 1) (by omega)))
  exact key len 0 (by omega)
/-- a loop that copies -/
theorem copy_ex {ρ : Type} (xs : List ρ) (d : ρ) {f : Nat → List ρ → Int → Option (List ρ)}
    (h1 : ∀ (k : Nat) (ys : List ρ), k < xs.length → ys.length = xs.length → ∀ Q : List ρ → Prop, Ex (fun n => f n (ys.set k (xs.getD k d)) ((k + 1 : Nat) : Int)) Q → Ex (fun n => f (n + 1) ys (k : Int)) Q)
    (h2 : ∀ ys, Ex (fun n => f (n + 1) ys (xs.length : Int)) (· = ys)) (ys : List ρ) (hy : ys.length = xs.length) : Ex (fun n => f n ys 0) (· = xs) := by
  have := fold_loop xs d (fun k s x => s.set k x) (fun k s => s.length = xs.length ∧ s.take k = xs.take k) (f := f) (fin := fun s => s) (s0 := ys) ⟨hy, rfl⟩ ?_ (fun s _ => h2 s)
  · refine Ex.mono this ?_
    rintro r ⟨s, rfl, h3, h4⟩
    rw [List.take_of_length_le (by omega), List.take_length] at h4
    exact h4
  · intro k s hk hs
    refine ⟨⟨by simpa using hs.1, ?_⟩, fun Q hQ => h1 k s hk hs.1 Q hQ⟩
    rw [List.take_add_one, List.take_add_one]
    have e1 : xs[k]? = some (xs.getD k d) := by rw [List.getD_eq_getElem?_getD, List.getElem?_eq_getElem hk]; rfl
    rw [e1, List.getElem?_set_self (by omega), List.take_set_of_le (Nat.le_refl k), hs.2]
theorem Ex.code {f : Nat → Option Bool} {x1 : List Int} {P : Bool → Prop} (ht : P true) (h : x1.length ≤ 1048576 → Ex f P) : Ex (fun n => iteO (decide (1048576 < ((x1.length : Nat) : Int))) (some true) (f n)) P := by
  refine Ex.ite (fun _ => Ex.ret ht) (fun hb => h ?_)
  have := of_decide_eq_false hb
  omega
end Go.Proofs.Ythlfcfcfipahiaa
