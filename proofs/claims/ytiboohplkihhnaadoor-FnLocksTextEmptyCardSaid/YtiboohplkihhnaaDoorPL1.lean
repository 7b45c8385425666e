/- Plain facts for the law FnLocksTextEmpty. Conditions: none. -/
import Derived.Test.YtiboohplkihhnaaDoorTLx
import Derived.Test.YtiboohplkihhnaaDoorTLzb
import Derived.Lib.ItoaNum
import Derived.Test.YtiboohplkihhnaaDoorTT
namespace Go.Proofs.YtiboohplkihhnaaDoor
section
open Go
theorem w64_id {n : Int} (h1 : -9223372036854775808 ≤ n) (h2 : n ≤ 9223372036854775807) : w64 n = n := by
  show IntKind.i64.wrap n = n
  unfold IntKind.wrap
  simp [IntKind.bits, IntKind.signed]
  omega
theorem w64_succ {k : Nat} (h : k < 1099511627776) : w64 ((k : Int) + 1) = ((k + 1 : Nat) : Int) := by
  rw [w64_id (by omega) (by omega)]; omega
end
section
open Go
/-- with enough fuel f comes to something that P holds of -/
def Ex {α : Type} (f : Nat → Option α) (P : α → Prop) : Prop := ∃ r, P r ∧ ∃ N, ∀ n, N ≤ n → f n = some r
theorem Ex.ret {α : Type} {P : α → Prop} {r : α} (h : P r) : Ex (fun _ => some r) P := ⟨r, h, 0, fun _ _ => rfl⟩
theorem Ex.const {α : Type} {P : α → Prop} {x : Option α} {r : α} (e : x = some r) (h : P r) : Ex (fun _ => x) P := ⟨r, h, 0, fun _ _ => e⟩
theorem Ex.mono {α : Type} {f : Nat → Option α} {P Q : α → Prop} (h : Ex f P) (k : ∀ r, P r → Q r) : Ex f Q := by
  obtain ⟨r, h1, h2⟩ := h; exact ⟨r, k r h1, h2⟩
theorem Ex.bind {α β : Type} {f : Nat → Option α} {g : Nat → α → Option β} {P : α → Prop} {Q : β → Prop} (h : Ex f P) (k : ∀ a, P a → Ex (fun n => g n a) Q) : Ex (fun n => bindO (f n) (g n)) Q := by
  obtain ⟨a, h1, N, h2⟩ := h
  obtain ⟨r, k1, M, k2⟩ := k a h1
  refine ⟨r, k1, max N M, fun n hn => ?_⟩
  show bindO (f n) (g n) = some r
  rw [h2 n (by omega)]
  exact k2 n (by omega)
/-- a call that comes to one value -/
theorem Ex.be {α β : Type} {f : Nat → Option α} {g : Nat → α → Option β} {a : α} {Q : β → Prop} (h : Ex f (· = a)) (k : Ex (fun n => g n a) Q) : Ex (fun n => bindO (f n) (g n)) Q := Ex.bind h (fun b hb => by subst hb; exact k)
/-- a call without fuel that comes to one value -/
theorem Ex.bc {α β : Type} {x : Option α} {g : Nat → α → Option β} {a : α} {Q : β → Prop} (h : x = some a) (k : Ex (fun n => g n a) Q) : Ex (fun n => bindO x (g n)) Q := by subst h; exact k
theorem Ex.guard {α : Type} {c : Prop} [Decidable c] {f : Nat → Option α} {P : α → Prop} (h : c) (k : Ex f P) : Ex (fun n => guardO c (f n)) P := by
  have : (fun n => guardO c (f n)) = f := by funext n; exact guardO_pos h
  rw [this]; exact k
theorem Ex.ite {α : Type} {b : Bool} {f g : Nat → Option α} {P : α → Prop} (h1 : b = true → Ex f P) (h2 : b = false → Ex g P) : Ex (fun n => iteO b (f n) (g n)) P := by
  cases b with
  | true => exact h1 rfl
  | false => exact h2 rfl
theorem Ex.yes {α : Type} {b : Bool} {f g : Nat → Option α} {P : α → Prop} (h : b = true) (k : Ex f P) : Ex (fun n => iteO b (f n) (g n)) P := by subst h; exact k
theorem Ex.no {α : Type} {b : Bool} {f g : Nat → Option α} {P : α → Prop} (h : b = false) (k : Ex g P) : Ex (fun n => iteO b (f n) (g n)) P := by subst h; exact k
theorem Ex.succ {α : Type} {f : Nat → Option α} {P : α → Prop} (h : Ex (fun n => f (n + 1)) P) : Ex f P := by
  obtain ⟨r, h1, N, h2⟩ := h
  refine ⟨r, h1, N + 1, fun n hn => ?_⟩
  obtain ⟨m, rfl⟩ : ∃ m, n = m + 1 := ⟨n - 1, by omega⟩
  exact h2 m (by omega)
theorem Ex.get {α : Type} {f : Nat → Option α} {r : α} (h : Ex f (· = r)) : ∃ n, f n = some r := by
  obtain ⟨a, rfl, N, h⟩ := h; exact ⟨N, h N (Nat.le_refl _)⟩
theorem u8_wf {xs : List Int} (h : ∀ x ∈ xs, RC.wf .u8 x) : ∀ x ∈ xs, 0 ≤ x ∧ x ≤ 255 := by
  intro x hx
  obtain ⟨n, h1, h2, h3⟩ := (h x hx).1
  cases h1
  exact ⟨h2, h3⟩
theorem getD_mem {α : Type} {xs : List α} {k : Nat} {d : α} (h : k < xs.length) : xs.getD k d ∈ xs := by
  rw [List.getD_eq_getElem?_getD, List.getElem?_eq_getElem h]; exact List.getElem_mem h
theorem Ex.code {f : Nat → Option Bool} {x1 : List Int} {P : Bool → Prop} (ht : P true) (h : x1.length ≤ 1048576 → Ex f P) : Ex (fun n => iteO (decide (1048576 < ((x1.length : Nat) : Int))) (some true) (f n)) P := by
  refine Ex.ite (fun _ => Ex.ret ht) (fun hb => h ?_)
  have := of_decide_eq_false hb
  omega
end
section
open Go
/-- a loop with a state: what holds ahead of each round -/
theorem up {σ α : Type} (len : Nat) (inv : Nat → σ → Prop) {f : Nat → σ → Int → Option α} {Q : α → Prop}
    (h1 : ∀ (k : Nat) (s : σ), k < len → inv k s → (∀ s', inv (k + 1) s' → Ex (fun n => f n s' ((k + 1 : Nat) : Int)) Q) → Ex (fun n => f (n + 1) s (k : Int)) Q)
    (h2 : ∀ s, inv len s → Ex (fun n => f (n + 1) s (len : Int)) Q) (k : Nat) (s : σ) (hk : k ≤ len) (hi : inv k s) : Ex (fun n => f n s (k : Int)) Q := by
  have key : ∀ (m k : Nat) (s : σ), k + m = len → inv k s → Ex (fun n => f n s (k : Int)) Q := by
    intro m
    induction m with
    | zero =>
      intro k s hk hs
      obtain rfl : k = len := by omega
      exact Ex.succ (h2 s hs)
    | succ m ih =>
      intro k s hk hs
      exact Ex.succ (h1 k s (by omega) hs (fun s' hs' => ih (k + 1) s' (by omega) hs'))
  exact key (len - k) k s (by omega) hi
/-- the same without a state -/
theorem upU {α : Type} (len : Nat) (inv : Nat → Prop) {f : Nat → Int → Option α} {Q : α → Prop}
    (h1 : ∀ (k : Nat), k < len → inv k → (inv (k + 1) → Ex (fun n => f n ((k + 1 : Nat) : Int)) Q) → Ex (fun n => f (n + 1) (k : Int)) Q)
    (h2 : inv len → Ex (fun n => f (n + 1) (len : Int)) Q) (k : Nat) (hk : k ≤ len) (hi : inv k) : Ex (fun n => f n (k : Int)) Q :=
  up (σ := Unit) len (fun k _ => inv k) (f := fun n _ i => f n i) (fun k _ hk hi h => h1 k hk hi (fun h' => h () h')) (fun _ h => h2 h) k () hk hi
theorem notT {b : Bool} (h : (!b) = true) : b = false := by cases b; rfl; cases h
theorem notF {b : Bool} (h : (!b) = false) : b = true := by cases b; cases h; rfl
theorem drop_at {α : Type} {xs : List α} {k : Nat} (d : α) (h : k < xs.length) : xs.drop k = xs.getD k d :: xs.drop (k + 1) := by
  rw [List.drop_eq_getElem_cons h, List.getD_eq_getElem?_getD, List.getElem?_eq_getElem h]; rfl
theorem all_range {n : Nat} {p : Nat → Bool} : (List.range n).all p = true ↔ ∀ j, j < n → p j = true := by
  simp [List.all_eq_true]
end
section
open Go
set_option linter.unusedVariables false
theorem u8wrap {x : Int} (h0 : 0 ≤ x) (h1 : x < 256) : IntKind.u8.wrap x = x := by
  unfold IntKind.wrap
  simp [IntKind.bits, IntKind.signed]
  omega
theorem dig_small {u : Nat} (h : u < 10) : Lib.decDigits u = [UInt8.ofNat (48 + u)] := by rw [Lib.decDigits, dif_pos h]
theorem dig_big {u : Nat} (h : ¬ u < 10) : Lib.decDigits u = Lib.decDigits (u / 10) ++ [UInt8.ofNat (48 + u % 10)] := by rw [Lib.decDigits, dif_neg h]
theorem digits_len : ∀ (k u : Nat), u < 10 ^ (k + 1) → (Lib.decDigits u).length ≤ k + 1
  | 0, u, h => by rw [dig_small (by simpa using h)]; simp
  | k + 1, u, h => by
    by_cases h1 : u < 10
    · rw [dig_small h1]; simp
    · rw [dig_big h1, List.length_append]
      have := digits_len k (u / 10) (by rw [Nat.pow_succ] at h; omega)
      simp; omega
theorem itoa_len {n : Int} (h0 : -1000 ≤ n) (h1 : n ≤ 1000) : (Lib.itoa n).length ≤ 5 := by
  unfold Lib.itoa
  split
  · have := digits_len 3 n.natAbs (by omega)
    simp; omega
  · have := digits_len 3 n.toNat (by omega)
    omega
/-- parts with a semicolon and a space between two of them -/
def sepk (f : Nat → Str) : Nat → Str
  | 0 => []
  | k + 1 => sepk f k ++ (if 0 < k then [59, 32] else []) ++ f k
theorem sepk_len {f : Nat → Str} {B : Nat} : ∀ {k : Nat}, (∀ j, j < k → (f j).length ≤ B) → (sepk f k).length ≤ (B + 2) * k
  | 0, _ => by simp [sepk]
  | k + 1, h => by
    have h1 := sepk_len (f := f) (B := B) (k := k) (fun j hj => h j (by omega))
    have h2 := h k (by omega)
    rw [sepk, List.length_append, List.length_append, Nat.mul_succ]
    split <;> simp <;> omega
theorem sepk_ne {f : Nat → Str} {k : Nat} (hk : 0 < k) (h : f (k - 1) ≠ []) : sepk f k ≠ [] := by
  cases k with
  | zero => omega
  | succ k =>
    rw [sepk]
    intro e
    have := (List.append_eq_nil_iff.1 e).2
    exact h this
end
section
open Go
set_option linter.unusedVariables false
def ib (s : Str) : List Int := s.map fun b => ((b.toNat : Nat) : Int)
theorem ib_app (a b : Str) : ib (a ++ b) = ib a ++ ib b := by simp [ib]
theorem bytes_ib (s : Str) : bytesOf (ib s) = s := by
  induction s with
  | nil => rfl
  | cons a s ih =>
    have : bytesOf (ib (a :: s)) = UInt8.ofNat ((a.toNat : Int)).toNat :: bytesOf (ib s) := rfl
    rw [this, ih, Int.toNat_natCast, UInt8.ofNat_toNat]
theorem ib_ok (s : Str) : ∀ x ∈ ib s, 0 ≤ x ∧ x ≤ 255 := by
  intro x hx
  obtain ⟨b, _, rfl⟩ := List.mem_map.1 hx
  have := UInt8.toNat_lt b
  omega
theorem ib_len (s : Str) : (ib s).length = s.length := by simp [ib]
theorem wByte {s : Str} (hs : s.length ≤ 1000000000000) (c : UInt8) {i : Int} (hi : i = (c.toNat : Int)) : strings_Builder_WriteByte (ib s) i = some (ib (s ++ [c])) := by
  unfold strings_Builder_WriteByte
  rw [guardO_pos ⟨rfl, rfl, by simp [ib]; omega⟩, ib_app, hi]; rfl
theorem wStr {s r : Str} (hs : s.length + r.length ≤ 1000000000000) : strings_Builder_WriteString (ib s) r = some (ib (s ++ r), (r.length : Int)) := by
  unfold strings_Builder_WriteString
  rw [guardO_pos ⟨rfl, rfl, by simp [ib]; omega⟩, ib_app]; rfl
theorem bStr (s : Str) : strings_Builder_String (ib s) = some (s.length, s) := by
  unfold strings_Builder_String
  rw [guardO_pos ⟨rfl, ib_ok s⟩, bytes_ib, ib_len]
end
section
open Go
set_option linter.unusedVariables false
theorem decNat_ex : ∀ (u : Nat), u ≤ 9223372036854775807 → Ex (fun n => spec_decimal n (u : Int)) (· = Lib.decDigits u) := by
  intro u
  induction u using Nat.strongRecOn with
  | ind u ih =>
    intro hu
    refine Ex.succ ?_
    simp only [spec_decimal]
    unfold spec_decimal_B
    refine Ex.no (by rw [decide_eq_false (by omega)]; rfl) (Ex.no (decide_eq_false (by omega)) ?_)
    by_cases h : u < 10
    · refine Ex.yes (decide_eq_true (by omega)) (Ex.ret ?_)
      rw [w64_id (by omega) (by omega), u8wrap (by omega) (by omega), dig_small h]
      show [UInt8.ofNat (48 + (u : Int)).toNat] = _
      congr 2
    · have e1 : ((u : Int)).tdiv 10 = ((u / 10 : Nat) : Int) := by rw [Int.tdiv_eq_ediv_of_nonneg (by omega)]; omega
      have e2 : ((u : Int)).tmod 10 = ((u % 10 : Nat) : Int) := by rw [Int.tmod_eq_emod_of_nonneg (by omega)]; omega
      have hlen := digits_len 19 (u / 10) (by omega)
      refine Ex.no (decide_eq_false (by omega)) ?_
      rw [e1, e2, w64_id (n := ((u / 10 : Nat) : Int)) (by omega) (by omega), w64_id (n := 48 + ((u % 10 : Nat) : Int)) (by omega) (by omega), u8wrap (by omega) (by omega)]
      refine Ex.be (ih (u / 10) (by omega) (by omega)) (Ex.guard ?_ (Ex.ret ?_))
      · show (Lib.decDigits (u / 10)).length + 1 ≤ _
        omega
      · rw [dig_big h]
        show _ ++ [UInt8.ofNat (48 + ((u % 10 : Nat) : Int)).toNat] = _
        congr 3
theorem decimal_ex {x : Int} (h0 : -9223372036854775807 ≤ x) (h1 : x ≤ 9223372036854775807) : Ex (fun n => spec_decimal n x) (· = Lib.itoa x) := by
  rcases Int.lt_or_le x 0 with h | h
  · refine Ex.succ ?_
    simp only [spec_decimal]
    unfold spec_decimal_B
    have e : w64 (0 - x) = ((x.natAbs : Nat) : Int) := by rw [w64_id (by omega) (by omega)]; omega
    rw [e]
    have hlen := digits_len 19 x.natAbs (by omega)
    refine Ex.no (by rw [decide_eq_false (p := x = _) (by omega)]; simp) (Ex.yes (decide_eq_true h) (Ex.be (decNat_ex x.natAbs (by omega)) (Ex.guard (by simp; omega) (Ex.ret ?_))))
    unfold Lib.itoa
    rw [if_pos h]; rfl
  · obtain ⟨u, rfl⟩ : ∃ u : Nat, x = (u : Int) := ⟨x.toNat, by omega⟩
    have := decNat_ex u (by omega)
    unfold Lib.itoa
    rw [if_neg (by omega), Int.toNat_natCast]
    exact this
theorem itoa_some {x : Int} (h0 : -9223372036854775808 ≤ x) (h1 : x ≤ 9223372036854775807) : strconv_Itoa x = some (Lib.itoa x) := by
  unfold strconv_Itoa
  rw [guardO_pos ⟨h0, h1⟩]
end
section
open Go
structure Rd (x1 : List Int) (k2 : Nat) : Prop where
  by_ : ∀ b ∈ x1, 0 ≤ b ∧ b ≤ 255
  le : k2 ≤ x1.length
  le2 : k2 ≤ 2000
theorem xor_small {a b : Int} (ha : 0 ≤ a) (ha2 : a < 4611686018427387904) (hb : 0 ≤ b) (hb2 : b < 4611686018427387904) :
    0 ≤ w64 (BitVec.ofInt 64 a ^^^ BitVec.ofInt 64 b).toNat := by
  rw [BitVec.toNat_xor, BitVec.toNat_ofInt, BitVec.toNat_ofInt]
  have e1 : (a % ((2 ^ 64 : Nat) : Int)).toNat = a.toNat := by
    rw [Int.emod_eq_of_lt ha (by omega)]
  have e2 : (b % ((2 ^ 64 : Nat) : Int)).toNat = b.toNat := by
    rw [Int.emod_eq_of_lt hb (by omega)]
  rw [e1, e2]
  have := Nat.xor_lt_two_pow (x := a.toNat) (y := b.toNat) (n := 62) (by omega) (by omega)
  rw [w64_id (by omega) (by omega)]
  omega
theorem byte_at {x1 : List Int} {k2 : Nat} (h : Rd x1 k2) (j : Nat) (hj : j < x1.length) : 0 ≤ x1.getD j 0 ∧ x1.getD j 0 ≤ 255 := h.by_ _ (getD_mem hj)
theorem pick_ok {x1 : List Int} {k2 : Nat} (h : Rd x1 k2) {i m : Int} (h0 : 0 ≤ i) (h1 : i ≤ 1000000000) (hm : m ≤ 1000000000) :
    ∃ r, spec_reader_pick x1 k2 i m = some r ∧ 0 ≤ r ∧ (1 ≤ m → r < m) ∧ (m < 1 → r = 0) := by
  have hle := h.le
  have hle2 := h.le2
  have e0 : w64 (w64 (i + 1) - 1) = i := by rw [w64_id (n := i + 1) (by omega) (by omega), w64_id (by omega) (by omega)]; omega
  unfold spec_reader_pick
  rw [e0]
  by_cases hm1 : m < 1
  · simp only [hm1, decide_true, Bool.true_or, iteO_true]
    exact ⟨0, rfl, by omega, by omega, fun _ => rfl⟩
  · by_cases hk : k2 = 0
    · subst hk
      simp only [Int.natCast_zero, decide_true, Bool.or_true, iteO_true]
      exact ⟨0, rfl, by omega, by omega, fun _ => rfl⟩
    · have e1 : (decide (m < 1) || decide (((k2 : Nat) : Int) = 0)) = false := by
        simp only [Bool.or_eq_false_iff, decide_eq_false_iff_not]; omega
      rw [e1]
      simp only [iteO_false]
      by_cases hlt : i < (k2 : Int)
      · rw [decide_eq_true hlt]
        simp only [iteO_true]
        obtain ⟨b1, b2⟩ := byte_at h i.toNat (by omega)
        rw [guardO_pos ⟨h0, hlt⟩, guardO_pos (by omega), w64_id (by omega) (by omega), Int.tmod_eq_emod_of_nonneg b1]
        exact ⟨_, rfl, Int.emod_nonneg _ (by omega), fun _ => Int.emod_lt_of_pos _ (by omega), by omega⟩
      · rw [decide_eq_false hlt]
        simp only [iteO_false]
        have d1 : ∀ z : Int, 0 ≤ z → 0 ≤ z.tmod (k2 : Int) ∧ z.tmod (k2 : Int) < (k2 : Int) := fun z hz => by
          rw [Int.tmod_eq_emod_of_nonneg hz]
          exact ⟨Int.emod_nonneg _ (by omega), Int.emod_lt_of_pos _ (by omega)⟩
        have e2 : w64 (w64 (i * 7) + 3) = i * 7 + 3 := by rw [w64_id (n := i * 7) (by omega) (by omega), w64_id (by omega) (by omega)]
        rw [e2]
        obtain ⟨p1, p2⟩ := d1 i h0
        obtain ⟨q1, q2⟩ := d1 (i * 7 + 3) (by omega)
        rw [guardO_pos (by omega), guardO_pos ⟨p1, p2⟩, guardO_pos (by omega), guardO_pos ⟨q1, q2⟩, guardO_pos (by omega), guardO_pos (by omega)]
        obtain ⟨a1, a2⟩ := byte_at h (i.tmod (k2 : Int)).toNat (by omega)
        obtain ⟨c1, c2⟩ := byte_at h ((i * 7 + 3).tmod (k2 : Int)).toNat (by omega)
        generalize x1.getD (i.tmod (k2 : Int)).toNat 0 = A at a1 a2 ⊢
        generalize x1.getD ((i * 7 + 3).tmod (k2 : Int)).toNat 0 = C at c1 c2 ⊢
        have t1 : 0 ≤ i.tdiv (k2 : Int) ∧ i.tdiv (k2 : Int) ≤ i := by
          rw [Int.tdiv_eq_ediv_of_nonneg h0]
          exact ⟨Int.ediv_nonneg h0 (by omega), Int.ediv_le_self _ h0⟩
        generalize i.tdiv (k2 : Int) = D at t1 ⊢
        obtain ⟨t1, t2⟩ := t1
        rw [w64_id (n := A) (by omega) (by omega), w64_id (n := A * 131) (by omega) (by omega), w64_id (n := C) (by omega) (by omega), w64_id (n := C * 1117) (by omega) (by omega), w64_id (n := A * 131 + C * 1117) (by omega) (by omega), w64_id (n := i * 29) (by omega) (by omega), w64_id (n := A * 131 + C * 1117 + i * 29) (by omega) (by omega), w64_id (n := D) (by omega) (by omega), w64_id (n := D * 53) (by omega) (by omega), w64_id (n := A * 131 + C * 1117 + i * 29 + D * 53) (by omega) (by omega)]
        generalize hS : A * 131 + C * 1117 + i * 29 + D * 53 = S
        have s1 : 0 ≤ S := by omega
        have s2 : S < 4611686018427387904 := by omega
        have s3 : 0 ≤ S.tdiv 64 ∧ S.tdiv 64 ≤ S := by
          rw [Int.tdiv_eq_ediv_of_nonneg s1]
          exact ⟨Int.ediv_nonneg s1 (by omega), Int.ediv_le_self _ s1⟩
        rw [w64_id (n := S.tdiv 64) (by omega) (by omega)]
        have := xor_small s1 s2 s3.1 (by omega)
        refine ⟨_, rfl, ?_, fun _ => ?_, by omega⟩
        · rw [Int.tmod_eq_emod_of_nonneg this]; exact Int.emod_nonneg _ (by omega)
        · rw [Int.tmod_eq_emod_of_nonneg this]; exact Int.emod_lt_of_pos _ (by omega)
/-- a pick among m numbers, and the reader's place behind it -/
theorem pick_ex {x1 : List Int} {k2 : Nat} (h : Rd x1 k2) {i m : Int} (h0 : 0 ≤ i) (h1 : i ≤ 1000000000) (hm : m ≤ 1000000000) (hp : 1 ≤ m) :
    Ex (fun _ => spec_reader_pick x1 k2 i m) (fun r => 0 ≤ r ∧ r < m) := by
  obtain ⟨r, e, r0, r1, _⟩ := pick_ok h h0 h1 hm
  exact Ex.const e ⟨r0, r1 hp⟩
theorem one_ex {x1 : List Int} {k2 : Nat} (h : Rd x1 k2) {i : Int} {l : List Int} (h0 : 0 ≤ i) (h1 : i ≤ 1000000000) (hl : l.length ≤ 1000000000) (hp : 1 ≤ l.length) :
    Ex (fun _ => spec_reader_one x1 k2 i l) (fun r => r.1 = i + 1 ∧ r.2 ∈ l) := by
  unfold spec_reader_one
  refine Ex.bind (pick_ex h h0 h1 (by omega) (by omega)) (fun r hr => ?_)
  refine Ex.guard ⟨hr.1, hr.2⟩ ?_
  exact Ex.ret ⟨w64_id (by omega) (by omega), getD_mem (by omega)⟩
theorem newReader_ex {x1 : List Int} (h : ∀ b ∈ x1, 0 ≤ b ∧ b ≤ 255) (hl : x1.length ≤ 1000000000) : Ex (fun _ => spec_newReader x1) (fun k => Rd x1 k) := by
  unfold spec_newReader
  refine Ex.bind (P := fun k => Rd x1 k) ?_ (fun k hk => Ex.ret hk)
  refine Ex.ite (fun hb => ?_) (fun hb => ?_)
  · have := of_decide_eq_true hb
    refine Ex.guard (by omega) (Ex.ret ⟨h, by omega, Nat.le_refl _⟩)
  · have := of_decide_eq_false hb
    exact Ex.ret ⟨h, Nat.le_refl _, by omega⟩
end
section
open Go
set_option linter.unusedVariables false
/-- two modes that may be held together -/
def gs (a b : Int) : Bool :=
  if (if b < a then b else a) = 0 then true else if (if b < a then b else a) = 1 then !decide ((if b > a then b else a) = 5)
  else if (if b < a then b else a) = 2 then decide ((if b > a then b else a) = 2) else if (if b < a then b else a) = 3 then decide ((if b > a then b else a) = 3) else false
theorem gs_symm (a b : Int) : gs a b = gs b a := by
  have h1 : (if b < a then b else a) = (if a < b then a else b) := by split <;> split <;> omega
  have h2 : (if b > a then b else a) = (if a > b then a else b) := by split <;> split <;> omega
  unfold gs
  rw [h1, h2]
theorem specGo (a b : Int) : spec_goTogether a b = some (gs a b) := by
  unfold spec_goTogether gs
  simp only [iteO_eq, decide_eq_true_eq]
  repeat' split
  all_goals first | rfl | contradiction
theorem implGo {a b : Int} (ha : 1 ≤ a ∧ a ≤ 5) (hb : 1 ≤ b ∧ b ≤ 5) : impl_GoTogether a b = some (gs a b) := by
  have h1 : a = 1 ∨ a = 2 ∨ a = 3 ∨ a = 4 ∨ a = 5 := by omega
  have h2 : b = 1 ∨ b = 2 ∨ b = 3 ∨ b = 4 ∨ b = 5 := by omega
  rcases h1 with rfl | rfl | rfl | rfl | rfl <;> rcases h2 with rfl | rfl | rfl | rfl | rfl <;> decide
def joinM (a b : Int) : Int := if ((decide ((if b < a then b else a) = 2)) && (decide ((if b > a then b else a) = 3))) = true then 4 else (if b > a then b else a)
theorem specJoin (a b : Int) : spec_joined a b = some (joinM a b) := by
  unfold spec_joined joinM
  rw [iteO_eq]
  by_cases h : ((decide ((if b < a then b else a) = 2)) && (decide ((if b > a then b else a) = 3))) = true
  · rw [if_pos h, if_pos h]
  · rw [if_neg h, if_neg h]
def okL (x : Lck) : Bool := impl_isAsk x.who x.node x.mode
theorem okL_iff {x : Lck} : okL x = true ↔ (0 ≤ x.who ∧ x.who ≤ 3) ∧ (0 ≤ x.node ∧ x.node ≤ 11) ∧ (1 ≤ x.mode ∧ x.mode ≤ 5) := by
  simp [okL, impl_isAsk, impl_within]
theorem specAsk (x : Lck) : (!(spec_inRange x.who 0 3) || (!(spec_inRange x.node 0 11) || !(spec_inRange x.mode 1 5))) = !okL x := by
  have : okL x = (spec_inRange x.who 0 3 && (spec_inRange x.node 0 11 && spec_inRange x.mode 1 5)) := rfl
  rw [this, Bool.not_and, Bool.not_and]
def clash (x y : Lck) : Bool := decide (x.node = y.node) && (decide (x.who = y.who) || !gs x.mode y.mode)
theorem clash_symm (x y : Lck) : clash x y = clash y x := by
  have h1 : decide (x.node = y.node) = decide (y.node = x.node) := by simp [eq_comm]
  have h2 : decide (x.who = y.who) = decide (y.who = x.who) := by simp [eq_comm]
  rw [clash, clash, gs_symm, h1, h2]
def okAt (t : List Lck) (i : Nat) : Prop := okL (t.getD i dlck) = true ∧ ∀ j, j < i → clash (t.getD j dlck) (t.getD i dlck) = false
def GoodL (t : List Lck) : Prop := ∀ i, i < t.length → okAt t i
def validB (t : List Lck) : Bool := decide (t.length ≤ 48) && (List.range t.length).all fun i => okL (t.getD i dlck) && (List.range i).all fun j => !clash (t.getD j dlck) (t.getD i dlck)
theorem validB_iff {t : List Lck} : validB t = true ↔ t.length ≤ 48 ∧ GoodL t := by
  unfold validB GoodL okAt
  simp only [Bool.and_eq_true, decide_eq_true_eq, all_range, Bool.not_eq_true']
theorem specTable2_ex {t : List Lck} (hl : t.length ≤ 1000000000) {i : Nat} (hi : i < t.length) :
    Ex (fun n => spec_validTable_L2 t (i : Int) n 0) (fun v => match v with | .inl _ => ¬ ∀ j, j < i → clash (t.getD j dlck) (t.getD i dlck) = false | .inr _ => ∀ j, j < i → clash (t.getD j dlck) (t.getD i dlck) = false) := by
  refine upU i (fun k => ∀ j, j < k → clash (t.getD j dlck) (t.getD i dlck) = false) (f := fun n j => spec_validTable_L2 t (i : Int) n j) ?_ ?_ 0 (Nat.zero_le _) (fun j hj => by omega)
  · intro k hk hinv next
    simp only [spec_validTable_L2, Int.toNat_natCast]
    refine Ex.yes (decide_eq_true (by omega)) (Ex.guard (by omega) (Ex.guard (by omega) (Ex.be (a := clash (t.getD k dlck) (t.getD i dlck)) ?_ ?_)))
    · refine Ex.ite (fun hb => ?_) (fun hb => Ex.ret (by rw [clash, hb]; rfl))
      refine Ex.guard (by omega) (Ex.guard (by omega) (Ex.ite (fun hc => Ex.ret (by rw [clash, hb, hc]; rfl)) (fun hc => ?_)))
      refine Ex.guard (by omega) (Ex.guard (by omega) (Ex.bc (specGo _ _) (Ex.ret ?_)))
      rw [clash, hb, hc]; rfl
    · rw [w64_succ (by omega)]
      refine Ex.ite (fun hb => Ex.ret fun h => by rw [h k hk] at hb; cases hb) (fun hb => next fun j hj => ?_)
      rcases Nat.eq_or_lt_of_le (Nat.le_of_lt_succ hj) with rfl | h
      · exact hb
      · exact hinv j h
  · intro hinv
    simp only [spec_validTable_L2]
    exact Ex.no (decide_eq_false (by omega)) (Ex.ret hinv)
theorem specTable_ex {t : List Lck} (hl : t.length ≤ 1000000000) : Ex (fun n => spec_validTable n t) (· = validB t) := by
  unfold spec_validTable
  refine Ex.bind (P := fun v => match v with | .inl _ => ¬ GoodL t | .inr _ => GoodL t) ?_ ?_
  · refine upU t.length (fun k => ∀ j, j < k → okAt t j) (f := fun n i => spec_validTable_L1 t n i) ?_ ?_ 0 (Nat.zero_le _) (fun j hj => by omega)
    · intro k hk hinv next
      simp only [spec_validTable_L1, Int.toNat_natCast]
      refine Ex.yes (decide_eq_true (by omega)) (Ex.guard (by omega) (Ex.be (a := !okL (t.getD k dlck)) ?_ ?_))
      · rw [← specAsk]
        refine Ex.ite (fun hb => Ex.ret (by rw [hb]; rfl)) (fun hb => ?_)
        rw [hb, Bool.false_or]
        refine Ex.guard (by omega) (Ex.ite (fun hc => Ex.ret (by rw [hc]; rfl)) (fun hc => ?_))
        rw [hc, Bool.false_or]
        exact Ex.guard (by omega) (Ex.ret rfl)
      · refine Ex.ite (fun hb => Ex.ret fun h => by rw [(h k hk).1] at hb; cases hb) (fun hb => ?_)
        refine Ex.bind (specTable2_ex hl hk) ?_
        rintro (u | u) hu
        · exact Ex.ret fun h => hu (h k hk).2
        · rw [w64_succ (by omega)]
          refine next fun j hj => ?_
          rcases Nat.eq_or_lt_of_le (Nat.le_of_lt_succ hj) with rfl | h
          · exact ⟨notF hb, hu⟩
          · exact hinv j h
    · intro hinv
      simp only [spec_validTable_L1]
      exact Ex.no (decide_eq_false (by omega)) (Ex.ret hinv)
  · rintro (u | u) hu
    · refine Ex.ret ?_
      cases hv : validB t with
      | false => rfl
      | true => exact absurd (validB_iff.1 hv).2 hu
    · refine Ex.ret ?_
      have : validB t = decide (t.length ≤ 48) := by
        by_cases h : t.length ≤ 48
        · rw [decide_eq_true h]; exact validB_iff.2 ⟨h, hu⟩
        · rw [decide_eq_false h]
          cases hv : validB t with
          | false => rfl
          | true => exact absurd (validB_iff.1 hv).1 h
      rw [this]
      simp
      omega
theorem implTable2_ex {t : List Lck} {i : Nat} (hi : i < t.length) (hl : t.length ≤ 48) (ho : ∀ j, j ≤ i → okL (t.getD j dlck) = true) :
    Ex (fun n => impl_ValidTable_L2 t (i : Int) n 0) (fun v => match v with | .inl _ => ¬ ∀ j, j < i → clash (t.getD j dlck) (t.getD i dlck) = false | .inr _ => ∀ j, j < i → clash (t.getD j dlck) (t.getD i dlck) = false) := by
  refine upU i (fun k => ∀ j, j < k → clash (t.getD j dlck) (t.getD i dlck) = false) (f := fun n j => impl_ValidTable_L2 t (i : Int) n j) ?_ ?_ 0 (Nat.zero_le _) (fun j hj => by omega)
  · intro k hk hinv next
    simp only [impl_ValidTable_L2, Int.toNat_natCast]
    refine Ex.yes (decide_eq_true (by omega)) (Ex.guard (by omega) (Ex.be (a := clash (t.getD k dlck) (t.getD i dlck)) ?_ ?_))
    · rw [clash_symm]
      refine Ex.ite (fun hb => ?_) (fun hb => Ex.ret (by rw [clash, hb]; rfl))
      refine Ex.ite (fun hc => Ex.ret (by rw [clash, hb, hc]; rfl)) (fun hc => ?_)
      refine Ex.bc (implGo (okL_iff.1 (ho i (Nat.le_refl _))).2.2 (okL_iff.1 (ho k (by omega))).2.2) (Ex.ret ?_)
      rw [clash, hb, hc]; rfl
    · rw [w64_succ (by omega)]
      refine Ex.ite (fun hb => Ex.ret fun h => by rw [h k hk] at hb; cases hb) (fun hb => next fun j hj => ?_)
      rcases Nat.eq_or_lt_of_le (Nat.le_of_lt_succ hj) with rfl | h
      · exact hb
      · exact hinv j h
  · intro hinv
    simp only [impl_ValidTable_L2, Int.toNat_natCast]
    exact Ex.no (decide_eq_false (by omega)) (Ex.ret hinv)
theorem implTable_ex (t : List Lck) : Ex (fun n => impl_ValidTable n t) (· = validB t) := by
  unfold impl_ValidTable
  refine Ex.ite (fun hb => Ex.ret ?_) (fun hb => ?_)
  · have := of_decide_eq_true hb
    cases hv : validB t with
    | false => rfl
    | true => have := (validB_iff.1 hv).1; omega
  have hl : t.length ≤ 48 := by have := of_decide_eq_false hb; omega
  refine Ex.bind (P := fun v => match v with | .inl _ => ¬ GoodL t | .inr _ => GoodL t) ?_ ?_
  · refine upU t.length (fun k => ∀ j, j < k → okAt t j) (f := fun n i => impl_ValidTable_L1 t n i) ?_ ?_ 0 (Nat.zero_le _) (fun j hj => by omega)
    · intro k hk hinv next
      simp only [impl_ValidTable_L1, Int.toNat_natCast]
      refine Ex.yes (decide_eq_true (by omega)) (Ex.guard (by omega) (Ex.ite (fun hb => Ex.ret fun h => ?_) (fun hb => ?_)))
      · have := (h k hk).1
        rw [okL] at this
        rw [this] at hb; cases hb
      · have hok : okL (t.getD k dlck) = true := notF hb
        refine Ex.guard (by omega) (Ex.bind (implTable2_ex hk hl (fun j hj => ?_)) ?_)
        · rcases Nat.eq_or_lt_of_le hj with rfl | h
          · exact hok
          · exact (hinv j h).1
        rintro (u | u) hu
        · exact Ex.ret fun h => hu (h k hk).2
        · rw [w64_succ (by omega)]
          refine next fun j hj => ?_
          rcases Nat.eq_or_lt_of_le (Nat.le_of_lt_succ hj) with rfl | h
          · exact ⟨hok, hu⟩
          · exact hinv j h
    · intro hinv
      simp only [impl_ValidTable_L1]
      exact Ex.no (decide_eq_false (by omega)) (Ex.ret hinv)
  · rintro (u | u) hu
    · refine Ex.ret ?_
      cases hv : validB t with
      | false => rfl
      | true => exact absurd (validB_iff.1 hv).2 hu
    · exact Ex.ret (validB_iff.2 ⟨hl, hu⟩).symm
/-- the text of a lock, of a table -/
def pl (x : Lck) : Str := Lib.itoa x.who ++ 32 :: (Lib.itoa x.node ++ 32 :: Lib.itoa x.mode)
def pcL (t : List Lck) (i : Nat) : Str := pl (t.getD i dlck)
def fmtL (t : List Lck) : Str := sepk (pcL t) t.length
def fmtLR (t : List Lck) : Str := if validB t = true then fmtL t else []
theorem pl_len {x : Lck} (h : okL x = true) : (pl x).length ≤ 17 := by
  have h := okL_iff.1 h
  have h1 := itoa_len (n := x.who) (by omega) (by omega)
  have h2 := itoa_len (n := x.node) (by omega) (by omega)
  have h3 := itoa_len (n := x.mode) (by omega) (by omega)
  rw [pl]; simp; omega
theorem pl_ne (x : Lck) : pl x ≠ [] := by rw [pl]; simp
theorem sepL_len {t : List Lck} (h : GoodL t) {k : Nat} (hk : k ≤ t.length) : (sepk (pcL t) k).length ≤ 19 * k := sepk_len (B := 17) (fun j hj => pl_len (h j (by omega)).1)
theorem specFmtL_ex {t : List Lck} (h : GoodL t) (hl : t.length ≤ 48) : Ex (fun n => spec_FormatLocks_L1 t n [] 0) (· = fmtL t) := by
  refine up t.length (fun k (s : Str) => s = sepk (pcL t) k) (f := fun n s i => spec_FormatLocks_L1 t n s i) ?_ ?_ 0 [] (Nat.zero_le _) rfl
  · rintro k _ hk rfl next
    have hs := sepL_len h (Nat.le_of_lt hk)
    have hp := pl_len (h k hk).1
    have ho := okL_iff.1 (h k hk).1
    simp only [spec_FormatLocks_L1, Int.toNat_natCast]
    refine Ex.yes (decide_eq_true (by omega)) (Ex.be (a := sepk (pcL t) k ++ if 0 < k then [59, 32] else []) ?_ ?_)
    · refine Ex.ite (fun hb => ?_) (fun hb => Ex.ret ?_)
      · have := of_decide_eq_true hb
        rw [if_pos (by omega)]
        exact Ex.guard (by simp; omega) (Ex.ret rfl)
      · have := of_decide_eq_false hb
        rw [if_neg (by omega), List.append_nil]
    · have hl2 : (sepk (pcL t) k ++ if 0 < k then [59, 32] else []).length ≤ 19 * k + 2 := by
        rw [List.length_append]; split <;> simp <;> omega
      generalize hg : (sepk (pcL t) k ++ if 0 < k then [59, 32] else []) = s at hl2 ⊢
      have h1 := itoa_len (n := (t.getD k dlck).who) (by omega) (by omega)
      have h2 := itoa_len (n := (t.getD k dlck).node) (by omega) (by omega)
      have h3 := itoa_len (n := (t.getD k dlck).mode) (by omega) (by omega)
      refine Ex.guard (by omega) (Ex.be (decimal_ex (by omega) (by omega)) (Ex.guard (by omega) (Ex.guard (by simp only [List.length_append, List.length_singleton]; omega) (Ex.guard (by omega) (Ex.be (decimal_ex (by omega) (by omega)) (Ex.guard (by simp only [List.length_append, List.length_singleton]; omega)
        (Ex.guard (by simp only [List.length_append, List.length_singleton]; omega) (Ex.guard (by omega) (Ex.be (decimal_ex (by omega) (by omega)) (Ex.guard (by simp only [List.length_append, List.length_singleton]; omega) ?_))))))))))
      rw [w64_succ (by omega)]
      refine next _ ?_
      rw [sepk, hg, pcL, pl]
      simp
  · rintro _ rfl
    simp only [spec_FormatLocks_L1]
    exact Ex.no (decide_eq_false (by omega)) (Ex.ret rfl)
theorem specLocks_ex {t : List Lck} (hl : t.length ≤ 1000000000) : Ex (fun n => spec_FormatLocks n t) (· = fmtLR t) := by
  unfold spec_FormatLocks fmtLR
  refine Ex.be (specTable_ex hl) ?_
  cases hv : validB t with
  | false => exact Ex.yes rfl (Ex.ret rfl)
  | true =>
    have h := validB_iff.1 hv
    rw [if_pos rfl]
    exact Ex.no rfl (Ex.be (specFmtL_ex h.2 h.1) (Ex.ret rfl))
theorem implLocks_ex (t : List Lck) : Ex (fun n => impl_FormatLocks n t) (· = fmtLR t) := by
  unfold impl_FormatLocks fmtLR
  refine Ex.be (implTable_ex t) ?_
  cases hv : validB t with
  | false => exact Ex.yes rfl (Ex.ret rfl)
  | true =>
    obtain ⟨hl, h⟩ := validB_iff.1 hv
    rw [if_pos rfl]
    refine Ex.no rfl (Ex.be (a := ib (fmtL t)) ?_ (Ex.bc (bStr _) (Ex.ret rfl)))
    refine up t.length (fun k (x : List Int) => x = ib (sepk (pcL t) k)) (f := fun n x i => impl_FormatLocks_L1 t n x i) ?_ ?_ 0 [] (Nat.zero_le _) rfl
    · rintro k _ hk rfl next
      have hs := sepL_len h (Nat.le_of_lt hk)
      have ho := okL_iff.1 (h k hk).1
      simp only [impl_FormatLocks_L1, Int.toNat_natCast]
      refine Ex.yes (decide_eq_true (by omega)) (Ex.guard (by omega) (Ex.be (a := ib (sepk (pcL t) k ++ if 0 < k then [59, 32] else [])) ?_ ?_))
      · refine Ex.ite (fun hb => ?_) (fun hb => Ex.ret ?_)
        · have := of_decide_eq_true hb
          rw [if_pos (by omega)]
          exact Ex.bc (wStr (by simp; omega)) (Ex.ret rfl)
        · have := of_decide_eq_false hb
          rw [if_neg (by omega), List.append_nil]
      · have hl2 : (sepk (pcL t) k ++ if 0 < k then [59, 32] else []).length ≤ 19 * k + 2 := by
          rw [List.length_append]; split <;> simp <;> omega
        generalize hg : (sepk (pcL t) k ++ if 0 < k then [59, 32] else []) = s at hl2 ⊢
        have h1 := itoa_len (n := (t.getD k dlck).who) (by omega) (by omega)
        have h2 := itoa_len (n := (t.getD k dlck).node) (by omega) (by omega)
        have h3 := itoa_len (n := (t.getD k dlck).mode) (by omega) (by omega)
        refine Ex.bc (itoa_some (by omega) (by omega)) (Ex.bc (wStr (by omega)) (Ex.bc (wByte (by simp only [List.length_append]; omega) 32 rfl) (Ex.bc (itoa_some (by omega) (by omega)) (Ex.bc (wStr (by simp only [List.length_append, List.length_singleton]; omega))
          (Ex.bc (wByte (by simp only [List.length_append, List.length_singleton]; omega) 32 rfl) (Ex.bc (itoa_some (by omega) (by omega)) (Ex.bc (wStr (by simp only [List.length_append, List.length_singleton]; omega)) ?_)))))))
        rw [w64_succ (by omega)]
        refine next _ ?_
        rw [sepk, hg, pcL, pl]
        simp
    · rintro _ rfl
      simp only [impl_FormatLocks_L1]
      exact Ex.no (decide_eq_false (by omega)) (Ex.ret rfl)

/-! what is held, who is in the way, what is granted -/
def hitL (w n : Int) (x : Lck) : Bool := decide (x.who = w) && decide (x.node = n)
def heldL (w n : Int) : List Lck → Int
  | [] => 0
  | x :: t => if hitL w n x = true then x.mode else heldL w n t
theorem specHeld_ex {t : List Lck} (hl : t.length ≤ 1000000000) (w m : Int) : Ex (fun n => spec_held n t w m) (· = heldL w m t) := by
  unfold spec_held
  refine Ex.bind (P := fun v => (match v with | .inl x => x | .inr _ => 0) = heldL w m t) ?_ ?_
  · refine upU t.length (fun k => heldL w m (t.drop k) = heldL w m t) (f := fun n i => spec_held_L1 t w m n i) ?_ ?_ 0 (Nat.zero_le _) rfl
    · intro k hk hinv next
      rw [drop_at dlck hk, heldL] at hinv
      simp only [spec_held_L1, Int.toNat_natCast]
      refine Ex.yes (decide_eq_true (by omega)) (Ex.guard (by omega) (Ex.be (a := hitL w m (t.getD k dlck)) ?_ ?_))
      · refine Ex.ite (fun hb => Ex.guard (by omega) (Ex.ret (by rw [hitL, hb]; rfl))) (fun hb => Ex.ret (by rw [hitL, hb]; rfl))
      · refine Ex.ite (fun hb => Ex.guard (by omega) (Ex.ret ?_)) (fun hb => ?_)
        · rw [if_pos hb] at hinv
          exact hinv
        · rw [hb] at hinv
          rw [w64_succ (by omega)]
          exact next hinv
    · intro hinv
      simp only [spec_held_L1]
      refine Ex.no (decide_eq_false (by omega)) (Ex.ret ?_)
      rw [List.drop_length] at hinv
      exact hinv
  · rintro (u | u) hu
    · exact Ex.ret hu
    · exact Ex.ret hu
def blockL (t : List Lck) (w n m : Int) : List Int := [0, 1, 2, 3].filter fun v => !decide (v = w) && !gs (heldL v n t) m
theorem specBlock_ex {t : List Lck} (hl : t.length ≤ 1000000000) (w m d : Int) : Ex (fun n => spec_blockers n t w m d) (· = blockL t w m d) := by
  unfold spec_blockers
  refine Ex.be (a := blockL t w m d) ?_ (Ex.ret rfl)
  refine up 4 (fun k (x : List Int) => x = (([0, 1, 2, 3] : List Int).take k).filter fun v => !decide (v = w) && !gs (heldL v m t) d) (f := fun n x i => spec_blockers_L1 t w m d n x i) ?_ ?_ 0 [] (Nat.zero_le _) rfl
  · rintro k _ hk rfl next
    simp only [spec_blockers_L1]
    have hlen : ((([0, 1, 2, 3] : List Int).take k).filter fun v => !decide (v = w) && !gs (heldL v m t) d).length ≤ 4 := Nat.le_trans (List.length_filter_le _ _) (by simp; omega)
    have hst : ((([0, 1, 2, 3] : List Int).take (k + 1)).filter fun v => !decide (v = w) && !gs (heldL v m t) d) = ((([0, 1, 2, 3] : List Int).take k).filter fun v => !decide (v = w) && !gs (heldL v m t) d) ++ if (!decide ((k : Int) = w) && !gs (heldL k m t) d) = true then [(k : Int)] else [] := by
      have e : ([0, 1, 2, 3] : List Int)[k]? = some (k : Int) := by
        have : k = 0 ∨ k = 1 ∨ k = 2 ∨ k = 3 := by omega
        rcases this with rfl | rfl | rfl | rfl <;> rfl
      rw [List.take_add_one, e, List.filter_append]
      congr 1
      simp only [Option.toList, List.filter_cons, List.filter_nil]
    refine Ex.yes (decide_eq_true (by omega)) (Ex.be (a := !decide ((k : Int) = w) && !gs (heldL k m t) d) ?_ ?_)
    · refine Ex.ite (fun hb => ?_) (fun hb => Ex.ret (by rw [hb]; rfl))
      exact Ex.be (specHeld_ex hl _ _) (Ex.bc (specGo _ _) (Ex.ret (by rw [hb]; rfl)))
    · rw [w64_succ (by omega)]
      refine Ex.be (a := (([0, 1, 2, 3] : List Int).take (k + 1)).filter fun v => !decide (v = w) && !gs (heldL v m t) d) ?_ (next _ rfl)
      rw [hst]
      refine Ex.ite (fun hb => ?_) (fun hb => Ex.ret ?_)
      · rw [if_pos hb]
        exact Ex.guard (by simp; omega) (Ex.ret (by simp))
      · rw [hb, if_neg (by simp), List.append_nil]
  · rintro _ rfl
    simp only [spec_blockers_L1]
    exact Ex.no (decide_eq_false (by omega)) (Ex.ret rfl)
def grantL (w n m : Int) : List Lck → List Lck
  | [] => [⟨w, n, m⟩]
  | x :: t => if hitL w n x = true then ⟨x.who, x.node, joinM x.mode m⟩ :: t else x :: grantL w n m t
theorem grant_len (w n m : Int) : ∀ t, (grantL w n m t).length ≤ t.length + 1
  | [] => by simp [grantL]
  | x :: t => by
    have := grant_len w n m t
    rw [grantL]
    split <;> simp <;> omega
theorem set_split {α : Type} (d : α) : ∀ {xs : List α} {k : Nat} (y : α), k < xs.length → xs.set k y = xs.take k ++ y :: xs.drop (k + 1)
  | [], k, y, h => by simp at h
  | x :: xs, 0, y, h => rfl
  | x :: xs, k + 1, y, h => by
    rw [List.set_cons_succ, set_split d y (by simpa using h)]; rfl
theorem specGrant_ex {t : List Lck} (hl : t.length ≤ 1000000000) (w m d : Int) : Ex (fun n => spec_grant n t w m d) (· = grantL w m d t) := by
  unfold spec_grant
  have e : ([] : List Lck) ++ (t.drop 0).take t.length = t := by simp
  simp only [e]
  refine Ex.guard (by simp; omega) ?_
  refine Ex.bind (P := fun v => (match v with | .inl x => x | .inr _ => t ++ [⟨w, m, d⟩]) = grantL w m d t) ?_ ?_
  · refine upU t.length (fun k => t.take k ++ grantL w m d (t.drop k) = grantL w m d t) (f := fun n i => spec_grant_L1 w m d t n i) ?_ ?_ 0 (Nat.zero_le _) rfl
    · intro k hk hinv next
      rw [drop_at dlck hk, grantL] at hinv
      simp only [spec_grant_L1, Int.toNat_natCast, e]
      refine Ex.yes (decide_eq_true (by omega)) (Ex.guard (by omega) (Ex.be (a := hitL w m (t.getD k dlck)) ?_ ?_))
      · refine Ex.ite (fun hb => Ex.guard (by omega) (Ex.ret (by rw [hitL, hb]; rfl))) (fun hb => Ex.ret (by rw [hitL, hb]; rfl))
      · refine Ex.ite (fun hb => Ex.guard (by omega) (Ex.bc (specJoin _ _) (Ex.guard (by omega) (Ex.ret ?_)))) (fun hb => ?_)
        · rw [if_pos hb] at hinv
          simp only
          rw [set_split dlck _ hk]
          exact hinv
        · rw [hb, if_neg (by simp)] at hinv
          rw [w64_succ (by omega)]
          refine next ?_
          rw [List.take_add_one]
          have e2 : t[k]? = some (t.getD k dlck) := by rw [List.getD_eq_getElem?_getD, List.getElem?_eq_getElem hk]; rfl
          rw [e2, Option.toList, List.append_assoc]
          exact hinv
    · intro hinv
      simp only [spec_grant_L1, e]
      refine Ex.no (decide_eq_false (by omega)) (Ex.ret ?_)
      rw [List.drop_length, List.take_length, grantL] at hinv
      exact hinv
  · rintro (u | u) hu
    · exact Ex.ret hu
    · exact Ex.guard (by simp; omega) (Ex.ret (by simpa using hu))
/-- an ask for a lock -/
def askL (t : List Lck) (w n m : Int) : Bool := validB t && okL ⟨w, n, m⟩
def takeL (t : List Lck) (w n m : Int) : List Lck × Bool :=
  if askL t w n m = true ∧ blockL t w n (joinM (heldL w n t) m) = [] then (grantL w n m t, true) else ([], false)
theorem specTake_ex {t : List Lck} (hl : t.length ≤ 1000000000) (w m d : Int) : Ex (fun n => spec_TakeLock n t w m d) (· = takeL t w m d) := by
  unfold spec_TakeLock
  have hask : Ex (fun n => spec_validAsk n t w m d) (· = askL t w m d) := by
    unfold spec_validAsk
    exact Ex.be (specTable_ex hl) (Ex.ret rfl)
  refine Ex.be hask ?_
  refine Ex.be (a := !decide (askL t w m d = true ∧ blockL t w m (joinM (heldL w m t) d) = [])) ?_ ?_
  · refine Ex.ite (fun hb => Ex.ret ?_) (fun hb => ?_)
    · rw [notT hb]; simp
    · rw [notF hb]
      refine Ex.be (specHeld_ex hl _ _) (Ex.bc (specJoin _ _) (Ex.be (specBlock_ex hl _ _ _) (Ex.ret ?_)))
      cases blockL t w m (joinM (heldL w m t) d) with
      | nil => simp
      | cons a l => simp
  · unfold takeL
    refine Ex.ite (fun hb => Ex.ret ?_) (fun hb => ?_)
    · rw [if_neg (of_decide_eq_false (notT hb))]
    · rw [if_pos (of_decide_eq_true (notF hb))]
      exact Ex.be (specGrant_ex hl _ _ _) (Ex.ret rfl)
theorem takeL_len (t : List Lck) (w n m : Int) : (takeL t w n m).1.length ≤ t.length + 1 := by
  rw [takeL]
  split
  · exact grant_len w n m t
  · simp
end
section
open Go
set_option linter.unusedVariables false
theorem someTable_loop {x1 : List Int} {k2 : Nat} (h : Rd x1 k2) : ∀ (m : Nat) (i : Int) (t : List Lck), 0 ≤ i → i + 3 * m ≤ 800000000 → t.length + m ≤ 100 →
    Ex (fun n => spec_someTable_L1 k2 x1 n i t (m : Int)) (fun r => i ≤ r.1 ∧ r.1 ≤ i + 3 * m ∧ r.2.length ≤ t.length + m)
  | 0, i, t, h0, h1, ht => by
    refine Ex.succ ?_
    simp only [spec_someTable_L1]
    exact Ex.no rfl (Ex.ret ⟨Int.le_refl _, by omega, by simp⟩)
  | m + 1, i, t, h0, h1, ht => by
    refine Ex.succ ?_
    simp only [spec_someTable_L1]
    rw [w64_id (n := i + 1) (by omega) (by omega), w64_id (n := i + 1 + 1) (by omega) (by omega), w64_id (n := i + 1 + 1 + 1) (by omega) (by omega)]
    refine Ex.yes (decide_eq_true (by omega)) ?_
    refine Ex.bind (pick_ex h h0 (by omega) (by omega) (by omega)) (fun a ha => ?_)
    refine Ex.bind (pick_ex h (by omega) (by omega) (by omega) (by omega)) (fun b hb => ?_)
    refine Ex.bind (pick_ex h (by omega) (by omega) (by omega) (by omega)) (fun c hc => ?_)
    refine Ex.be (specTake_ex (by omega) a b (w64 (1 + c))) ?_
    have hg := takeL_len t a b (w64 (1 + c))
    generalize takeL t a b (w64 (1 + c)) = r at hg
    obtain ⟨t', q⟩ := r
    simp only at hg ⊢
    refine Ex.be (a := if q = true then t' else t) ?_ ?_
    · cases q with
      | true => exact Ex.yes rfl (Ex.ret rfl)
      | false => exact Ex.no rfl (Ex.ret rfl)
    · have e : w64 (((m + 1 : Nat) : Int) - 1) = (m : Int) := by rw [w64_id (by omega) (by omega)]; omega
      have hl : (if q = true then t' else t).length ≤ t.length + 1 := by split <;> omega
      rw [e]
      refine Ex.mono (someTable_loop h m _ _ (by omega) (by omega) (by omega)) ?_
      rintro r ⟨h2, h3, h4⟩
      exact ⟨by omega, by omega, by omega⟩
theorem someTable_ex {x1 : List Int} {k2 : Nat} (h : Rd x1 k2) {i : Int} (h0 : 0 ≤ i) (h1 : i ≤ 700000000) : Ex (fun n => spec_someTable n x1 k2 i) (fun r => i ≤ r.1 ∧ r.1 ≤ i + 100 ∧ r.2.length ≤ 24) := by
  unfold spec_someTable
  refine Ex.bind (one_ex h h0 (by omega) (by simp) (by simp)) ?_
  rintro ⟨j, c⟩ ⟨hj, hc⟩
  simp only at hj hc ⊢
  subst hj
  obtain ⟨m, rfl, hm⟩ : ∃ m : Nat, c = (m : Int) ∧ m ≤ 24 := by
    simp only [List.mem_cons, List.not_mem_nil, or_false] at hc
    exact ⟨c.toNat, by omega, by omega⟩
  refine Ex.bind (someTable_loop h m (i + 1) [] (by omega) (by omega) (by simp; omega)) ?_
  rintro ⟨j, t⟩ ⟨h2, h3, h4⟩
  simp only [List.length_nil] at h2 h3 h4
  exact Ex.ret ⟨by omega, by omega, by simp only; omega⟩
theorem anyTable_ex {x1 : List Int} {k2 : Nat} (h : Rd x1 k2) {i : Int} (h0 : 0 ≤ i) (h1 : i ≤ 600000000) : Ex (fun n => spec_anyTable n x1 k2 i) (fun r => i ≤ r.1 ∧ r.1 ≤ i + 200 ∧ r.2.length ≤ 25) := by
  unfold spec_anyTable
  refine Ex.bind (someTable_ex h h0 (by omega)) ?_
  rintro ⟨j, t⟩ ⟨h2, h3, h4⟩
  simp only at h2 h3 h4 ⊢
  refine Ex.bind (pick_ex h (by omega) (by omega) (by omega) (by omega)) (fun a ha => ?_)
  rw [w64_id (n := j + 1) (by omega) (by omega)]
  refine Ex.bind (P := fun r => i ≤ r.1 ∧ r.1 ≤ i + 200 ∧ r.2.length ≤ 25) (Ex.ite (fun _ => ?_) (fun _ => Ex.ret ⟨by omega, by omega, by simp only; omega⟩)) (fun r hr => Ex.ret hr)
  refine Ex.bind (one_ex h (by omega) (by omega) (by simp) (by simp)) ?_
  rintro ⟨j1, a1⟩ ⟨e1, _⟩
  simp only at e1 ⊢
  refine Ex.bind (one_ex h (by omega) (by omega) (by simp) (by simp)) ?_
  rintro ⟨j2, a2⟩ ⟨e2, _⟩
  simp only at e2 ⊢
  refine Ex.bind (one_ex h (by omega) (by omega) (by simp) (by simp)) ?_
  rintro ⟨j3, a3⟩ ⟨e3, _⟩
  simp only at e3 ⊢
  exact Ex.guard (by simp; omega) (Ex.ret ⟨by omega, by omega, by simp; omega⟩)
theorem drawLocks_ex {x1 : List Int} (h : x1.length ≤ 1048576) (hb : ∀ b ∈ x1, 0 ≤ b ∧ b ≤ 255) : Ex (fun n => spec_DrawFormatLocks n x1) (fun t => t.length ≤ 25) := by
  unfold spec_DrawFormatLocks
  refine Ex.bind (newReader_ex hb (by omega)) (fun k hk => ?_)
  refine Ex.bind (anyTable_ex hk (Int.le_refl 0) (by omega)) ?_
  rintro ⟨i, t⟩ ⟨_, _, h2⟩
  exact Ex.ret h2
theorem law_FnLocksTextEmpty (x0 : List Int) (h0 : x0.length ≤ 9223372036854775807 ∧ ∀ x ∈ x0, RC.wf .u8 x) : ∃ n, laws_FnLocksTextEmpty n x0 = some true := by
  refine Ex.get ?_
  unfold laws_FnLocksTextEmpty
  refine Ex.code rfl (fun hl => ?_)
  refine Ex.bind (drawLocks_ex hl (u8_wf h0.2)) (fun t ht => ?_)
  have sp : ∀ {g : Nat → Str → Option Bool} {Q : Bool → Prop}, Ex (fun n => g n (fmtLR t)) Q → Ex (fun n => bindO (spec_FormatLocks n t) (g n)) Q := fun k => Ex.be (specLocks_ex (by omega)) k
  refine Ex.be (implLocks_ex t) (sp ?_)
  refine Ex.be (a := !validB t) (Ex.no (by simp) (Ex.be (implTable_ex t) (Ex.ret rfl))) ?_
  refine Ex.ite (fun _ => sp (Ex.ret (by simp))) (fun hb => Ex.ret ?_)
  have hv : validB t = true := notF hb
  rw [fmtLR, if_pos hv, fmtL]
  rcases Nat.eq_zero_or_pos t.length with h | h
  · rw [h]; rfl
  · have hne : sepk (pcL t) t.length ≠ [] := sepk_ne h (pl_ne _)
    rw [decide_eq_false hne, decide_eq_false (by omega)]; rfl
end
end Go.Proofs.YtiboohplkihhnaaDoor
