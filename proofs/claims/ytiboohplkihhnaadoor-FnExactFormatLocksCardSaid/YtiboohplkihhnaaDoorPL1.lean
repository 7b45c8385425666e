/- Plain facts for the law FnExactFormatLocks. Conditions: none. -/
import Derived.Test.YtiboohplkihhnaaDoorTLx
import Derived.Test.YtiboohplkihhnaaDoorTLzb
import Derived.Lib.ItoaNum
import Derived.Test.YtiboohplkihhnaaDoorTT
namespace Go.Proofs.YtiboohplkihhnaaDoor
section
open Go
theorem w64_id {n : Int} (h1 : -9223372036854775808 ≤ n) (h2 : n ≤ 9223372036854775807) : w64 n = n := by
  show IntKind.i64.wrap n = n
  unfold IntKind.wrap
  simp [IntKind.bits, IntKind.signed]
  omega
theorem w64_succ {k : Nat} (h : k < 1099511627776) : w64 ((k : Int) + 1) = ((k + 1 : Nat) : Int) := by
  rw [w64_id (by omega) (by omega)]; omega
end
section
open Go
/-- with enough fuel f comes to something that P holds of -/
def Ex {α : Type} (f : Nat → Option α) (P : α → Prop) : Prop := ∃ r, P r ∧ ∃ N, ∀ n, N ≤ n → f n = some r
theorem Ex.ret {α : Type} {P : α → Prop} {r : α} (h : P r) : Ex (fun _ => some r) P := ⟨r, h, 0, fun _ _ => rfl⟩
theorem Ex.mono {α : Type} {f : Nat → Option α} {P Q : α → Prop} (h : Ex f P) (k : ∀ r, P r → Q r) : Ex f Q := by
  obtain ⟨r, h1, h2⟩ := h; exact ⟨r, k r h1, h2⟩
theorem Ex.bind {α β : Type} {f : Nat → Option α} {g : Nat → α → Option β} {P : α → Prop} {Q : β → Prop} (h : Ex f P) (k : ∀ a, P a → Ex (fun n => g n a) Q) : Ex (fun n => bindO (f n) (g n)) Q := by
  obtain ⟨a, h1, N, h2⟩ := h
  obtain ⟨r, k1, M, k2⟩ := k a h1
  refine ⟨r, k1, max N M, fun n hn => ?_⟩
  show bindO (f n) (g n) = some r
  rw [h2 n (by omega)]
  exact k2 n (by omega)
/-- a call that comes to one value -/
theorem Ex.be {α β : Type} {f : Nat → Option α} {g : Nat → α → Option β} {a : α} {Q : β → Prop} (h : Ex f (· = a)) (k : Ex (fun n => g n a) Q) : Ex (fun n => bindO (f n) (g n)) Q := Ex.bind h (fun b hb => by subst hb; exact k)
/-- a call without fuel that comes to one value -/
theorem Ex.bc {α β : Type} {x : Option α} {g : Nat → α → Option β} {a : α} {Q : β → Prop} (h : x = some a) (k : Ex (fun n => g n a) Q) : Ex (fun n => bindO x (g n)) Q := by subst h; exact k
theorem Ex.guard {α : Type} {c : Prop} [Decidable c] {f : Nat → Option α} {P : α → Prop} (h : c) (k : Ex f P) : Ex (fun n => guardO c (f n)) P := by
  have : (fun n => guardO c (f n)) = f := by funext n; exact guardO_pos h
  rw [this]; exact k
theorem Ex.ite {α : Type} {b : Bool} {f g : Nat → Option α} {P : α → Prop} (h1 : b = true → Ex f P) (h2 : b = false → Ex g P) : Ex (fun n => iteO b (f n) (g n)) P := by
  cases b with
  | true => exact h1 rfl
  | false => exact h2 rfl
theorem Ex.yes {α : Type} {b : Bool} {f g : Nat → Option α} {P : α → Prop} (h : b = true) (k : Ex f P) : Ex (fun n => iteO b (f n) (g n)) P := by subst h; exact k
theorem Ex.no {α : Type} {b : Bool} {f g : Nat → Option α} {P : α → Prop} (h : b = false) (k : Ex g P) : Ex (fun n => iteO b (f n) (g n)) P := by subst h; exact k
theorem Ex.succ {α : Type} {f : Nat → Option α} {P : α → Prop} (h : Ex (fun n => f (n + 1)) P) : Ex f P := by
  obtain ⟨r, h1, N, h2⟩ := h
  refine ⟨r, h1, N + 1, fun n hn => ?_⟩
  obtain ⟨m, rfl⟩ : ∃ m, n = m + 1 := ⟨n - 1, by omega⟩
  exact h2 m (by omega)
theorem Ex.get {α : Type} {f : Nat → Option α} {r : α} (h : Ex f (· = r)) : ∃ n, f n = some r := by
  obtain ⟨a, rfl, N, h⟩ := h; exact ⟨N, h N (Nat.le_refl _)⟩
/-- a loop that goes over all elements -/
theorem fold_loop {ρ σ α : Type} (xs : List ρ) (d : ρ) (g : Nat → σ → ρ → σ) (inv : Nat → σ → Prop) {f : Nat → σ → Int → Option α} {fin : σ → α} {s0 : σ} (hi : inv 0 s0)
    (h1 : ∀ (k : Nat) (s : σ), k < xs.length → inv k s → inv (k + 1) (g k s (xs.getD k d)) ∧ ∀ Q : α → Prop, Ex (fun n => f n (g k s (xs.getD k d)) ((k + 1 : Nat) : Int)) Q → Ex (fun n => f (n + 1) s (k : Int)) Q)
    (h2 : ∀ s, inv xs.length s → Ex (fun n => f (n + 1) s (xs.length : Int)) (· = fin s)) : Ex (fun n => f n s0 0) (fun r => ∃ s, r = fin s ∧ inv xs.length s) := by
  have key : ∀ (m k : Nat) (s : σ), k + m = xs.length → inv k s → Ex (fun n => f n s (k : Int)) (fun r => ∃ s, r = fin s ∧ inv xs.length s) := by
    intro m
    induction m with
    | zero =>
      intro k s hk hs
      obtain rfl : k = xs.length := by omega
      exact Ex.succ (Ex.mono (h2 s hs) (fun r hr => ⟨s, hr, hs⟩))
    | succ m ih =>
      intro k s hk hs
      obtain ⟨h3, h4⟩ := h1 k s (by omega) hs
      exact Ex.succ (h4 _ (ih (k + 1) _ (by omega) h3))
  exact key xs.length 0 s0 (by omega) hi
/-- a loop that goes through without a change -/
theorem skip_loop {α : Type} (len : Nat) {f : Nat → Int → Option α} {B : α}
    (h1 : ∀ k : Nat, k < len → ∀ r, Ex (fun n => f n ((k + 1 : Nat) : Int)) (· = r) → Ex (fun n => f (n + 1) (k : Int)) (· = r))
    (h2 : Ex (fun n => f (n + 1) (len : Int)) (· = B)) : Ex (fun n => f n 0) (· = B) := by
  have key : ∀ (m k : Nat), k + m = len → Ex (fun n => f n (k : Int)) (· = B) := by
    intro m
    induction m with
    | zero =>
      intro k hk
      obtain rfl : k = len := by omega
      exact Ex.succ h2
    | succ m ih =>
      intro k hk
      exact Ex.succ (h1 k (by omega) _ (ih (k + 1) (by omega)))
  exact key len 0 (by omega)
/-- a loop that copies -/
theorem copy_ex {ρ : Type} (xs : List ρ) (d : ρ) {f : Nat → List ρ → Int → Option (List ρ)}
    (h1 : ∀ (k : Nat) (ys : List ρ), k < xs.length → ys.length = xs.length → ∀ Q : List ρ → Prop, Ex (fun n => f n (ys.set k (xs.getD k d)) ((k + 1 : Nat) : Int)) Q → Ex (fun n => f (n + 1) ys (k : Int)) Q)
    (h2 : ∀ ys, Ex (fun n => f (n + 1) ys (xs.length : Int)) (· = ys)) (ys : List ρ) (hy : ys.length = xs.length) : Ex (fun n => f n ys 0) (· = xs) := by
  have := fold_loop xs d (fun k s x => s.set k x) (fun k s => s.length = xs.length ∧ s.take k = xs.take k) (f := f) (fin := fun s => s) (s0 := ys) ⟨hy, rfl⟩ ?_ (fun s _ => h2 s)
  · refine Ex.mono this ?_
    rintro r ⟨s, rfl, h3, h4⟩
    rw [List.take_of_length_le (by omega), List.take_length] at h4
    exact h4
  · intro k s hk hs
    refine ⟨⟨by simpa using hs.1, ?_⟩, fun Q hQ => h1 k s hk hs.1 Q hQ⟩
    rw [List.take_add_one, List.take_add_one]
    have e1 : xs[k]? = some (xs.getD k d) := by rw [List.getD_eq_getElem?_getD, List.getElem?_eq_getElem hk]; rfl
    rw [e1, List.getElem?_set_self (by omega), List.take_set_of_le (Nat.le_refl k), hs.2]
end
section
open Go
/-- a loop with a state: what holds ahead of each round -/
theorem up {σ α : Type} (len : Nat) (inv : Nat → σ → Prop) {f : Nat → σ → Int → Option α} {Q : α → Prop}
    (h1 : ∀ (k : Nat) (s : σ), k < len → inv k s → (∀ s', inv (k + 1) s' → Ex (fun n => f n s' ((k + 1 : Nat) : Int)) Q) → Ex (fun n => f (n + 1) s (k : Int)) Q)
    (h2 : ∀ s, inv len s → Ex (fun n => f (n + 1) s (len : Int)) Q) (k : Nat) (s : σ) (hk : k ≤ len) (hi : inv k s) : Ex (fun n => f n s (k : Int)) Q := by
  have key : ∀ (m k : Nat) (s : σ), k + m = len → inv k s → Ex (fun n => f n s (k : Int)) Q := by
    intro m
    induction m with
    | zero =>
      intro k s hk hs
      obtain rfl : k = len := by omega
      exact Ex.succ (h2 s hs)
    | succ m ih =>
      intro k s hk hs
      exact Ex.succ (h1 k s (by omega) hs (fun s' hs' => ih (k + 1) s' (by omega) hs'))
  exact key (len - k) k s (by omega) hi
/-- the same without a state -/
theorem upU {α : Type} (len : Nat) (inv : Nat → Prop) {f : Nat → Int → Option α} {Q : α → Prop}
    (h1 : ∀ (k : Nat), k < len → inv k → (inv (k + 1) → Ex (fun n => f n ((k + 1 : Nat) : Int)) Q) → Ex (fun n => f (n + 1) (k : Int)) Q)
    (h2 : inv len → Ex (fun n => f (n + 1) (len : Int)) Q) (k : Nat) (hk : k ≤ len) (hi : inv k) : Ex (fun n => f n (k : Int)) Q :=
  up (σ := Unit) len (fun k _ => inv k) (f := fun n _ i => f n i) (fun k _ hk hi h => h1 k hk hi (fun h' => h () h')) (fun _ h => h2 h) k () hk hi
theorem notF {b : Bool} (h : (!b) = false) : b = true := by cases b; cases h; rfl
theorem all_range {n : Nat} {p : Nat → Bool} : (List.range n).all p = true ↔ ∀ j, j < n → p j = true := by
  simp [List.all_eq_true]
end
section
open Go
set_option linter.unusedVariables false
theorem u8wrap {x : Int} (h0 : 0 ≤ x) (h1 : x < 256) : IntKind.u8.wrap x = x := by
  unfold IntKind.wrap
  simp [IntKind.bits, IntKind.signed]
  omega
theorem dig_small {u : Nat} (h : u < 10) : Lib.decDigits u = [UInt8.ofNat (48 + u)] := by rw [Lib.decDigits, dif_pos h]
theorem dig_big {u : Nat} (h : ¬ u < 10) : Lib.decDigits u = Lib.decDigits (u / 10) ++ [UInt8.ofNat (48 + u % 10)] := by rw [Lib.decDigits, dif_neg h]
theorem digits_len : ∀ (k u : Nat), u < 10 ^ (k + 1) → (Lib.decDigits u).length ≤ k + 1
  | 0, u, h => by rw [dig_small (by simpa using h)]; simp
  | k + 1, u, h => by
    by_cases h1 : u < 10
    · rw [dig_small h1]; simp
    · rw [dig_big h1, List.length_append]
      have := digits_len k (u / 10) (by rw [Nat.pow_succ] at h; omega)
      simp; omega
theorem itoa_len {n : Int} (h0 : -1000 ≤ n) (h1 : n ≤ 1000) : (Lib.itoa n).length ≤ 5 := by
  unfold Lib.itoa
  split
  · have := digits_len 3 n.natAbs (by omega)
    simp; omega
  · have := digits_len 3 n.toNat (by omega)
    omega
/-- parts with a semicolon and a space between two of them -/
def sepk (f : Nat → Str) : Nat → Str
  | 0 => []
  | k + 1 => sepk f k ++ (if 0 < k then [59, 32] else []) ++ f k
theorem sepk_len {f : Nat → Str} {B : Nat} : ∀ {k : Nat}, (∀ j, j < k → (f j).length ≤ B) → (sepk f k).length ≤ (B + 2) * k
  | 0, _ => by simp [sepk]
  | k + 1, h => by
    have h1 := sepk_len (f := f) (B := B) (k := k) (fun j hj => h j (by omega))
    have h2 := h k (by omega)
    rw [sepk, List.length_append, List.length_append, Nat.mul_succ]
    split <;> simp <;> omega
end
section
open Go
set_option linter.unusedVariables false
def ib (s : Str) : List Int := s.map fun b => ((b.toNat : Nat) : Int)
theorem ib_app (a b : Str) : ib (a ++ b) = ib a ++ ib b := by simp [ib]
theorem bytes_ib (s : Str) : bytesOf (ib s) = s := by
  induction s with
  | nil => rfl
  | cons a s ih =>
    have : bytesOf (ib (a :: s)) = UInt8.ofNat ((a.toNat : Int)).toNat :: bytesOf (ib s) := rfl
    rw [this, ih, Int.toNat_natCast, UInt8.ofNat_toNat]
theorem ib_ok (s : Str) : ∀ x ∈ ib s, 0 ≤ x ∧ x ≤ 255 := by
  intro x hx
  obtain ⟨b, _, rfl⟩ := List.mem_map.1 hx
  have := UInt8.toNat_lt b
  omega
theorem ib_len (s : Str) : (ib s).length = s.length := by simp [ib]
theorem wByte {s : Str} (hs : s.length ≤ 1000000000000) (c : UInt8) {i : Int} (hi : i = (c.toNat : Int)) : strings_Builder_WriteByte (ib s) i = some (ib (s ++ [c])) := by
  unfold strings_Builder_WriteByte
  rw [guardO_pos ⟨rfl, rfl, by simp [ib]; omega⟩, ib_app, hi]; rfl
theorem wStr {s r : Str} (hs : s.length + r.length ≤ 1000000000000) : strings_Builder_WriteString (ib s) r = some (ib (s ++ r), (r.length : Int)) := by
  unfold strings_Builder_WriteString
  rw [guardO_pos ⟨rfl, rfl, by simp [ib]; omega⟩, ib_app]; rfl
theorem bStr (s : Str) : strings_Builder_String (ib s) = some (s.length, s) := by
  unfold strings_Builder_String
  rw [guardO_pos ⟨rfl, ib_ok s⟩, bytes_ib, ib_len]
end
section
open Go
set_option linter.unusedVariables false
theorem decNat_ex : ∀ (u : Nat), u ≤ 9223372036854775807 → Ex (fun n => spec_decimal n (u : Int)) (· = Lib.decDigits u) := by
  intro u
  induction u using Nat.strongRecOn with
  | ind u ih =>
    intro hu
    refine Ex.succ ?_
    simp only [spec_decimal]
    unfold spec_decimal_B
    refine Ex.no (by rw [decide_eq_false (by omega)]; rfl) (Ex.no (decide_eq_false (by omega)) ?_)
    by_cases h : u < 10
    · refine Ex.yes (decide_eq_true (by omega)) (Ex.ret ?_)
      rw [w64_id (by omega) (by omega), u8wrap (by omega) (by omega), dig_small h]
      show [UInt8.ofNat (48 + (u : Int)).toNat] = _
      congr 2
    · have e1 : ((u : Int)).tdiv 10 = ((u / 10 : Nat) : Int) := by rw [Int.tdiv_eq_ediv_of_nonneg (by omega)]; omega
      have e2 : ((u : Int)).tmod 10 = ((u % 10 : Nat) : Int) := by rw [Int.tmod_eq_emod_of_nonneg (by omega)]; omega
      have hlen := digits_len 19 (u / 10) (by omega)
      refine Ex.no (decide_eq_false (by omega)) ?_
      rw [e1, e2, w64_id (n := ((u / 10 : Nat) : Int)) (by omega) (by omega), w64_id (n := 48 + ((u % 10 : Nat) : Int)) (by omega) (by omega), u8wrap (by omega) (by omega)]
      refine Ex.be (ih (u / 10) (by omega) (by omega)) (Ex.guard ?_ (Ex.ret ?_))
      · show (Lib.decDigits (u / 10)).length + 1 ≤ _
        omega
      · rw [dig_big h]
        show _ ++ [UInt8.ofNat (48 + ((u % 10 : Nat) : Int)).toNat] = _
        congr 3
theorem decimal_ex {x : Int} (h0 : -9223372036854775807 ≤ x) (h1 : x ≤ 9223372036854775807) : Ex (fun n => spec_decimal n x) (· = Lib.itoa x) := by
  rcases Int.lt_or_le x 0 with h | h
  · refine Ex.succ ?_
    simp only [spec_decimal]
    unfold spec_decimal_B
    have e : w64 (0 - x) = ((x.natAbs : Nat) : Int) := by rw [w64_id (by omega) (by omega)]; omega
    rw [e]
    have hlen := digits_len 19 x.natAbs (by omega)
    refine Ex.no (by rw [decide_eq_false (p := x = _) (by omega)]; simp) (Ex.yes (decide_eq_true h) (Ex.be (decNat_ex x.natAbs (by omega)) (Ex.guard (by simp; omega) (Ex.ret ?_))))
    unfold Lib.itoa
    rw [if_pos h]; rfl
  · obtain ⟨u, rfl⟩ : ∃ u : Nat, x = (u : Int) := ⟨x.toNat, by omega⟩
    have := decNat_ex u (by omega)
    unfold Lib.itoa
    rw [if_neg (by omega), Int.toNat_natCast]
    exact this
theorem itoa_some {x : Int} (h0 : -9223372036854775808 ≤ x) (h1 : x ≤ 9223372036854775807) : strconv_Itoa x = some (Lib.itoa x) := by
  unfold strconv_Itoa
  rw [guardO_pos ⟨h0, h1⟩]
end
section
open Go
set_option linter.unusedVariables false
/-- two modes that may be held together -/
def gs (a b : Int) : Bool :=
  if (if b < a then b else a) = 0 then true else if (if b < a then b else a) = 1 then !decide ((if b > a then b else a) = 5)
  else if (if b < a then b else a) = 2 then decide ((if b > a then b else a) = 2) else if (if b < a then b else a) = 3 then decide ((if b > a then b else a) = 3) else false
theorem gs_symm (a b : Int) : gs a b = gs b a := by
  have h1 : (if b < a then b else a) = (if a < b then a else b) := by split <;> split <;> omega
  have h2 : (if b > a then b else a) = (if a > b then a else b) := by split <;> split <;> omega
  unfold gs
  rw [h1, h2]
theorem specGo (a b : Int) : spec_goTogether a b = some (gs a b) := by
  unfold spec_goTogether gs
  simp only [iteO_eq, decide_eq_true_eq]
  repeat' split
  all_goals first | rfl | contradiction
theorem implGo {a b : Int} (ha : 1 ≤ a ∧ a ≤ 5) (hb : 1 ≤ b ∧ b ≤ 5) : impl_GoTogether a b = some (gs a b) := by
  have h1 : a = 1 ∨ a = 2 ∨ a = 3 ∨ a = 4 ∨ a = 5 := by omega
  have h2 : b = 1 ∨ b = 2 ∨ b = 3 ∨ b = 4 ∨ b = 5 := by omega
  rcases h1 with rfl | rfl | rfl | rfl | rfl <;> rcases h2 with rfl | rfl | rfl | rfl | rfl <;> decide
def okL (x : Lck) : Bool := impl_isAsk x.who x.node x.mode
theorem okL_iff {x : Lck} : okL x = true ↔ (0 ≤ x.who ∧ x.who ≤ 3) ∧ (0 ≤ x.node ∧ x.node ≤ 11) ∧ (1 ≤ x.mode ∧ x.mode ≤ 5) := by
  simp [okL, impl_isAsk, impl_within]
theorem specAsk (x : Lck) : (!(spec_inRange x.who 0 3) || (!(spec_inRange x.node 0 11) || !(spec_inRange x.mode 1 5))) = !okL x := by
  have : okL x = (spec_inRange x.who 0 3 && (spec_inRange x.node 0 11 && spec_inRange x.mode 1 5)) := rfl
  rw [this, Bool.not_and, Bool.not_and]
def clash (x y : Lck) : Bool := decide (x.node = y.node) && (decide (x.who = y.who) || !gs x.mode y.mode)
theorem clash_symm (x y : Lck) : clash x y = clash y x := by
  have h1 : decide (x.node = y.node) = decide (y.node = x.node) := by simp [eq_comm]
  have h2 : decide (x.who = y.who) = decide (y.who = x.who) := by simp [eq_comm]
  rw [clash, clash, gs_symm, h1, h2]
def okAt (t : List Lck) (i : Nat) : Prop := okL (t.getD i dlck) = true ∧ ∀ j, j < i → clash (t.getD j dlck) (t.getD i dlck) = false
def GoodL (t : List Lck) : Prop := ∀ i, i < t.length → okAt t i
def validB (t : List Lck) : Bool := decide (t.length ≤ 48) && (List.range t.length).all fun i => okL (t.getD i dlck) && (List.range i).all fun j => !clash (t.getD j dlck) (t.getD i dlck)
theorem validB_iff {t : List Lck} : validB t = true ↔ t.length ≤ 48 ∧ GoodL t := by
  unfold validB GoodL okAt
  simp only [Bool.and_eq_true, decide_eq_true_eq, all_range, Bool.not_eq_true']
theorem specTable2_ex {t : List Lck} (hl : t.length ≤ 1000000000) {i : Nat} (hi : i < t.length) :
    Ex (fun n => spec_validTable_L2 t (i : Int) n 0) (fun v => match v with | .inl _ => ¬ ∀ j, j < i → clash (t.getD j dlck) (t.getD i dlck) = false | .inr _ => ∀ j, j < i → clash (t.getD j dlck) (t.getD i dlck) = false) := by
  refine upU i (fun k => ∀ j, j < k → clash (t.getD j dlck) (t.getD i dlck) = false) (f := fun n j => spec_validTable_L2 t (i : Int) n j) ?_ ?_ 0 (Nat.zero_le _) (fun j hj => by omega)
  · intro k hk hinv next
    simp only [spec_validTable_L2, Int.toNat_natCast]
    refine Ex.yes (decide_eq_true (by omega)) (Ex.guard (by omega) (Ex.guard (by omega) (Ex.be (a := clash (t.getD k dlck) (t.getD i dlck)) ?_ ?_)))
    · refine Ex.ite (fun hb => ?_) (fun hb => Ex.ret (by rw [clash, hb]; rfl))
      refine Ex.guard (by omega) (Ex.guard (by omega) (Ex.ite (fun hc => Ex.ret (by rw [clash, hb, hc]; rfl)) (fun hc => ?_)))
      refine Ex.guard (by omega) (Ex.guard (by omega) (Ex.bc (specGo _ _) (Ex.ret ?_)))
      rw [clash, hb, hc]; rfl
    · rw [w64_succ (by omega)]
      refine Ex.ite (fun hb => Ex.ret fun h => by rw [h k hk] at hb; cases hb) (fun hb => next fun j hj => ?_)
      rcases Nat.eq_or_lt_of_le (Nat.le_of_lt_succ hj) with rfl | h
      · exact hb
      · exact hinv j h
  · intro hinv
    simp only [spec_validTable_L2]
    exact Ex.no (decide_eq_false (by omega)) (Ex.ret hinv)
theorem specTable_ex {t : List Lck} (hl : t.length ≤ 1000000000) : Ex (fun n => spec_validTable n t) (· = validB t) := by
  unfold spec_validTable
  refine Ex.bind (P := fun v => match v with | .inl _ => ¬ GoodL t | .inr _ => GoodL t) ?_ ?_
  · refine upU t.length (fun k => ∀ j, j < k → okAt t j) (f := fun n i => spec_validTable_L1 t n i) ?_ ?_ 0 (Nat.zero_le _) (fun j hj => by omega)
    · intro k hk hinv next
      simp only [spec_validTable_L1, Int.toNat_natCast]
      refine Ex.yes (decide_eq_true (by omega)) (Ex.guard (by omega) (Ex.be (a := !okL (t.getD k dlck)) ?_ ?_))
      · rw [← specAsk]
        refine Ex.ite (fun hb => Ex.ret (by rw [hb]; rfl)) (fun hb => ?_)
        rw [hb, Bool.false_or]
        refine Ex.guard (by omega) (Ex.ite (fun hc => Ex.ret (by rw [hc]; rfl)) (fun hc => ?_))
        rw [hc, Bool.false_or]
        exact Ex.guard (by omega) (Ex.ret rfl)
      · refine Ex.ite (fun hb => Ex.ret fun h => by rw [(h k hk).1] at hb; cases hb) (fun hb => ?_)
        refine Ex.bind (specTable2_ex hl hk) ?_
        rintro (u | u) hu
        · exact Ex.ret fun h => hu (h k hk).2
        · rw [w64_succ (by omega)]
          refine next fun j hj => ?_
          rcases Nat.eq_or_lt_of_le (Nat.le_of_lt_succ hj) with rfl | h
          · exact ⟨notF hb, hu⟩
          · exact hinv j h
    · intro hinv
      simp only [spec_validTable_L1]
      exact Ex.no (decide_eq_false (by omega)) (Ex.ret hinv)
  · rintro (u | u) hu
    · refine Ex.ret ?_
      cases hv : validB t with
      | false => rfl
      | true => exact absurd (validB_iff.1 hv).2 hu
    · refine Ex.ret ?_
      have : validB t = decide (t.length ≤ 48) := by
        by_cases h : t.length ≤ 48
        · rw [decide_eq_true h]; exact validB_iff.2 ⟨h, hu⟩
        · rw [decide_eq_false h]
          cases hv : validB t with
          | false => rfl
          | true => exact absurd (validB_iff.1 hv).1 h
      rw [this]
      simp
      omega
theorem implTable2_ex {t : List Lck} {i : Nat} (hi : i < t.length) (hl : t.length ≤ 48) (ho : ∀ j, j ≤ i → okL (t.getD j dlck) = true) :
    Ex (fun n => impl_ValidTable_L2 t (i : Int) n 0) (fun v => match v with | .inl _ => ¬ ∀ j, j < i → clash (t.getD j dlck) (t.getD i dlck) = false | .inr _ => ∀ j, j < i → clash (t.getD j dlck) (t.getD i dlck) = false) := by
  refine upU i (fun k => ∀ j, j < k → clash (t.getD j dlck) (t.getD i dlck) = false) (f := fun n j => impl_ValidTable_L2 t (i : Int) n j) ?_ ?_ 0 (Nat.zero_le _) (fun j hj => by omega)
  · intro k hk hinv next
    simp only [impl_ValidTable_L2, Int.toNat_natCast]
    refine Ex.yes (decide_eq_true (by omega)) (Ex.guard (by omega) (Ex.be (a := clash (t.getD k dlck) (t.getD i dlck)) ?_ ?_))
    · rw [clash_symm]
      refine Ex.ite (fun hb => ?_) (fun hb => Ex.ret (by rw [clash, hb]; rfl))
      refine Ex.ite (fun hc => Ex.ret (by rw [clash, hb, hc]; rfl)) (fun hc => ?_)
      refine Ex.bc (implGo (okL_iff.1 (ho i (Nat.le_refl _))).2.2 (okL_iff.1 (ho k (by omega))).2.2) (Ex.ret ?_)
      rw [clash, hb, hc]; rfl
    · rw [w64_succ (by omega)]
      refine Ex.ite (fun hb => Ex.ret fun h => by rw [h k hk] at hb; cases hb) (fun hb => next fun j hj => ?_)
      rcases Nat.eq_or_lt_of_le (Nat.le_of_lt_succ hj) with rfl | h
      · exact hb
      · exact hinv j h
  · intro hinv
    simp only [impl_ValidTable_L2, Int.toNat_natCast]
    exact Ex.no (decide_eq_false (by omega)) (Ex.ret hinv)
theorem implTable_ex (t : List Lck) : Ex (fun n => impl_ValidTable n t) (· = validB t) := by
  unfold impl_ValidTable
  refine Ex.ite (fun hb => Ex.ret ?_) (fun hb => ?_)
  · have := of_decide_eq_true hb
    cases hv : validB t with
    | false => rfl
    | true => have := (validB_iff.1 hv).1; omega
  have hl : t.length ≤ 48 := by have := of_decide_eq_false hb; omega
  refine Ex.bind (P := fun v => match v with | .inl _ => ¬ GoodL t | .inr _ => GoodL t) ?_ ?_
  · refine upU t.length (fun k => ∀ j, j < k → okAt t j) (f := fun n i => impl_ValidTable_L1 t n i) ?_ ?_ 0 (Nat.zero_le _) (fun j hj => by omega)
    · intro k hk hinv next
      simp only [impl_ValidTable_L1, Int.toNat_natCast]
      refine Ex.yes (decide_eq_true (by omega)) (Ex.guard (by omega) (Ex.ite (fun hb => Ex.ret fun h => ?_) (fun hb => ?_)))
      · have := (h k hk).1
        rw [okL] at this
        rw [this] at hb; cases hb
      · have hok : okL (t.getD k dlck) = true := notF hb
        refine Ex.guard (by omega) (Ex.bind (implTable2_ex hk hl (fun j hj => ?_)) ?_)
        · rcases Nat.eq_or_lt_of_le hj with rfl | h
          · exact hok
          · exact (hinv j h).1
        rintro (u | u) hu
        · exact Ex.ret fun h => hu (h k hk).2
        · rw [w64_succ (by omega)]
          refine next fun j hj => ?_
          rcases Nat.eq_or_lt_of_le (Nat.le_of_lt_succ hj) with rfl | h
          · exact ⟨hok, hu⟩
          · exact hinv j h
    · intro hinv
      simp only [impl_ValidTable_L1]
      exact Ex.no (decide_eq_false (by omega)) (Ex.ret hinv)
  · rintro (u | u) hu
    · refine Ex.ret ?_
      cases hv : validB t with
      | false => rfl
      | true => exact absurd (validB_iff.1 hv).2 hu
    · exact Ex.ret (validB_iff.2 ⟨hl, hu⟩).symm
/-- the text of a lock, of a table -/
def pl (x : Lck) : Str := Lib.itoa x.who ++ 32 :: (Lib.itoa x.node ++ 32 :: Lib.itoa x.mode)
def pcL (t : List Lck) (i : Nat) : Str := pl (t.getD i dlck)
def fmtL (t : List Lck) : Str := sepk (pcL t) t.length
def fmtLR (t : List Lck) : Str := if validB t = true then fmtL t else []
theorem pl_len {x : Lck} (h : okL x = true) : (pl x).length ≤ 17 := by
  have h := okL_iff.1 h
  have h1 := itoa_len (n := x.who) (by omega) (by omega)
  have h2 := itoa_len (n := x.node) (by omega) (by omega)
  have h3 := itoa_len (n := x.mode) (by omega) (by omega)
  rw [pl]; simp; omega
theorem sepL_len {t : List Lck} (h : GoodL t) {k : Nat} (hk : k ≤ t.length) : (sepk (pcL t) k).length ≤ 19 * k := sepk_len (B := 17) (fun j hj => pl_len (h j (by omega)).1)
theorem specFmtL_ex {t : List Lck} (h : GoodL t) (hl : t.length ≤ 48) : Ex (fun n => spec_FormatLocks_L1 t n [] 0) (· = fmtL t) := by
  refine up t.length (fun k (s : Str) => s = sepk (pcL t) k) (f := fun n s i => spec_FormatLocks_L1 t n s i) ?_ ?_ 0 [] (Nat.zero_le _) rfl
  · rintro k _ hk rfl next
    have hs := sepL_len h (Nat.le_of_lt hk)
    have hp := pl_len (h k hk).1
    have ho := okL_iff.1 (h k hk).1
    simp only [spec_FormatLocks_L1, Int.toNat_natCast]
    refine Ex.yes (decide_eq_true (by omega)) (Ex.be (a := sepk (pcL t) k ++ if 0 < k then [59, 32] else []) ?_ ?_)
    · refine Ex.ite (fun hb => ?_) (fun hb => Ex.ret ?_)
      · have := of_decide_eq_true hb
        rw [if_pos (by omega)]
        exact Ex.guard (by simp; omega) (Ex.ret rfl)
      · have := of_decide_eq_false hb
        rw [if_neg (by omega), List.append_nil]
    · have hl2 : (sepk (pcL t) k ++ if 0 < k then [59, 32] else []).length ≤ 19 * k + 2 := by
        rw [List.length_append]; split <;> simp <;> omega
      generalize hg : (sepk (pcL t) k ++ if 0 < k then [59, 32] else []) = s at hl2 ⊢
      have h1 := itoa_len (n := (t.getD k dlck).who) (by omega) (by omega)
      have h2 := itoa_len (n := (t.getD k dlck).node) (by omega) (by omega)
      have h3 := itoa_len (n := (t.getD k dlck).mode) (by omega) (by omega)
      refine Ex.guard (by omega) (Ex.be (decimal_ex (by omega) (by omega)) (Ex.guard (by omega) (Ex.guard (by simp only [List.length_append, List.length_singleton]; omega) (Ex.guard (by omega) (Ex.be (decimal_ex (by omega) (by omega)) (Ex.guard (by simp only [List.length_append, List.length_singleton]; omega)
        (Ex.guard (by simp only [List.length_append, List.length_singleton]; omega) (Ex.guard (by omega) (Ex.be (decimal_ex (by omega) (by omega)) (Ex.guard (by simp only [List.length_append, List.length_singleton]; omega) ?_))))))))))
      rw [w64_succ (by omega)]
      refine next _ ?_
      rw [sepk, hg, pcL, pl]
      simp
  · rintro _ rfl
    simp only [spec_FormatLocks_L1]
    exact Ex.no (decide_eq_false (by omega)) (Ex.ret rfl)
theorem specLocks_ex {t : List Lck} (hl : t.length ≤ 1000000000) : Ex (fun n => spec_FormatLocks n t) (· = fmtLR t) := by
  unfold spec_FormatLocks fmtLR
  refine Ex.be (specTable_ex hl) ?_
  cases hv : validB t with
  | false => exact Ex.yes rfl (Ex.ret rfl)
  | true =>
    have h := validB_iff.1 hv
    rw [if_pos rfl]
    exact Ex.no rfl (Ex.be (specFmtL_ex h.2 h.1) (Ex.ret rfl))
theorem implLocks_ex (t : List Lck) : Ex (fun n => impl_FormatLocks n t) (· = fmtLR t) := by
  unfold impl_FormatLocks fmtLR
  refine Ex.be (implTable_ex t) ?_
  cases hv : validB t with
  | false => exact Ex.yes rfl (Ex.ret rfl)
  | true =>
    obtain ⟨hl, h⟩ := validB_iff.1 hv
    rw [if_pos rfl]
    refine Ex.no rfl (Ex.be (a := ib (fmtL t)) ?_ (Ex.bc (bStr _) (Ex.ret rfl)))
    refine up t.length (fun k (x : List Int) => x = ib (sepk (pcL t) k)) (f := fun n x i => impl_FormatLocks_L1 t n x i) ?_ ?_ 0 [] (Nat.zero_le _) rfl
    · rintro k _ hk rfl next
      have hs := sepL_len h (Nat.le_of_lt hk)
      have ho := okL_iff.1 (h k hk).1
      simp only [impl_FormatLocks_L1, Int.toNat_natCast]
      refine Ex.yes (decide_eq_true (by omega)) (Ex.guard (by omega) (Ex.be (a := ib (sepk (pcL t) k ++ if 0 < k then [59, 32] else [])) ?_ ?_))
      · refine Ex.ite (fun hb => ?_) (fun hb => Ex.ret ?_)
        · have := of_decide_eq_true hb
          rw [if_pos (by omega)]
          exact Ex.bc (wStr (by simp; omega)) (Ex.ret rfl)
        · have := of_decide_eq_false hb
          rw [if_neg (by omega), List.append_nil]
      · have hl2 : (sepk (pcL t) k ++ if 0 < k then [59, 32] else []).length ≤ 19 * k + 2 := by
          rw [List.length_append]; split <;> simp <;> omega
        generalize hg : (sepk (pcL t) k ++ if 0 < k then [59, 32] else []) = s at hl2 ⊢
        have h1 := itoa_len (n := (t.getD k dlck).who) (by omega) (by omega)
        have h2 := itoa_len (n := (t.getD k dlck).node) (by omega) (by omega)
        have h3 := itoa_len (n := (t.getD k dlck).mode) (by omega) (by omega)
        refine Ex.bc (itoa_some (by omega) (by omega)) (Ex.bc (wStr (by omega)) (Ex.bc (wByte (by simp only [List.length_append]; omega) 32 rfl) (Ex.bc (itoa_some (by omega) (by omega)) (Ex.bc (wStr (by simp only [List.length_append, List.length_singleton]; omega))
          (Ex.bc (wByte (by simp only [List.length_append, List.length_singleton]; omega) 32 rfl) (Ex.bc (itoa_some (by omega) (by omega)) (Ex.bc (wStr (by simp only [List.length_append, List.length_singleton]; omega)) ?_)))))))
        rw [w64_succ (by omega)]
        refine next _ ?_
        rw [sepk, hg, pcL, pl]
        simp
    · rintro _ rfl
      simp only [impl_FormatLocks_L1]
      exact Ex.no (decide_eq_false (by omega)) (Ex.ret rfl)

/-! what is held, who is in the way, what is granted -/
end
section
open Go
set_option linter.unusedVariables false
theorem szLock_ex {xs : List Lck} (hl : xs.length ≤ 9223372036854775807) {b : Int} (h0 : 0 ≤ b) (h1 : b ≤ 1048576) {P : Bool → Prop} (ht : P true) {f : Nat → Int → Option Bool}
    (k : ∀ r, 0 ≤ r → xs.length ≤ 1048576 → Ex (fun n => f n r) P) :
    Ex (fun n => bindO (laws_szLockS xs b) fun i => iteO (decide (i < 0)) (some true) (f n i)) P := by
  unfold laws_szLockS
  rw [w64_id (by omega) (by omega), iteO_eq]
  by_cases h : b - (xs.length : Int) < 0
  · rw [if_pos (decide_eq_true h)]
    exact Ex.bc rfl (Ex.yes (by decide) (Ex.ret ht))
  · rw [if_neg (by simpa using h)]
    exact Ex.bc rfl (Ex.no (decide_eq_false h) (k _ (by omega) (by omega)))
theorem toLock_ex {xs : List Lck} (h : xs.length ≤ 10000000) : Ex (fun n => laws_toLockS n xs) (· = xs) := by
  unfold laws_toLockS
  refine Ex.guard (by omega) ?_
  refine Ex.bind (P := fun x => x = xs) ?_ (fun r hr => Ex.ret hr)
  refine copy_ex xs dlck (f := fun n ys i => laws_toLockS_L1 xs n ys i) ?_ ?_ _ (by simp)
  · intro k ys hk hy Q hQ
    simp only [laws_toLockS_L1, Int.toNat_natCast]
    refine Ex.yes (decide_eq_true (by omega)) (Ex.guard (by omega) ?_)
    have e : laws_toLock (xs.getD k dlck) = some ((xs.getD k dlck).who, (xs.getD k dlck).node, (xs.getD k dlck).mode) := rfl
    rw [e, w64_succ (by omega)]
    exact Ex.guard (by omega) hQ
  · intro ys
    simp only [laws_toLockS_L1]
    exact Ex.no (decide_eq_false (by omega)) (Ex.ret rfl)
theorem eqLock_ex {xs : List Lck} (h : xs.length ≤ 10000000) : Ex (fun n => laws_eqLockS n xs xs) (· = true) := by
  unfold laws_eqLockS
  refine Ex.no (by simp) (Ex.be (a := .inr ()) ?_ ?_)
  rotate_left
  · exact Ex.ret rfl
  refine skip_loop xs.length (f := fun n i => laws_eqLockS_L1 xs xs n i) ?_ ?_
  · intro k hk r hr
    simp only [laws_eqLockS_L1, Int.toNat_natCast]
    have e : laws_eqLock (xs.getD k dlck) (xs.getD k dlck) = some true := by simp [laws_eqLock, iteO_eq]
    rw [e, w64_succ (by omega)]
    exact Ex.yes (decide_eq_true (by omega)) (Ex.guard (by omega) (Ex.guard (by omega) (Ex.bc rfl (Ex.no rfl hr))))
  · simp only [laws_eqLockS_L1]
    exact Ex.no (decide_eq_false (by omega)) (Ex.ret rfl)
theorem law_FnExactFormatLocks (x0 : List Lck) (h0 : x0.length ≤ 9223372036854775807 ∧ ∀ x ∈ x0, RC.wf .lck x) : ∃ n, laws_FnExactFormatLocks n x0 = some true := by
  refine Ex.get ?_
  unfold laws_FnExactFormatLocks
  refine szLock_ex (b := 1048576) (P := fun x => x = true) h0.1 (by omega) (by omega) rfl (fun b hb0 hl => ?_)
  have a1 : ∀ {α : Type} {g : Nat → List Lck → Option α} {Q : α → Prop}, Ex (fun n => g n x0) Q → Ex (fun n => bindO (laws_toLockS n x0) fun r => g n r) Q := fun k => Ex.be (toLock_ex (by omega)) k
  refine a1 (Ex.be (specLocks_ex (by omega)) (a1 (Ex.be (implLocks_ex x0) (Ex.no (by simp) ?_))))
  exact a1 (Ex.be (eqLock_ex (by omega)) (Ex.no rfl (Ex.ret rfl)))
end
end Go.Proofs.YtiboohplkihhnaaDoor
