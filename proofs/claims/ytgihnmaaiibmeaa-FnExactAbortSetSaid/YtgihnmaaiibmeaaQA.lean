/- Plain facts: valid accesses; who reads from whom. Conditions: none. -/
import Derived.Test.YtgihnmaaiibmeaaP4
namespace Go.Proofs.Ytgihnmaaiibmeaa
open Go

def AccOk (x : Acc) : Bool := (decide (0 ≤ x.who) && decide (x.who ≤ 3)) && (decide (0 ≤ x.node) && decide (x.node ≤ 11))
def validA (h : List Acc) : Bool := decide (h.length ≤ 16) && h.all AccOk

theorem implValidA_ex {h : List Acc} (hl : h.length < 1099511627776) : Ex (fun n => impl_ValidAccesses n h) (· = validA h) := by
  unfold impl_ValidAccesses validA
  rcases Nat.lt_or_ge 16 h.length with hb | hb
  · refine Ex.yes (decide_eq_true (by omega)) (Ex.ret ?_)
    rw [decide_eq_false (by omega)]; rfl
  · refine Ex.no (decide_eq_false (by omega)) ?_
    refine Ex.be (any_loop h dacc (fun x => !AccOk x) (f := impl_ValidAccesses_L1 h) (A := .inl ()) (B := .inr ()) ?_ ?_ ?_) ?_
    · intro k hk hq
      simp only [impl_ValidAccesses_L1, Int.toNat_natCast]
      refine Ex.yes (decide_eq_true (by omega)) (Ex.guard (by omega) (Ex.yes ?_ (Ex.ret rfl)))
      unfold impl_within
      rw [← hq]; unfold AccOk; simp only [Bool.not_and]
    · intro k hk hq r ih
      simp only [impl_ValidAccesses_L1, Int.toNat_natCast]
      rw [w64_succ (by omega)]
      refine Ex.yes (decide_eq_true (by omega)) (Ex.guard (by omega) (Ex.no ?_ ih))
      unfold impl_within
      rw [← hq]; unfold AccOk; simp only [Bool.not_and]
    · simp only [impl_ValidAccesses_L1]
      exact Ex.no (decide_eq_false (by omega)) (Ex.ret rfl)
    · rw [← List.not_all_eq_any_not, decide_eq_true hb]
      cases h.all AccOk <;> exact Ex.ret rfl

theorem specValidA_ex {h : List Acc} (hl : h.length < 1099511627776) : Ex (fun n => spec_validAccesses n h) (· = validA h) := by
  unfold spec_validAccesses validA
  refine Ex.be (any_loop h dacc (fun x => !AccOk x) (f := spec_validAccesses_L1 h) (A := .inl ()) (B := .inr ()) ?_ ?_ ?_) ?_
  · intro k hk hq
    simp only [spec_validAccesses_L1, Int.toNat_natCast]
    refine Ex.yes (decide_eq_true (by omega)) (Ex.guard (by omega) (Ex.be (a := true) ?_ (Ex.yes rfl (Ex.ret rfl))))
    refine Ex.ite (fun _ => Ex.ret rfl) (fun hb => Ex.guard (by omega) (Ex.ret ?_))
    rw [← hq]; unfold AccOk; rw [Bool.not_and]
    unfold spec_inRange at hb ⊢
    rw [hb]; rfl
  · intro k hk hq r ih
    simp only [spec_validAccesses_L1, Int.toNat_natCast]
    rw [w64_succ (by omega)]
    unfold AccOk at hq
    rw [Bool.not_and, Bool.or_eq_false_iff] at hq
    refine Ex.yes (decide_eq_true (by omega)) (Ex.guard (by omega) (Ex.be (a := false) ?_ (Ex.no rfl ih)))
    exact Ex.no hq.1 (Ex.guard (by omega) (Ex.ret hq.2))
  · simp only [spec_validAccesses_L1]
    exact Ex.no (decide_eq_false (by omega)) (Ex.ret rfl)
  · rw [← List.not_all_eq_any_not]
    cases hb : h.all AccOk with
    | false => exact Ex.ret (by simp)
    | true => exact Ex.ret (by simp; omega)

/-- the last write on a node -/
def wr (node : Int) (x : Acc) : Bool := x.write && decide (x.node = node)
def lwO (h : List Acc) (node : Int) : Option Acc := (h.filter (wr node)).getLast?
def lastW (h : List Acc) (node : Int) : Int := match lwO h node with
  | some x => x.who
  | none => -1

theorem getD_at {α : Type} {xs : List α} {k : Nat} {d : α} (h : k < xs.length) : xs.getD k d = xs[k] := by
  rw [List.getD_eq_getElem?_getD, List.getElem?_eq_getElem h]; rfl
theorem take_snoc' {α : Type} {xs : List α} {k : Nat} (d : α) (h : k < xs.length) : xs.take (k + 1) = xs.take k ++ [xs.getD k d] := by
  rw [List.take_succ_eq_append_getElem h, getD_at h]
theorem lwO_succ {h : List Acc} {k : Nat} (hk : k < h.length) (node : Int) : lwO (h.take (k + 1)) node = if wr node (h.getD k dacc) = true then some (h.getD k dacc) else lwO (h.take k) node := by
  unfold lwO
  rw [take_snoc' dacc hk, List.filter_append]
  generalize h.getD k dacc = x
  rw [List.filter_cons, List.filter_nil]
  cases hv : wr node x <;> simp

theorem wr_body {h : List Acc} {k : Nat} {node : Int} {c : Prop} [Decidable c] {A : Type} {g : Nat → Bool → Option A} {Q : A → Prop} (hc : c)
    (hx : Ex (fun n => g n (wr node (h.getD k dacc))) Q) :
    Ex (fun n => bindO (iteO ((h.getD k dacc).write) (guardO c <| some (decide (((h.getD k dacc).node) = node))) (some false)) (g n)) Q := by
  refine Ex.be (a := wr node (h.getD k dacc)) ?_ hx
  refine Ex.ite (fun hb => ?_) (fun hb => ?_)
  · exact Ex.guard hc (Ex.ret (by unfold wr; rw [hb]; rfl))
  · exact Ex.ret (by unfold wr; rw [hb]; rfl)

theorem implLast_ex {h : List Acc} (hl : h.length < 1000000) (node : Int) : Ex (fun n => impl_lastWriter n h node) (· = lastW h node) := by
  have loop : ∀ (k : Nat), k ≤ h.length → Ex (fun n => impl_lastWriter_L1 h node n ((k : Int) - 1)) (· = (match lwO (h.take k) node with
      | some x => .inl x.who
      | none => .inr ())) := by
    intro k
    induction k with
    | zero =>
      intro _
      refine Ex.succ ?_
      simp only [impl_lastWriter_L1]
      refine Ex.no (by decide) (Ex.ret ?_)
      simp [lwO]
    | succ k ih =>
      intro hk
      refine Ex.succ ?_
      simp only [impl_lastWriter_L1]
      have e : ((k + 1 : Nat) : Int) - 1 = (k : Int) := by omega
      rw [e]
      simp only [Int.toNat_natCast]
      refine Ex.yes (decide_eq_true (by omega)) (Ex.guard (by omega) ?_)
      refine wr_body (by omega) ?_
      rw [lwO_succ (by omega)]
      refine Ex.ite (fun hb => ?_) (fun hb => ?_)
      · rw [hb]
        exact Ex.guard (by omega) (Ex.ret rfl)
      · rw [hb]
        have e2 : w64 ((k : Int) - 1) = (k : Int) - 1 := w64_id (by omega) (by omega)
        rw [e2]
        exact ih (by omega)
  unfold impl_lastWriter lastW
  have e : w64 ((h.length : Int) - 1) = (h.length : Int) - 1 := w64_id (by omega) (by omega)
  rw [e]
  refine Ex.be (loop h.length (Nat.le_refl _)) ?_
  rw [List.take_length]
  cases lwO h node <;> exact Ex.ret rfl

theorem specLast_ex {h : List Acc} (hl : h.length < 1000000) {i : Nat} (hi : i < h.length) : Ex (fun n => spec_lastWriter n h (i : Int)) (· = lastW (h.take i) (h.getD i dacc).node) := by
  have loop : ∀ (k : Nat), k ≤ i → Ex (fun n => spec_lastWriter_L1 h (i : Int) n ((k : Int) - 1)) (· = (match lwO (h.take k) (h.getD i dacc).node with
      | some x => .inl x.who
      | none => .inr ())) := by
    intro k
    induction k with
    | zero =>
      intro _
      refine Ex.succ ?_
      simp only [spec_lastWriter_L1]
      refine Ex.no (by decide) (Ex.ret ?_)
      simp [lwO]
    | succ k ih =>
      intro hk
      refine Ex.succ ?_
      simp only [spec_lastWriter_L1]
      have e : ((k + 1 : Nat) : Int) - 1 = (k : Int) := by omega
      rw [e]
      simp only [Int.toNat_natCast]
      refine Ex.yes (decide_eq_true (by omega)) (Ex.guard (by omega) ?_)
      refine Ex.be (a := wr (h.getD i dacc).node (h.getD k dacc)) ?_ ?_
      · refine Ex.ite (fun hb => ?_) (fun hb => ?_)
        · exact Ex.guard (by omega) (Ex.guard (by omega) (Ex.ret (by unfold wr; rw [hb]; rfl)))
        · exact Ex.ret (by unfold wr; rw [hb]; rfl)
      rw [lwO_succ (by omega)]
      refine Ex.ite (fun hb => ?_) (fun hb => ?_)
      · rw [hb]
        exact Ex.guard (by omega) (Ex.ret rfl)
      · rw [hb]
        have e2 : w64 ((k : Int) - 1) = (k : Int) - 1 := w64_id (by omega) (by omega)
        rw [e2]
        exact ih (by omega)
  unfold spec_lastWriter lastW
  have e : w64 ((i : Int) - 1) = (i : Int) - 1 := w64_id (by omega) (by omega)
  rw [e]
  refine Ex.be (loop i (Nat.le_refl _)) ?_
  cases lwO (h.take i) (h.getD i dacc).node <;> exact Ex.ret rfl

/-- does a transaction read from another one with its access at a place -/
def hit (h : List Acc) (who t : Int) (i : Nat) : Bool := (decide ((h.getD i dacc).who = who) && !(h.getD i dacc).write) && decide (lastW (h.take i) (h.getD i dacc).node = t)
/-- does a transaction read from another one, with the first k accesses -/
def rfK (h : List Acc) (who t : Int) (k : Nat) : Bool := (List.range k).any (hit h who t) && !decide (t = who)
def rf (h : List Acc) (who t : Int) : Bool := rfK h who t h.length
def rfL (h : List Acc) (who : Int) : List Int := ([0, 1, 2, 3] : List Int).filter (rf h who)

theorem rfK_succ (h : List Acc) (who t : Int) (k : Nat) : rfK h who t (k + 1) = (rfK h who t k || (hit h who t k && !decide (t = who))) := by
  unfold rfK
  rw [List.range_succ, List.any_append, List.any_cons, List.any_nil, Bool.or_false]
  cases (List.range k).any (hit h who t) <;> cases hit h who t k <;> cases decide (t = who) <;> rfl

theorem lastW_ok {h : List Acc} (hv : ∀ x ∈ h, AccOk x = true) (node : Int) : lastW h node = -1 ∨ 0 ≤ lastW h node ∧ lastW h node ≤ 3 := by
  unfold lastW
  cases e : lwO h node with
  | none => exact .inl rfl
  | some x =>
    right
    have := hv x (by
      have := List.mem_of_getLast? e
      exact (List.mem_filter.1 this).1)
    unfold AccOk at this
    simp only [Bool.and_eq_true, decide_eq_true_eq] at this
    exact this.1

theorem sources_loop {h : List Acc} (hl : h.length ≤ 1000) (hv : ∀ x ∈ h, AccOk x = true) (who : Int) : ∀ (m k : Nat), k + m = h.length →
    Ex (fun n => impl_sourcesOf_L1 h who n [rfK h who 0 k, rfK h who 1 k, rfK h who 2 k, rfK h who 3 k] (k : Int)) (· = [rf h who 0, rf h who 1, rf h who 2, rf h who 3])
  | 0, k, hk => by
    refine Ex.succ ?_
    simp only [impl_sourcesOf_L1]
    obtain rfl : k = h.length := by omega
    exact Ex.no (decide_eq_false (by omega)) (Ex.ret rfl)
  | m + 1, k, hk => by
    refine Ex.succ ?_
    simp only [impl_sourcesOf_L1, Int.toNat_natCast, List.drop_zero]
    rw [w64_succ (by omega)]
    refine Ex.yes (decide_eq_true (by omega)) ?_
    have ih := sources_loop hl hv who m (k + 1) (by omega)
    simp only [rfK_succ] at ih
    refine Ex.be (a := [rfK h who 0 k || (hit h who 0 k && !decide ((0 : Int) = who)), rfK h who 1 k || (hit h who 1 k && !decide ((1 : Int) = who)), rfK h who 2 k || (hit h who 2 k && !decide ((2 : Int) = who)), rfK h who 3 k || (hit h who 3 k && !decide ((3 : Int) = who))]) ?_ ih
    refine Ex.guard (by omega) ?_
    cases hc : decide ((h.getD k dacc).who = who) && !(h.getD k dacc).write with
    | false =>
      refine Ex.yes ?_ (Ex.ret ?_)
      · revert hc
        cases decide ((h.getD k dacc).who = who) <;> cases (h.getD k dacc).write <;> simp
      · unfold hit
        rw [hc]
        simp
    | true =>
      simp only [Bool.and_eq_true, decide_eq_true_eq, Bool.not_eq_true'] at hc
      refine Ex.no (by rw [decide_eq_true hc.1, hc.2]; rfl) (Ex.guard (by omega) ?_)
      refine Ex.be (implLast_ex (by simp; omega) _) ?_
      have hw := lastW_ok (h := h.take k) (fun x hx => hv x (List.mem_of_mem_take hx)) (h.getD k dacc).node
      have hh : ∀ t, hit h who t k = decide (lastW (h.take k) (h.getD k dacc).node = t) := by
        intro t
        unfold hit
        rw [decide_eq_true hc.1, hc.2]; rfl
      simp only [hh]
      generalize lastW (h.take k) (h.getD k dacc).node = W at hw ⊢
      rcases hw with rfl | ⟨w1, w2⟩
      · exact Ex.be (Ex.no (by rw [decide_eq_false (by omega)]; rfl) (Ex.ret rfl)) (Ex.ret (by simp))
      · by_cases hne : W = who
        · subst hne
          refine Ex.be (Ex.no (by simp) (Ex.ret rfl)) (Ex.ret ?_)
          have : ∀ t : Int, (decide (W = t) && !decide (t = W)) = false := by
            intro t
            by_cases e : W = t
            · subst e; simp
            · simp [e]
          simp only [this, Bool.or_false]
        · have hW : W = 0 ∨ W = 1 ∨ W = 2 ∨ W = 3 := by omega
          refine Ex.be (Ex.yes (by simp [w1, hne]) (Ex.guard (by simp; omega) (Ex.ret rfl))) (Ex.ret ?_)
          rcases hW with rfl | rfl | rfl | rfl <;> simp [hne]

theorem implSources_ex {h : List Acc} (hl : h.length ≤ 1000) (hv : ∀ x ∈ h, AccOk x = true) (who : Int) : Ex (fun n => impl_sourcesOf n h who) (· = [rf h who 0, rf h who 1, rf h who 2, rf h who 3]) := by
  unfold impl_sourcesOf
  have := sources_loop hl hv who h.length 0 (by omega)
  have e : ∀ t, rfK h who t 0 = false := fun t => rfl
  simp only [e] at this
  refine Ex.be this ?_
  refine Ex.guard (by simp) (Ex.guard (by simp) (Ex.guard (by simp [splice]) (Ex.ret (by simp [splice]))))

theorem four_succ (p : Int → Bool) {k : Nat} (hk : k < 4) : (([0, 1, 2, 3] : List Int).take (k + 1)).filter p = (([0, 1, 2, 3] : List Int).take k).filter p ++ (if p (k : Int) = true then [(k : Int)] else []) := by
  have hk4 : k = 0 ∨ k = 1 ∨ k = 2 ∨ k = 3 := by omega
  have e : ([0, 1, 2, 3] : List Int).take (k + 1) = ([0, 1, 2, 3] : List Int).take k ++ [(k : Int)] := by
    rcases hk4 with rfl | rfl | rfl | rfl <;> rfl
  rw [e, List.filter_append, List.filter_cons, List.filter_nil]

theorem marked_ex (a b c d : Bool) : Ex (fun n => impl_marked n [a, b, c, d]) (· = (([0, 1, 2, 3] : List Int).filter fun t => [a, b, c, d].getD t.toNat false)) := by
  unfold impl_marked
  refine Ex.guard (by simp) (Ex.guard (by simp) ?_)
  refine Ex.be ?_ (Ex.ret rfl)
  have loop := loop4 (σ := List Int) (inv := fun k s => s = (([0, 1, 2, 3] : List Int).take k).filter fun t => [a, b, c, d].getD t.toNat false) (f := fun n s k => impl_marked_L1 [a, b, c, d] n s k) (fin := fun s => s) (s0 := []) rfl ?_ ?_
  · refine Ex.mono loop ?_
    rintro r ⟨s, rfl, hs⟩
    exact hs
  · intro k s hk hs Q hQ
    simp only [impl_marked_L1, Int.toNat_natCast]
    rw [w64_succ (by omega)]
    refine Ex.yes (decide_eq_true (by omega)) (Ex.guard (by simp; omega) ?_)
    have hlen : s.length ≤ 4 := by
      rw [hs]
      refine Nat.le_trans (List.length_filter_le _ _) ?_
      simp; omega
    have e : (([a, b, c, d].drop 0).take 4) = [a, b, c, d] := rfl
    rw [e]
    refine Ex.bind (P := fun s' => s' = (([0, 1, 2, 3] : List Int).take (k + 1)).filter fun t => [a, b, c, d].getD t.toNat false) ?_ hQ
    refine Ex.ite (fun hb => Ex.guard (by simp; omega) (Ex.ret ?_)) (fun hb => Ex.ret ?_)
    · rw [four_succ _ hk, ← hs]
      simp only [Int.toNat_natCast, hb, if_true]
      rfl
    · rw [four_succ _ hk, ← hs]
      simp only [Int.toNat_natCast, hb, Bool.false_eq_true, if_false, List.append_nil]
  · intro s hs
    simp only [impl_marked_L1]
    exact Ex.no (by decide) (Ex.ret rfl)

theorem all_ok {h : List Acc} (hv : validA h = true) : h.length ≤ 16 ∧ ∀ x ∈ h, AccOk x = true := by
  unfold validA at hv
  rw [Bool.and_eq_true, decide_eq_true_eq, List.all_eq_true] at hv
  exact hv

def readsR (h : List Acc) (who : Int) : List Int := if validA h = true then rfL h who else []

theorem four_filter (p : Int → Bool) : (([0, 1, 2, 3] : List Int).filter fun t => [p 0, p 1, p 2, p 3].getD t.toNat false) = ([0, 1, 2, 3] : List Int).filter p := by
  refine List.filter_congr (fun t ht => ?_)
  simp only [List.mem_cons, List.not_mem_nil, or_false] at ht
  rcases ht with rfl | rfl | rfl | rfl <;> rfl

theorem implReads_ex {h : List Acc} (hl : h.length < 1000000) (who : Int) : Ex (fun n => impl_ReadsFrom n h who) (· = readsR h who) := by
  unfold impl_ReadsFrom readsR
  refine Ex.be (implValidA_ex (by omega)) ?_
  cases hv : validA h with
  | false => exact Ex.yes rfl (Ex.ret rfl)
  | true =>
    obtain ⟨h1, h2⟩ := all_ok hv
    refine Ex.no rfl (Ex.be (implSources_ex (by omega) h2 who) (Ex.be (marked_ex _ _ _ _) (Ex.ret ?_)))
    rw [four_filter (rf h who)]; rfl

theorem specReads1_ex {h : List Acc} (hl : h.length < 1000000) (who t : Int) : Ex (fun n => spec_readsFrom n h who t) (· = rf h who t) := by
  have loop : ∀ (m k : Nat), k + m = h.length → Ex (fun n => spec_readsFrom_L1 h who t n (k : Int)) (· = if (List.range m).any (fun j => hit h who t (k + j)) = true then .inl () else .inr ()) := by
    intro m
    induction m with
    | zero =>
      intro k hk
      refine Ex.succ ?_
      simp only [spec_readsFrom_L1]
      exact Ex.no (decide_eq_false (by omega)) (Ex.ret rfl)
    | succ m ih =>
      intro k hk
      refine Ex.succ ?_
      simp only [spec_readsFrom_L1, Int.toNat_natCast]
      rw [w64_succ (by omega)]
      refine Ex.yes (decide_eq_true (by omega)) (Ex.guard (by omega) ?_)
      refine Ex.be (a := hit h who t k) ?_ ?_
      · unfold hit
        refine Ex.ite (fun hb => ?_) (fun hb => Ex.ret (by rw [hb]; rfl))
        refine Ex.guard (by omega) (Ex.ite (fun hc => ?_) (fun hc => Ex.ret (by rw [hb, hc]; rfl)))
        exact Ex.be (specLast_ex hl (by omega)) (Ex.ret (by rw [hb, hc]; rfl))
      · have e : (List.range (m + 1)).any (fun j => hit h who t (k + j)) = (hit h who t k || (List.range m).any (fun j => hit h who t (k + 1 + j))) := by
          rw [List.range_succ_eq_map, List.any_cons, List.any_map]
          simp only [Nat.add_zero]
          congr 2
          funext j
          simp only [Function.comp, Nat.succ_eq_add_one]
          congr 1
          omega
        rw [e]
        cases hb : hit h who t k with
        | true => exact Ex.yes rfl (Ex.ret rfl)
        | false =>
          rw [Bool.false_or]
          exact Ex.no rfl (ih (k + 1) (by omega))
  unfold spec_readsFrom rf rfK
  refine Ex.be (loop h.length 0 (by omega)) ?_
  simp only [Nat.zero_add]
  have e : (List.range h.length).any (fun j => hit h who t j) = (List.range h.length).any (hit h who t) := rfl
  rw [e]
  cases (List.range h.length).any (hit h who t) with
  | true =>
    refine Ex.ret ?_
    rw [Bool.true_and]
    congr 1
    rw [decide_eq_decide]
    exact eq_comm
  | false => exact Ex.ret rfl

theorem specReads_ex {h : List Acc} (hl : h.length < 1000000) (who : Int) : Ex (fun n => spec_ReadsFrom n h who) (· = readsR h who) := by
  unfold spec_ReadsFrom readsR
  refine Ex.be (specValidA_ex (by omega)) ?_
  cases hv : validA h with
  | false => exact Ex.yes rfl (Ex.ret rfl)
  | true =>
    refine Ex.no rfl (Ex.be ?_ (Ex.ret rfl))
    have loop := loop4 (σ := List Int) (inv := fun k s => s = (([0, 1, 2, 3] : List Int).take k).filter (rf h who)) (f := fun n s k => spec_ReadsFrom_L1 h who n s k) (fin := fun s => s) (s0 := []) rfl ?_ ?_
    · refine Ex.mono loop ?_
      rintro r ⟨s, rfl, hs⟩
      exact hs
    · intro k s hk hs Q hQ
      simp only [spec_ReadsFrom_L1]
      rw [w64_succ (by omega)]
      refine Ex.yes (decide_eq_true (by omega)) (Ex.be (specReads1_ex hl who _) ?_)
      have hlen : s.length ≤ 4 := by
        rw [hs]
        refine Nat.le_trans (List.length_filter_le _ _) ?_
        simp; omega
      refine Ex.bind (P := fun s' => s' = (([0, 1, 2, 3] : List Int).take (k + 1)).filter (rf h who)) ?_ hQ
      refine Ex.ite (fun hb => Ex.guard (by simp; omega) (Ex.ret ?_)) (fun hb => Ex.ret ?_)
      · rw [four_succ _ hk, ← hs]
        simp only [hb, if_true]
        rfl
      · rw [four_succ _ hk, ← hs]
        simp only [hb, Bool.false_eq_true, if_false, List.append_nil]
    · intro s hs
      simp only [spec_ReadsFrom_L1]
      exact Ex.no (by decide) (Ex.ret rfl)
end Go.Proofs.Ytgihnmaaiibmeaa
