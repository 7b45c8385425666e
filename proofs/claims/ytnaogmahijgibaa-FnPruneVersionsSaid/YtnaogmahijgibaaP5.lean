/- Plain facts: valid versions as a property; reading at a time; drawn versions. Conditions: none. -/
import Derived.Test.YtnaogmahijgibaaP2
import Derived.Test.YtnaogmahijgibaaP4v
namespace Go.Proofs.Ytnaogmahijgibaa
open Go

def VerOk (v : Ver) : Prop := (0 ≤ v.node ∧ v.node ≤ 11) ∧ (-1000 ≤ v.value ∧ v.value ≤ 1000) ∧ (0 ≤ v.tm ∧ v.tm ≤ 100)
def VerLt (a b : Ver) : Prop := a.tm ≤ b.tm ∧ (a.tm = b.tm → a.node ≠ b.node)
structure Valid (xs : List Ver) : Prop where
  len : xs.length ≤ 16
  ok : ∀ x ∈ xs, VerOk x
  lt : xs.Pairwise VerLt

theorem rangeOk_iff {v : Ver} : rangeOk v = true ↔ VerOk v := by
  unfold rangeOk VerOk
  simp [and_assoc]

theorem getD_eq {α : Type} {xs : List α} {k : Nat} {d : α} (h : k < xs.length) : xs.getD k d = xs[k] := by
  rw [List.getD_eq_getElem?_getD, List.getElem?_eq_getElem h]; rfl

theorem validI_iff {xs : List Ver} : validI xs = true ↔ Valid xs := by
  unfold validI
  rw [Bool.and_eq_true, decide_eq_true_eq, Bool.not_eq_true']
  constructor
  · rintro ⟨h1, h2⟩
    have h3 : ∀ i, i < xs.length → badI xs i = false := by
      intro i hi
      rw [Bool.eq_false_iff]
      intro hb
      have : anyIn (badI xs) 0 xs.length = true := anyIn_iff.2 ⟨i, Nat.zero_le _, hi, hb⟩
      rw [h2] at this; cases this
    refine ⟨h1, fun x hx => ?_, ?_⟩
    · obtain ⟨i, hi, rfl⟩ := List.mem_iff_getElem.1 hx
      have := h3 i hi
      unfold badI at this
      simp only [Bool.or_eq_false_iff, Bool.not_eq_false'] at this
      have h4 := rangeOk_iff.1 this.1
      rwa [at_, getD_eq hi] at h4
    · rw [List.pairwise_iff_getElem]
      intro i j hi hj hij
      have := h3 j hj
      unfold badI at this
      simp only [Bool.or_eq_false_iff] at this
      have h4 : clashI xs j i = false := by
        rw [Bool.eq_false_iff]
        intro hb
        have h5 : anyIn (clashI xs j) 0 j = true := anyIn_iff.2 ⟨i, Nat.zero_le _, hij, hb⟩
        rw [this.2] at h5; cases h5
      unfold clashI at h4
      simp only [Bool.or_eq_false_iff, Bool.and_eq_false_iff, decide_eq_false_iff_not, at_, getD_eq hi, getD_eq hj] at h4
      refine ⟨by omega, fun e hn => ?_⟩
      rcases h4.2 with h5 | h5
      · exact h5 e
      · exact h5 hn
  · rintro ⟨h1, h2, h3⟩
    refine ⟨h1, ?_⟩
    rw [Bool.eq_false_iff]
    intro hb
    obtain ⟨j, _, hj, hb⟩ := anyIn_iff.1 hb
    unfold badI at hb
    rw [Bool.or_eq_true] at hb
    rcases hb with hb | hb
    · have := rangeOk_iff.2 (h2 _ (List.getElem_mem hj))
      rw [at_, getD_eq hj, this] at hb
      cases hb
    · obtain ⟨i, _, hi, hb⟩ := anyIn_iff.1 hb
      have h4 := List.pairwise_iff_getElem.1 h3 i j (by omega) hj hi
      unfold clashI at hb
      simp only [Bool.or_eq_true, Bool.and_eq_true, decide_eq_true_eq, at_, getD_eq hj, getD_eq (show i < xs.length by omega)] at hb
      rcases hb with hb | ⟨hb1, hb2⟩
      · have := h4.1; omega
      · exact h4.2 hb1 hb2

theorem Valid.sub {xs ys : List Ver} (h : Valid xs) (hs : ys.Sublist xs) : Valid ys :=
  ⟨Nat.le_trans hs.length_le h.len, fun x hx => h.ok x (hs.subset hx), h.lt.sublist hs⟩

theorem implValid_ex {xs : List Ver} (hl : xs.length < 1099511627776) : Ex (fun n => impl_ValidVersions n xs) (· = validI xs) := Ex.of_eq 34 fun n hn => impl_valid hl n hn
theorem specValid_ex {xs : List Ver} (hl : xs.length < 1099511627776) : Ex (fun n => spec_validVersions n xs) (· = validI xs) := Ex.of_eq (2 * xs.length + 2) fun n hn => spec_valid hl n hn
theorem specValid2_ex {xs : List Ver} (hl : xs.length < 1099511627776) : Ex (fun n => spec_ValidVersions n xs) (· = validI xs) := by
  unfold spec_ValidVersions
  exact Ex.be (specValid_ex hl) (Ex.ret rfl)

/-- the version of a node at a time -/
def vis (node now : Int) (x : Ver) : Bool := decide (x.node = node) && decide (x.tm ≤ now)
def rd (xs : List Ver) (node now : Int) : Option Ver := (xs.filter (vis node now)).getLast?
def rdR (xs : List Ver) (node now : Int) : Int × Bool := if validI xs = true then (match rd xs node now with
  | some x => (x.value, true)
  | none => (0, false)) else (0, false)

theorem take_succ {α : Type} {xs : List α} {k : Nat} (d : α) (h : k < xs.length) : xs.take (k + 1) = xs.take k ++ [xs.getD k d] := by
  rw [List.take_succ_eq_append_getElem h, getD_eq h]
theorem rd_succ {xs : List Ver} {k : Nat} (h : k < xs.length) (node now : Int) : rd (xs.take (k + 1)) node now = if vis node now (xs.getD k dver) = true then some (xs.getD k dver) else rd (xs.take k) node now := by
  unfold rd
  rw [take_succ dver h, List.filter_append]
  generalize xs.getD k dver = x
  rw [List.filter_cons, List.filter_nil]
  cases hv : vis node now x <;> simp

theorem vis_body {xs : List Ver} {k : Nat} {node now : Int} {A : Type} {g : Nat → Bool → Option A} {Q : A → Prop} (hk : k < xs.length)
    (h : Ex (fun n => g n (vis node now (xs.getD k dver))) Q) :
    Ex (fun n => bindO (iteO (decide (((xs.getD k dver).node) = node)) (guardO (0 ≤ (k : Int) ∧ (k : Int) < ((xs.length : Nat) : Int)) <| some (decide (((xs.getD k dver).tm) ≤ now))) (some false)) (g n)) Q := by
  refine Ex.be (a := vis node now (xs.getD k dver)) ?_ h
  refine Ex.ite (fun hb => ?_) (fun hb => ?_)
  · exact Ex.guard (by omega) (Ex.ret (by unfold vis; rw [hb]; rfl))
  · exact Ex.ret (by unfold vis; rw [hb]; rfl)

theorem implRead_loop {xs : List Ver} (hl : xs.length < 1099511627776) (node now : Int) : ∀ (k : Nat), k ≤ xs.length →
    Ex (fun n => impl_ReadAsOf_L1 xs node now n ((k : Int) - 1)) (· = (match rd (xs.take k) node now with
      | some x => .inl x.value
      | none => .inr ()))
  | 0, _ => by
    refine Ex.succ ?_
    simp only [impl_ReadAsOf_L1]
    refine Ex.no (by decide) (Ex.ret ?_)
    simp [rd]
  | k + 1, hk => by
    refine Ex.succ ?_
    simp only [impl_ReadAsOf_L1]
    have e : ((k + 1 : Nat) : Int) - 1 = (k : Int) := by omega
    rw [e]
    simp only [Int.toNat_natCast]
    refine Ex.yes (decide_eq_true (by omega)) (Ex.guard (by omega) ?_)
    refine vis_body (by omega) ?_
    rw [rd_succ (by omega)]
    refine Ex.ite (fun hb => ?_) (fun hb => ?_)
    · rw [hb]
      exact Ex.guard (by omega) (Ex.ret rfl)
    · rw [hb]
      have e2 : w64 ((k : Int) - 1) = (k : Int) - 1 := w64_id (by omega) (by omega)
      rw [e2]
      exact implRead_loop hl node now k (by omega)

theorem implRead_ex {xs : List Ver} (hl : xs.length < 1099511627776) (node now : Int) : Ex (fun n => impl_ReadAsOf n xs node now) (· = rdR xs node now) := by
  unfold impl_ReadAsOf rdR
  refine Ex.be (implValid_ex hl) ?_
  cases hv : validI xs with
  | false => exact Ex.yes rfl (Ex.ret rfl)
  | true =>
    refine Ex.no rfl ?_
    have e : w64 ((xs.length : Int) - 1) = (xs.length : Int) - 1 := w64_id (by omega) (by omega)
    rw [e]
    refine Ex.be (implRead_loop hl node now xs.length (Nat.le_refl _)) ?_
    rw [List.take_length]
    cases rd xs node now with
    | none => exact Ex.ret rfl
    | some x => exact Ex.ret rfl

/-- a place of a version, or -1 -/
def Place (xs : List Ver) (r : Option Ver) (i : Int) : Prop := match r with
  | none => i = -1
  | some x => ∃ j : Nat, j < xs.length ∧ i = j ∧ xs.getD j dver = x

theorem asOf_loop {xs : List Ver} (hl : xs.length < 1099511627776) (node now : Int) : ∀ (m k : Nat) (a : Int), k + m = xs.length → Place xs (rd (xs.take k) node now) a →
    Ex (fun n => spec_asOf_L1 xs node now n a (k : Int)) (fun i => Place xs (rd xs node now) i)
  | 0, k, a, hk, ha => by
    refine Ex.succ ?_
    simp only [spec_asOf_L1]
    refine Ex.no (decide_eq_false (by omega)) (Ex.ret ?_)
    rw [List.take_of_length_le (by omega)] at ha
    exact ha
  | m + 1, k, a, hk, ha => by
    refine Ex.succ ?_
    simp only [spec_asOf_L1, Int.toNat_natCast]
    refine Ex.yes (decide_eq_true (by omega)) (Ex.guard (by omega) ?_)
    refine vis_body (by omega) ?_
    rw [w64_succ (by omega)]
    have hr := rd_succ (xs := xs) (k := k) (by omega) node now
    cases hb : vis node now (xs.getD k dver) with
    | true =>
      rw [hb] at hr
      refine Ex.be (Ex.ret rfl) (asOf_loop hl node now m (k + 1) k (by omega) ?_)
      rw [hr]
      exact ⟨k, by omega, rfl, rfl⟩
    | false =>
      rw [hb] at hr
      refine Ex.be (Ex.ret rfl) (asOf_loop hl node now m (k + 1) a (by omega) ?_)
      rw [hr]
      exact ha

theorem asOf_ex {xs : List Ver} (hl : xs.length < 1099511627776) (node now : Int) : Ex (fun n => spec_asOf n xs node now) (fun i => Place xs (rd xs node now) i) := by
  unfold spec_asOf
  refine Ex.bind (asOf_loop hl node now xs.length 0 (-1) (by omega) (by simp [rd, Place])) (fun i hi => Ex.ret hi)

theorem specRead_ex {xs : List Ver} (hl : xs.length < 1099511627776) (node now : Int) : Ex (fun n => spec_ReadAsOf n xs node now) (· = rdR xs node now) := by
  unfold spec_ReadAsOf rdR
  refine Ex.be (specValid_ex hl) ?_
  cases hv : validI xs with
  | false => exact Ex.yes rfl (Ex.ret rfl)
  | true =>
    refine Ex.no rfl (Ex.bind (asOf_ex hl node now) (fun i hi => ?_))
    cases hr : rd xs node now with
    | none =>
      rw [hr] at hi
      have hi : i = -1 := hi
      subst hi
      exact Ex.yes (by decide) (Ex.ret rfl)
    | some x =>
      rw [hr] at hi
      obtain ⟨j, h1, rfl, h2⟩ := hi
      refine Ex.no (decide_eq_false (by omega)) (Ex.guard (by omega) (Ex.ret ?_))
      simp only [Int.toNat_natCast, h2, if_true]

/-- versions with a further one -/
def addR (xs : List Ver) (x : Ver) : List Ver × Bool := if validI xs = true ∧ validI (xs ++ [x]) = true then (xs ++ [x], true) else ([], false)
theorem specAdd_ex {xs : List Ver} (hl : xs.length < 1000000000) (x : Ver) : Ex (fun n => spec_AddVersion n xs x) (· = addR xs x) := by
  unfold spec_AddVersion addR
  simp only [view_all, List.nil_append]
  refine Ex.guard (by simp; omega) (Ex.guard (by simp; omega) ?_)
  refine Ex.be (specValid_ex (by omega)) ?_
  have hx : (⟨x.node, x.value, x.tm⟩ : Ver) = x := rfl
  rw [hx]
  cases hv : validI xs with
  | false =>
    refine Ex.be (a := true) (Ex.yes rfl (Ex.ret rfl)) (Ex.yes rfl (Ex.ret ?_))
    simp
  | true =>
    refine Ex.be (a := !validI (xs ++ [x])) (Ex.no rfl (Ex.be (specValid_ex (by simp; omega)) (Ex.ret rfl))) ?_
    cases hw : validI (xs ++ [x]) with
    | false => exact Ex.yes rfl (Ex.ret (by simp))
    | true => exact Ex.no rfl (Ex.ret (by simp))

theorem addR_len (xs : List Ver) (x : Ver) : (addR xs x).1.length ≤ xs.length + 1 := by
  unfold addR; split <;> simp

theorem someVersions_loop {x1 : List Int} {k2 : Nat} (h : Rd x1 k2) : ∀ (m : Nat) (i t : Int) (xs : List Ver), 0 ≤ i → i + 10 * m ≤ 800000000 → xs.length + m ≤ 1000 →
    Ex (fun n => spec_someVersions_L1 k2 x1 n i xs t (m : Int)) (fun r => 0 ≤ r.1 ∧ r.1 ≤ i + 10 * m ∧ r.2.length ≤ xs.length + m)
  | 0, i, t, xs, h0, h1, h2 => by
    refine Ex.succ ?_
    simp only [spec_someVersions_L1]
    exact Ex.no (by decide) (Ex.ret ⟨h0, by simp, by simp⟩)
  | m + 1, i, t, xs, h0, h1, h2 => by
    refine Ex.succ ?_
    simp only [spec_someVersions_L1]
    refine Ex.yes (decide_eq_true (by omega)) ?_
    refine Ex.bind (pick_ex h h0 (by omega) (by omega) (by omega)) (fun a ha => ?_)
    have e1 : w64 (i + 1) = i + 1 := w64_id (by omega) (by omega)
    rw [e1]
    refine Ex.bind (someValue_ex h (by omega) (by omega)) ?_
    rintro ⟨c, d⟩ ⟨hc, hd⟩
    have hc : c = i + 4 := by simp at hc; omega
    subst hc
    simp only
    refine Ex.be (specAdd_ex (by omega) _) ?_
    generalize hA : addR xs (⟨a, d, (if 100 < t then 100 else t)⟩ : Ver) = A
    obtain ⟨ys, b⟩ := A
    simp only
    have hlen : ys.length ≤ xs.length + 1 := by
      have := addR_len xs (⟨a, d, (if 100 < t then 100 else t)⟩ : Ver)
      rw [hA] at this; exact this
    refine Ex.bind (P := fun zs : List Ver => zs.length ≤ xs.length + 1) ?_ (fun zs hz => ?_)
    · exact Ex.ite (fun _ => Ex.ret hlen) (fun _ => Ex.ret (by omega))
    · refine Ex.bind (pick_ex h (by omega) (by omega) (by omega) (by omega)) (fun q hq => ?_)
      have e2 : w64 (i + 4 + 1) = i + 5 := by rw [w64_id (by omega) (by omega)]; omega
      have e3 : w64 (((m + 1 : Nat) : Int) - 1) = (m : Int) := by rw [w64_id (by omega) (by omega)]; omega
      rw [e2, e3]
      refine Ex.mono (someVersions_loop h m (i + 5) _ zs (by omega) (by omega) (by omega)) ?_
      rintro r ⟨r1, r2, r3⟩
      exact ⟨r1, by omega, by omega⟩

theorem someVersions_ex {x1 : List Int} {k2 : Nat} (h : Rd x1 k2) {i : Int} (h0 : 0 ≤ i) (h1 : i ≤ 700000000) :
    Ex (fun n => spec_someVersions n x1 k2 i) (fun r => 0 ≤ r.1 ∧ r.1 ≤ i + 300 ∧ r.2.length ≤ 20) := by
  unfold spec_someVersions
  refine Ex.bind (pick_ex h h0 (by omega) (by omega) (by omega)) (fun a ha => ?_)
  have e1 : w64 (i + 1) = i + 1 := w64_id (by omega) (by omega)
  rw [e1]
  refine Ex.bind (one_ex h (by omega) (by omega) (by simp) (by simp)) ?_
  rintro ⟨c, m⟩ ⟨hc, hm⟩
  have hc : c = i + 2 := by simp at hc; omega
  subst hc
  have hm : 0 ≤ m ∧ m ≤ 20 := by
    simp only [List.mem_cons, List.not_mem_nil, or_false] at hm
    omega
  obtain ⟨m, rfl⟩ : ∃ k : Nat, m = k := ⟨m.toNat, by omega⟩
  refine Ex.bind (someVersions_loop h m (i + 2) a [] (by omega) (by omega) (by simp; omega)) ?_
  rintro ⟨j, xs⟩ ⟨j1, j2, j3⟩
  simp only [List.length_nil, Nat.zero_add] at j1 j2 j3 ⊢
  refine Ex.bind (P := fun r : Int × Bool => 0 ≤ r.1 ∧ r.1 ≤ i + 260 ∧ (r.2 = true → 0 < xs.length)) ?_ ?_
  · refine Ex.ite (fun hb => ?_) (fun hb => ?_)
    · have := of_decide_eq_true hb
      refine Ex.bind (pick_ex h (by omega) (by omega) (by omega) (by omega)) (fun q hq => ?_)
      refine Ex.ret ⟨?_, ?_, fun _ => by omega⟩ <;> simp only <;> rw [w64_id (by omega) (by omega)] <;> omega
    · exact Ex.ret ⟨by omega, by simp only; omega, by simp⟩
  · rintro ⟨j, b⟩ ⟨q1, q2, q3⟩
    simp only at q1 q2 q3 ⊢
    refine Ex.bind (P := fun r : Int × List Ver => 0 ≤ r.1 ∧ r.1 ≤ i + 300 ∧ r.2.length ≤ 20) ?_ ?_
    · refine Ex.ite (fun hb => ?_) (fun hb => ?_)
      · have := q3 hb
        refine Ex.bind (pick_ex h (by omega) (by omega) (by omega) (by omega)) (fun q hq => ?_)
        have e2 : w64 (j + 1) = j + 1 := w64_id (by omega) (by omega)
        rw [e2]
        refine Ex.bind (one_ex h (by omega) (by omega) (by simp) (by simp)) ?_
        rintro ⟨c1, d1⟩ ⟨hc1, _⟩
        have hc1 : c1 = j + 2 := by simp at hc1; omega
        subst hc1
        refine Ex.bind (one_ex h (by omega) (by omega) (by simp) (by simp)) ?_
        rintro ⟨c2, d2⟩ ⟨hc2, _⟩
        have hc2 : c2 = j + 3 := by simp at hc2; omega
        subst hc2
        refine Ex.bind (one_ex h (by omega) (by omega) (by simp) (by simp)) ?_
        rintro ⟨c3, d3⟩ ⟨hc3, _⟩
        have hc3 : c3 = j + 4 := by simp at hc3; omega
        subst hc3
        exact Ex.guard (by omega) (Ex.ret ⟨by simp only; omega, by simp only; omega, by simpa using by omega⟩)
      · exact Ex.ret ⟨by omega, by simp only; omega, by simp only; omega⟩
    · rintro ⟨j, ys⟩ hj
      exact Ex.ret hj

theorem drawValid_ex {x1 : List Int} (h : ∀ b ∈ x1, 0 ≤ b ∧ b ≤ 255) (hl : x1.length ≤ 1048576) : Ex (fun n => spec_DrawValidVersions n x1) (fun v => v.length ≤ 20) := by
  unfold spec_DrawValidVersions
  refine Ex.bind (newReader_ex h (by omega)) (fun k hk => ?_)
  refine Ex.bind (someVersions_ex hk (Int.le_refl 0) (by omega)) ?_
  rintro ⟨i, xs⟩ ⟨_, _, h3⟩
  exact Ex.ret h3
end Go.Proofs.Ytnaogmahijgibaa
