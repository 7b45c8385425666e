/- Plain facts: the laws on pruned versions. Conditions: none. -/
import Derived.Test.YtnaogmahijgibaaP7
namespace Go.Proofs.Ytnaogmahijgibaa
open Go

/-- versions without those that nobody reads -/
def prune (now : Int) : List Ver → List Ver
  | [] => []
  | x :: l => if l.any (vis x.node now) = true then prune now l else x :: prune now l

theorem vis_mono {node t t' : Int} (h : t ≤ t') {x : Ver} (hv : vis node t x = true) : vis node t' x = true := by
  unfold vis at hv ⊢
  simp only [Bool.and_eq_true, decide_eq_true_eq] at hv ⊢
  exact ⟨hv.1, by omega⟩
theorem any_mono {node t t' : Int} (h : t ≤ t') {l : List Ver} (hv : l.any (vis node t) = true) : l.any (vis node t') = true := by
  rw [List.any_eq_true] at hv ⊢
  obtain ⟨x, hx, hv⟩ := hv
  exact ⟨x, hx, vis_mono h hv⟩
theorem prune_sub (now : Int) : ∀ l, (prune now l).Sublist l
  | [] => List.Sublist.slnil
  | x :: l => by
    unfold prune
    split
    · exact (prune_sub now l).cons x
    · exact (prune_sub now l).cons_cons x
theorem any_prune {node t t' : Int} (h : t ≤ t') : ∀ l, (prune t l).any (vis node t') = l.any (vis node t')
  | [] => rfl
  | x :: l => by
    unfold prune
    split
    · rename_i hd
      rw [any_prune h l, List.any_cons]
      cases hv : vis node t' x with
      | false => rfl
      | true =>
        have hn : x.node = node := by
          unfold vis at hv
          simp only [Bool.and_eq_true, decide_eq_true_eq] at hv
          exact hv.1
        rw [hn] at hd
        rw [any_mono h hd]; rfl
    · rw [List.any_cons, List.any_cons, any_prune h l]
theorem prune_prune {t t' : Int} (h : t ≤ t') : ∀ l, prune t' (prune t l) = prune t' l
  | [] => rfl
  | x :: l => by
    have ih := prune_prune h l
    conv => lhs; rw [prune]
    split
    · rename_i hd
      rw [ih, prune, if_pos (any_mono h hd)]
    · rw [prune, any_prune h, ih]
      conv => rhs; rw [prune]
theorem prune_pair (now : Int) : ∀ l, (prune now l).Pairwise (fun a b => vis a.node now b = false)
  | [] => List.Pairwise.nil
  | x :: l => by
    unfold prune
    split
    · exact prune_pair now l
    · rename_i hd
      refine List.Pairwise.cons (fun y hy => ?_) (prune_pair now l)
      rw [Bool.eq_false_iff]
      intro hv
      exact hd (List.any_eq_true.2 ⟨y, (prune_sub now l).subset hy, hv⟩)
theorem rd_prune {node t t' : Int} (h : t ≤ t') : ∀ l, rd (prune t l) node t' = rd l node t'
  | [] => rfl
  | x :: l => by
    have ih := rd_prune h (node := node) l
    unfold prune
    split
    · rename_i hd
      rw [ih]
      unfold rd
      rw [List.filter_cons]
      cases hv : vis node t' x with
      | false => simp
      | true =>
        have hn : x.node = node := by
          unfold vis at hv
          simp only [Bool.and_eq_true, decide_eq_true_eq] at hv
          exact hv.1
        rw [hn] at hd
        obtain ⟨y, hy, hy2⟩ := List.any_eq_true.1 (any_mono h hd)
        have : l.filter (vis node t') ≠ [] := List.ne_nil_of_mem (List.mem_filter.2 ⟨hy, hy2⟩)
        generalize l.filter (vis node t') = z at this ⊢
        cases z with
        | nil => exact absurd rfl this
        | cons a b => simp
    · unfold rd at ih ⊢
      rw [List.filter_cons, List.filter_cons]
      split
      · rw [List.getLast?_cons, List.getLast?_cons, ih]
      · exact ih

def pruneR (xs : List Ver) (now : Int) : List Ver := if validI xs = true ∧ 0 ≤ now ∧ now ≤ 100 then prune now xs else []

theorem drop_cons {α : Type} {xs : List α} {k : Nat} (d : α) (h : k < xs.length) : xs.drop k = xs.getD k d :: xs.drop (k + 1) := by
  rw [List.drop_eq_getElem_cons h, getD_eq h]

theorem outdated_ex {xs : List Ver} (hl : xs.length ≤ 1000000) (node now : Int) : Ex (fun n => impl_isOutdated n xs node now) (· = xs.any (vis node now)) := by
  have loop : ∀ (m k : Nat), k + m = xs.length → Ex (fun n => slices_IndexFunc_Version_impl_isOutdated_1_L1 xs node now n (k : Int)) (fun r => match r with
      | .inl i => 0 ≤ i ∧ (xs.drop k).any (vis node now) = true
      | .inr _ => (xs.drop k).any (vis node now) = false) := by
    intro m
    induction m with
    | zero =>
      intro k hk
      refine Ex.succ ?_
      simp only [slices_IndexFunc_Version_impl_isOutdated_1_L1]
      refine Ex.no (decide_eq_false (by omega)) (Ex.ret ?_)
      rw [List.drop_of_length_le (by omega)]; rfl
    | succ m ih =>
      intro k hk
      refine Ex.succ ?_
      simp only [slices_IndexFunc_Version_impl_isOutdated_1_L1, Int.toNat_natCast]
      refine Ex.yes (decide_eq_true (by omega)) (Ex.guard (by omega) ?_)
      rw [w64_succ (by omega)]
      have e : impl_isOutdated_1 (xs.getD k dver) node now = vis node now (xs.getD k dver) := rfl
      rw [e, drop_cons dver (show k < xs.length by omega), List.any_cons]
      refine Ex.ite (fun hb => ?_) (fun hb => ?_)
      · exact Ex.ret ⟨by omega, by rw [hb]; rfl⟩
      · rw [hb]
        exact ih (k + 1) (by omega)
  unfold impl_isOutdated slices_ContainsFunc_Version_impl_isOutdated_1 slices_IndexFunc_Version_impl_isOutdated_1
  have h0 := loop xs.length 0 (by omega)
  rw [List.drop_zero] at h0
  refine Ex.be (a := xs.any (vis node now)) ?_ (Ex.ret rfl)
  refine Ex.bind (P := fun i : Int => decide (0 ≤ i) = xs.any (vis node now)) ?_ (fun i hi => Ex.ret hi)
  refine Ex.bind h0 ?_
  intro r hr
  cases r with
  | inl i => exact Ex.ret (by rw [hr.2]; exact decide_eq_true hr.1)
  | inr _ => exact Ex.ret (by rw [hr]; decide)

theorem implPrune_loop {xs : List Ver} (hl : xs.length ≤ 1000000) (now : Int) : ∀ (m k : Nat) (acc : List Ver), k + m = xs.length → acc.length ≤ k →
    Ex (fun n => impl_PruneVersions_L1 xs now n acc (k : Int)) (· = acc ++ prune now (xs.drop k))
  | 0, k, acc, hk, ha => by
    refine Ex.succ ?_
    simp only [impl_PruneVersions_L1]
    refine Ex.no (decide_eq_false (by omega)) (Ex.ret ?_)
    rw [List.drop_of_length_le (by omega)]; simp [prune]
  | m + 1, k, acc, hk, ha => by
    refine Ex.succ ?_
    simp only [impl_PruneVersions_L1, Int.toNat_natCast]
    rw [w64_succ (by omega)]
    simp only [Int.toNat_natCast, view_tail]
    refine Ex.yes (decide_eq_true (by omega)) (Ex.guard (by omega) (Ex.guard (by omega) ?_))
    refine Ex.be (outdated_ex (by simp; omega) _ _) ?_
    have hx : (⟨(xs.getD k dver).node, (xs.getD k dver).value, (xs.getD k dver).tm⟩ : Ver) = xs.getD k dver := rfl
    rw [hx, view_all, drop_cons dver (show k < xs.length by omega), prune]
    cases hb : (xs.drop (k + 1)).any (vis (xs.getD k dver).node now) with
    | true =>
      refine Ex.be (Ex.no rfl (Ex.ret rfl)) ?_
      exact implPrune_loop hl now m (k + 1) acc (by omega) (by omega)
    | false =>
      refine Ex.be (Ex.yes rfl (Ex.guard (by simp; omega) (Ex.ret rfl))) ?_
      refine Ex.mono (implPrune_loop hl now m (k + 1) (acc ++ [xs.getD k dver]) (by omega) (by simp; omega)) ?_
      rintro r rfl
      simp

theorem implPrune_ex {xs : List Ver} (hl : xs.length ≤ 1000000) (now : Int) : Ex (fun n => impl_PruneVersions n xs now) (· = pruneR xs now) := by
  unfold impl_PruneVersions pruneR
  refine Ex.be (implValid_ex (by omega)) ?_
  by_cases h : validI xs = true ∧ 0 ≤ now ∧ now ≤ 100
  · rw [if_pos h]
    refine Ex.no (by rw [h.1]; unfold impl_within; rw [decide_eq_true h.2.1, decide_eq_true h.2.2]; rfl) ?_
    refine Ex.be (implPrune_loop hl now xs.length 0 [] (by omega) (by simp)) (Ex.ret ?_)
    simp
  · rw [if_neg h]
    refine Ex.yes ?_ (Ex.ret rfl)
    rw [Bool.or_eq_true]
    by_cases hv : validI xs = true
    · right
      unfold impl_within
      rw [Bool.not_eq_true', Bool.and_eq_false_iff, decide_eq_false_iff_not, decide_eq_false_iff_not]
      by_cases h1 : 0 ≤ now
      · exact .inr (fun h2 => h ⟨hv, h1, h2⟩)
      · exact .inl h1
    · left
      simp [hv]

/-- the last place where something holds -/
def LastIs (p : Ver → Bool) (xs : List Ver) (len : Nat) (i : Int) : Prop := (i = -1 ∨ ∃ j : Nat, j < len ∧ i = j ∧ p (xs.getD j dver) = true) ∧ ∀ j : Nat, j < len → i < j → p (xs.getD j dver) = false

theorem asOf2_loop {xs : List Ver} (hl : xs.length < 1099511627776) (node now : Int) : ∀ (m k : Nat) (a : Int), k + m = xs.length → LastIs (vis node now) xs k a →
    Ex (fun n => spec_asOf_L1 xs node now n a (k : Int)) (fun i => LastIs (vis node now) xs xs.length i)
  | 0, k, a, hk, ha => by
    refine Ex.succ ?_
    simp only [spec_asOf_L1]
    obtain rfl : k = xs.length := by omega
    exact Ex.no (decide_eq_false (by omega)) (Ex.ret ha)
  | m + 1, k, a, hk, ha => by
    refine Ex.succ ?_
    simp only [spec_asOf_L1, Int.toNat_natCast]
    refine Ex.yes (decide_eq_true (by omega)) (Ex.guard (by omega) ?_)
    refine vis_body (by omega) ?_
    rw [w64_succ (by omega)]
    cases hb : vis node now (xs.getD k dver) with
    | true =>
      refine Ex.be (Ex.yes rfl (Ex.ret rfl)) (asOf2_loop hl node now m (k + 1) k (by omega) ?_)
      exact ⟨.inr ⟨k, by omega, rfl, hb⟩, fun j h1 h2 => by omega⟩
    | false =>
      refine Ex.be (Ex.no rfl (Ex.ret rfl)) (asOf2_loop hl node now m (k + 1) a (by omega) ?_)
      obtain ⟨h1, h2⟩ := ha
      refine ⟨?_, fun j h3 h4 => ?_⟩
      · rcases h1 with h1 | ⟨j, h3, h4⟩
        · exact .inl h1
        · exact .inr ⟨j, by omega, h4⟩
      · rcases Nat.lt_or_ge j k with h5 | h5
        · exact h2 j h5 h4
        · obtain rfl : j = k := by omega
          exact hb

theorem asOf2_ex {xs : List Ver} (hl : xs.length < 1099511627776) (node now : Int) : Ex (fun n => spec_asOf n xs node now) (fun i => LastIs (vis node now) xs xs.length i) := by
  unfold spec_asOf
  exact Ex.bind (asOf2_loop hl node now xs.length 0 (-1) (by omega) ⟨.inl rfl, fun j h => by omega⟩) (fun i hi => Ex.ret hi)

theorem last_any {p : Ver → Bool} {xs : List Ver} {i : Int} (h : LastIs p xs xs.length i) (k : Nat) : decide (i ≤ (k : Int)) = !((xs.drop (k + 1)).any p) := by
  obtain ⟨h1, h2⟩ := h
  by_cases hi : i ≤ (k : Int)
  · rw [decide_eq_true hi]
    have : (xs.drop (k + 1)).any p = false := by
      rw [List.any_eq_false]
      intro x hx
      obtain ⟨j, hj, rfl⟩ := List.mem_iff_getElem.1 hx
      rw [List.getElem_drop]
      have := h2 (k + 1 + j) (by simp at hj; omega) (by omega)
      rw [getD_eq (by simp at hj; omega)] at this
      simp [this]
    rw [this]; rfl
  · rw [decide_eq_false hi]
    rcases h1 with h1 | ⟨j, h3, rfl, h4⟩
    · omega
    · have : (xs.drop (k + 1)).any p = true := by
        rw [List.any_eq_true]
        rw [getD_eq h3] at h4
        refine ⟨xs[j], ?_, h4⟩
        rw [List.mem_iff_getElem]
        refine ⟨j - (k + 1), by simp; omega, ?_⟩
        rw [List.getElem_drop]
        congr 1
        omega
      rw [this]; rfl

theorem specPrune_loop {xs : List Ver} (hl : xs.length ≤ 1000000) (now : Int) : ∀ (m k : Nat) (acc : List Ver), k + m = xs.length → acc.length ≤ k →
    Ex (fun n => spec_PruneVersions_L1 xs now n acc (k : Int)) (· = acc ++ prune now (xs.drop k))
  | 0, k, acc, hk, ha => by
    refine Ex.succ ?_
    simp only [spec_PruneVersions_L1]
    refine Ex.no (decide_eq_false (by omega)) (Ex.ret ?_)
    rw [List.drop_of_length_le (by omega)]; simp [prune]
  | m + 1, k, acc, hk, ha => by
    refine Ex.succ ?_
    simp only [spec_PruneVersions_L1, Int.toNat_natCast]
    rw [w64_succ (by omega)]
    refine Ex.yes (decide_eq_true (by omega)) (Ex.guard (by omega) ?_)
    refine Ex.bind (asOf2_ex (by omega) _ _) (fun i hi => ?_)
    have hx : (⟨(xs.getD k dver).node, (xs.getD k dver).value, (xs.getD k dver).tm⟩ : Ver) = xs.getD k dver := rfl
    rw [hx, view_all, drop_cons dver (show k < xs.length by omega), prune, last_any hi k]
    cases hb : (xs.drop (k + 1)).any (vis (xs.getD k dver).node now) with
    | true =>
      refine Ex.be (Ex.no rfl (Ex.ret rfl)) ?_
      exact specPrune_loop hl now m (k + 1) acc (by omega) (by omega)
    | false =>
      refine Ex.be (Ex.yes rfl (Ex.guard (by omega) (Ex.guard (by simp; omega) (Ex.ret rfl)))) ?_
      refine Ex.mono (specPrune_loop hl now m (k + 1) (acc ++ [xs.getD k dver]) (by omega) (by simp; omega)) ?_
      rintro r rfl
      simp

theorem specPrune_ex {xs : List Ver} (hl : xs.length ≤ 1000000) (now : Int) : Ex (fun n => spec_PruneVersions n xs now) (· = pruneR xs now) := by
  unfold spec_PruneVersions pruneR
  refine Ex.be (specValid_ex (by omega)) ?_
  by_cases h : validI xs = true ∧ 0 ≤ now ∧ now ≤ 100
  · rw [if_pos h]
    refine Ex.no (by rw [h.1]; unfold spec_inRange; rw [decide_eq_true h.2.1, decide_eq_true h.2.2]; rfl) ?_
    refine Ex.be (specPrune_loop hl now xs.length 0 [] (by omega) (by simp)) (Ex.ret ?_)
    simp
  · rw [if_neg h]
    refine Ex.yes ?_ (Ex.ret rfl)
    rw [Bool.or_eq_true]
    by_cases hv : validI xs = true
    · right
      unfold spec_inRange
      rw [Bool.not_eq_true', Bool.and_eq_false_iff, decide_eq_false_iff_not, decide_eq_false_iff_not]
      by_cases h1 : 0 ≤ now
      · exact .inr (fun h2 => h ⟨hv, h1, h2⟩)
      · exact .inl h1
    · left
      simp [hv]

theorem pruneR_len (xs : List Ver) (now : Int) : (pruneR xs now).length ≤ xs.length := by
  unfold pruneR
  split
  · exact (prune_sub now xs).length_le
  · simp
theorem pruneR_pos {xs : List Ver} {now : Int} (h : (pruneR xs now).length ≠ 0) : validI xs = true ∧ 0 ≤ now ∧ now ≤ 100 ∧ pruneR xs now = prune now xs ∧ validI (prune now xs) = true := by
  unfold pruneR at h ⊢
  split at h
  · rename_i hc
    exact ⟨hc.1, hc.2.1, hc.2.2, if_pos hc, validI_iff.2 ((validI_iff.1 hc.1).sub (prune_sub now xs))⟩
  · exact absurd rfl h

theorem drawPrune_ex {x1 : List Int} (h : ∀ b ∈ x1, 0 ≤ b ∧ b ≤ 255) (hl : x1.length ≤ 1048576) : Ex (fun n => spec_DrawPruneVersions n x1) (fun r => r.1.length ≤ 20 ∧ -1000 ≤ r.2 ∧ r.2 ≤ 1000) := by
  unfold spec_DrawPruneVersions
  refine Ex.bind (newReader_ex h (by omega)) (fun k hk => ?_)
  refine Ex.bind (someVersions_ex hk (Int.le_refl 0) (by omega)) ?_
  rintro ⟨i, xs⟩ ⟨h1, h2, h3⟩
  simp only at h1 h2 h3 ⊢
  refine Ex.bind (pick_ex hk h1 (by omega) (by omega) (by omega)) (fun a ha => ?_)
  rw [w64_id (n := i + 1) (by omega) (by omega)]
  refine Ex.bind (one_ex hk (by omega) (by omega) (by simp) (by simp)) ?_
  rintro ⟨c, d⟩ ⟨_, hd⟩
  simp only [List.mem_cons, List.not_mem_nil, or_false] at hd
  exact Ex.ret ⟨h3, by simp only; omega⟩

theorem law_FnPruneVersionsLater (x0 : List Int) (h0 : x0.length ≤ 9223372036854775807 ∧ ∀ x ∈ x0, RC.wf .u8 x) : ∃ n, laws_FnPruneVersionsLater n x0 = some true := by
  refine Ex.get ?_
  unfold laws_FnPruneVersionsLater
  refine Ex.code rfl (fun hl => ?_)
  refine Ex.bind (drawPrune_ex (u8_wf h0.2) hl) ?_
  rintro ⟨v, now⟩ ⟨hv, hn1, hn2⟩
  simp only at hv hn1 hn2 ⊢
  have hlen := pruneR_len v now
  refine Ex.be (implPrune_ex (by omega) _) (Ex.be (specPrune_ex (by omega) _) (Ex.be (equalVer_ex (by omega)) ?_))
  rw [w64_id (n := now + 5) (by omega) (by omega)]
  by_cases hz : (pruneR v now).length = 0
  · exact Ex.yes (by simp [hz]) (Ex.be (specPrune_ex (by omega) _) (Ex.be (equalVer_ex (by omega)) (Ex.ret rfl)))
  · by_cases ht : 100 < now + 5
    · exact Ex.yes (by simp [ht]) (Ex.be (specPrune_ex (by omega) _) (Ex.be (equalVer_ex (by omega)) (Ex.ret rfl)))
    · obtain ⟨h1, h2, h3, h4, h5⟩ := pruneR_pos hz
      refine Ex.no (by simp [hz, ht]) (Ex.be (implPrune_ex (by omega) _) ?_)
      have e1 : pruneR v (now + 5) = prune (now + 5) v := if_pos ⟨h1, by omega, by omega⟩
      have e2 : pruneR (pruneR v now) (now + 5) = prune (now + 5) v := by
        rw [h4]
        unfold pruneR
        rw [if_pos ⟨h5, by omega, by omega⟩]
        exact prune_prune (by omega) v
      have hle : (pruneR v (now + 5)).length ≤ (pruneR v now).length := by
        rw [e1, ← e2, h4]
        exact pruneR_len _ _
      have hle2 := pruneR_len v (now + 5)
      refine Ex.be (a := true) (Ex.yes (decide_eq_true (by omega)) (Ex.be (implPrune_ex (by omega) _) ?_)) (Ex.ret rfl)
      rw [e2, ← e1]
      exact Ex.be (equalVer_ex (by omega)) (Ex.ret rfl)

theorem twice_in {out : List Ver} (hl : out.length ≤ 1000) {now : Int} (hp : out.Pairwise (fun a b => vis a.node now b = false)) {x1 : List Int} {i : Nat} (hi : i < out.length) : ∀ (m k : Nat), k + m = i →
    Ex (fun n => laws_FnPruneVersionsTwice_L2 now out (i : Int) x1 n (k : Int)) (· = .inr ())
  | 0, k, hk => by
    refine Ex.succ ?_
    simp only [laws_FnPruneVersionsTwice_L2]
    exact Ex.no (decide_eq_false (by omega)) (Ex.ret rfl)
  | m + 1, k, hk => by
    refine Ex.succ ?_
    simp only [laws_FnPruneVersionsTwice_L2, Int.toNat_natCast]
    refine Ex.yes (decide_eq_true (by omega)) (Ex.guard (by omega) (Ex.guard (by omega) ?_))
    rw [w64_succ (by omega)]
    have h1 := List.pairwise_iff_getElem.1 hp k i (by omega) hi (by omega)
    refine Ex.be (a := vis (out.getD k dver).node now (out.getD i dver)) ?_ ?_
    · refine Ex.ite (fun hb => ?_) (fun hb => ?_)
      · exact Ex.guard (by omega) (Ex.ret (by unfold vis; rw [hb]; rfl))
      · exact Ex.ret (by unfold vis; rw [hb]; rfl)
    · rw [getD_eq hi, getD_eq (show k < out.length by omega), h1]
      exact Ex.no rfl (twice_in hl hp hi m (k + 1) (by omega))
theorem twice_out {out : List Ver} (hl : out.length ≤ 1000) {now : Int} (hp : out.Pairwise (fun a b => vis a.node now b = false)) {x1 : List Int} : ∀ (m k : Nat), k + m = out.length →
    Ex (fun n => laws_FnPruneVersionsTwice_L1 now out x1 n (k : Int)) (· = .inr ())
  | 0, k, hk => by
    refine Ex.succ ?_
    simp only [laws_FnPruneVersionsTwice_L1]
    exact Ex.no (decide_eq_false (by omega)) (Ex.ret rfl)
  | m + 1, k, hk => by
    refine Ex.succ ?_
    simp only [laws_FnPruneVersionsTwice_L1]
    refine Ex.yes (decide_eq_true (by omega)) (Ex.be (twice_in hl hp (by omega) k 0 (by omega)) ?_)
    rw [w64_succ (by omega)]
    exact twice_out hl hp m (k + 1) (by omega)

theorem law_FnPruneVersionsTwice (x0 : List Int) (h0 : x0.length ≤ 9223372036854775807 ∧ ∀ x ∈ x0, RC.wf .u8 x) : ∃ n, laws_FnPruneVersionsTwice n x0 = some true := by
  refine Ex.get ?_
  unfold laws_FnPruneVersionsTwice
  refine Ex.code rfl (fun hl => ?_)
  refine Ex.bind (drawPrune_ex (u8_wf h0.2) hl) ?_
  rintro ⟨v, now⟩ ⟨hv, hn1, hn2⟩
  simp only at hv hn1 hn2 ⊢
  have hlen := pruneR_len v now
  refine Ex.be (implPrune_ex (by omega) _) (Ex.be (specPrune_ex (by omega) _) (Ex.be (equalVer_ex (by omega)) ?_))
  by_cases hz : (pruneR v now).length = 0
  · exact Ex.yes (by simp [hz]) (Ex.be (specPrune_ex (by omega) _) (Ex.be (equalVer_ex (by omega)) (Ex.ret rfl)))
  · obtain ⟨h1, h2, h3, h4, h5⟩ := pruneR_pos hz
    refine Ex.no (by simp [hz]) (Ex.be (twice_out (by omega) (by rw [h4]; exact prune_pair now v) _ 0 (Nat.zero_add _)) ?_)
    have e : pruneR (pruneR v now) now = pruneR v now := by
      rw [h4]
      unfold pruneR
      rw [if_pos ⟨h5, h2, h3⟩]
      exact prune_prune (Int.le_refl _) v
    refine Ex.be (implPrune_ex (by omega) _) ?_
    rw [e]
    exact Ex.be (equalVer_ex (by omega)) (Ex.ret rfl)

theorem law_FnExactPruneVersions (xs : List Ver) (now : Int) (h0 : xs.length ≤ 9223372036854775807 ∧ ∀ x ∈ xs, RC.wf .ver x) (_ : -9223372036854775808 ≤ now ∧ now ≤ 9223372036854775807) : ∃ n, laws_FnExactPruneVersions n xs now = some true := by
  refine Ex.get ?_
  by_cases hbig : xs.length ≤ 1000000
  · unfold laws_FnExactPruneVersions
    refine Ex.sz rfl h0.1 (fun hl => ?_)
    have hlen := pruneR_len xs now
    refine Ex.be (toVer_ex hl) (Ex.be (specPrune_ex hbig _) (Ex.be (toVer_ex hl) (Ex.be (implPrune_ex hbig _) ?_)))
    refine Ex.be (eqVer_ex (by omega)) (Ex.no rfl (Ex.be (toVer_ex hl) (Ex.be (eqVer_ex (by omega)) (Ex.no rfl ?_))))
    refine Ex.bind (mark_ex (by omega)) ?_
    rintro ⟨ys, i⟩ ⟨h1, h2, h3⟩
    simp only at h1 h2 h3 ⊢
    refine Ex.guard h1.symm ?_
    refine Ex.be (a := false) (Ex.no (decide_eq_false (by omega)) (Ex.be (eqVer_ex (by omega)) (Ex.ret rfl))) (Ex.no rfl ?_)
    refine Ex.bind (mark_ex (by omega)) ?_
    rintro ⟨zs, j⟩ ⟨k1, k2, k3⟩
    simp only at k1 k2 k3 ⊢
    refine Ex.guard k1.symm (Ex.be (held_ex (by omega) k3) (Ex.no (decide_eq_false (by omega)) (Ex.no (by rw [k1, k2]; simp) ?_)))
    refine Ex.be (toVer_ex hl) (Ex.be (implPrune_ex hbig _) ?_)
    refine Ex.be (eqVer_ex (by omega)) (Ex.no rfl ?_)
    exact Ex.be (held_ex (by omega) k3) (Ex.no (decide_eq_false (by omega)) (Ex.no (by rw [k1, k2]; simp) (Ex.ret rfl)))
  · unfold laws_FnExactPruneVersions
    refine Ex.sz rfl h0.1 (fun hl => ?_)
    have hval : validI xs = false := by
      unfold validI
      rw [decide_eq_false (by omega)]; rfl
    have hI : Ex (fun n => impl_PruneVersions n xs now) (· = []) := by
      unfold impl_PruneVersions
      refine Ex.be (implValid_ex (by omega)) (Ex.yes (by rw [hval]; rfl) (Ex.ret rfl))
    have hS : Ex (fun n => spec_PruneVersions n xs now) (· = []) := by
      unfold spec_PruneVersions
      refine Ex.be (specValid_ex (by omega)) (Ex.yes (by rw [hval]; rfl) (Ex.ret rfl))
    refine Ex.be (toVer_ex hl) (Ex.be hS (Ex.be (toVer_ex hl) (Ex.be hI ?_)))
    refine Ex.be (eqVer_ex (by simp)) (Ex.no rfl (Ex.be (toVer_ex hl) (Ex.be (eqVer_ex (by omega)) (Ex.no rfl ?_))))
    refine Ex.bind (mark_ex (by omega)) ?_
    rintro ⟨ys, i⟩ ⟨h1, h2, h3⟩
    simp only at h1 h2 h3 ⊢
    refine Ex.guard h1.symm ?_
    refine Ex.be (a := false) (Ex.no (decide_eq_false (by omega)) (Ex.be (eqVer_ex (by simp)) (Ex.ret rfl))) (Ex.no rfl ?_)
    refine Ex.bind (mark_ex (by simp)) ?_
    rintro ⟨zs, j⟩ ⟨k1, k2, k3⟩
    simp only [List.length_nil] at k1 k2 k3 ⊢
    refine Ex.guard k1.symm (Ex.be (held_ex (by omega) k3) (Ex.no (decide_eq_false (by omega)) (Ex.no (by rw [k1, k2]; simp) ?_)))
    refine Ex.be (toVer_ex hl) (Ex.be hI ?_)
    refine Ex.be (eqVer_ex (by simp)) (Ex.no rfl ?_)
    exact Ex.be (held_ex (by omega) k3) (Ex.no (decide_eq_false (by omega)) (Ex.no (by rw [k1, k2]; simp) (Ex.ret rfl)))

theorem prune_in {v out : List Ver} (hl : v.length ≤ 1000) (hlo : out.length ≤ 1000) {now node : Int} (hn : 0 ≤ now ∧ now ≤ 100) (hr : ∀ t, now ≤ t → rdR v node t = rdR out node t) {x1 : List Int} : ∀ (m : Nat) (t : Int), now ≤ t → t + m = now + 9 →
    Ex (fun n => laws_FnPruneVersions_L2 v now out node x1 n t) (· = .inr ())
  | 0, t, h1, h2 => by
    refine Ex.succ ?_
    simp only [laws_FnPruneVersions_L2]
    rw [w64_id (n := now + 8) (by omega) (by omega)]
    exact Ex.no (decide_eq_false (by omega)) (Ex.ret rfl)
  | m + 1, t, h1, h2 => by
    refine Ex.succ ?_
    simp only [laws_FnPruneVersions_L2]
    rw [w64_id (n := now + 8) (by omega) (by omega), w64_id (n := t + 1) (by omega) (by omega)]
    refine Ex.yes (decide_eq_true (by omega)) (Ex.be (implRead_ex (by omega) _ _) (Ex.be (implRead_ex (by omega) _ _) ?_))
    rw [hr t h1]
    exact Ex.no (by simp) (prune_in hl hlo hn hr m (t + 1) (by omega) (by omega))
theorem prune_out {v out : List Ver} (hl : v.length ≤ 1000) (hlo : out.length ≤ 1000) {now : Int} (hn : 0 ≤ now ∧ now ≤ 100) (hr : ∀ node t, now ≤ t → rdR v node t = rdR out node t) {x1 : List Int} : ∀ (m k : Nat), k + m = 12 →
    Ex (fun n => laws_FnPruneVersions_L1 v now out x1 n (k : Int)) (· = .inr ())
  | 0, k, hk => by
    refine Ex.succ ?_
    simp only [laws_FnPruneVersions_L1]
    exact Ex.no (decide_eq_false (by omega)) (Ex.ret rfl)
  | m + 1, k, hk => by
    refine Ex.succ ?_
    simp only [laws_FnPruneVersions_L1]
    refine Ex.yes (decide_eq_true (by omega)) (Ex.be (prune_in hl hlo hn (hr _) 9 now (Int.le_refl _) (by omega)) ?_)
    rw [w64_succ (by omega)]
    exact prune_out hl hlo hn hr m (k + 1) (by omega)

theorem law_FnPruneVersions (x0 : List Int) (h0 : x0.length ≤ 9223372036854775807 ∧ ∀ x ∈ x0, RC.wf .u8 x) : ∃ n, laws_FnPruneVersions n x0 = some true := by
  refine Ex.get ?_
  unfold laws_FnPruneVersions
  refine Ex.code rfl (fun hl => ?_)
  refine Ex.bind (drawPrune_ex (u8_wf h0.2) hl) ?_
  rintro ⟨v, now⟩ ⟨hv, hn1, hn2⟩
  simp only at hv hn1 hn2 ⊢
  have hlen := pruneR_len v now
  refine Ex.be (implPrune_ex (by omega) _) (Ex.be (specPrune_ex (by omega) _) (Ex.be (equalVer_ex (by omega)) ?_))
  by_cases hz : (pruneR v now).length = 0
  · exact Ex.yes (by simp [hz]) (Ex.be (specPrune_ex (by omega) _) (Ex.be (equalVer_ex (by omega)) (Ex.ret rfl)))
  · obtain ⟨h1, h2, h3, h4, h5⟩ := pruneR_pos hz
    have hr : ∀ node t, now ≤ t → rdR v node t = rdR (pruneR v now) node t := by
      intro node t ht
      rw [h4]
      simp only [rdR, h1, h5, rd_prune ht]
    refine Ex.no (by simp [hz]) (Ex.be (prune_out (by omega) (by omega) ⟨h2, h3⟩ hr 12 0 rfl) ?_)
    refine Ex.be (implValid_ex (by omega)) (Ex.ret ?_)
    rw [h4, h5]
    rw [h4] at hlen
    simp only [Bool.true_and, decide_eq_true_eq]
    omega
end Go.Proofs.Ytnaogmahijgibaa
