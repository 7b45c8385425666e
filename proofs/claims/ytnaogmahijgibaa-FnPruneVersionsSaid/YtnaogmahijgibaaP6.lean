/- Plain facts: the laws on valid versions and on reading them. Conditions: none. -/
import Derived.Test.YtnaogmahijgibaaP3
import Derived.Test.YtnaogmahijgibaaP5
namespace Go.Proofs.Ytnaogmahijgibaa
open Go

theorem law_FnValidVersions (x0 : List Int) (h0 : x0.length ≤ 9223372036854775807 ∧ ∀ x ∈ x0, RC.wf .u8 x) : ∃ n, laws_FnValidVersions n x0 = some true := by
  refine Ex.get ?_
  unfold laws_FnValidVersions
  refine Ex.code rfl (fun hl => ?_)
  refine Ex.bind (drawValid_ex (u8_wf h0.2) hl) (fun v hv => ?_)
  refine Ex.be (implValid_ex (by omega)) (Ex.be (specValid2_ex (by omega)) ?_)
  cases hval : validI v with
  | false => exact Ex.yes rfl (Ex.be (specValid2_ex (by omega)) (Ex.ret (by rw [hval]; rfl)))
  | true =>
    by_cases hz : v.length = 0
    · exact Ex.yes (by simp [hz]) (Ex.be (specValid2_ex (by omega)) (Ex.ret (by rw [hval]; rfl)))
    · refine Ex.no (by simp [hz]) ?_
      rw [tmod_nat]
      have hm := Nat.mod_lt x0.length (show 0 < v.length by omega)
      generalize x0.length % v.length = K at hm
      rw [w64_succ (by omega)]
      simp only [Int.toNat_natCast, List.drop_zero, List.nil_append, view_tail]
      refine Ex.guard (by omega) (Ex.guard (by omega) (Ex.guard (by simp; omega) (Ex.guard (by omega) (Ex.guard (by simp; omega) ?_))))
      have h1 : validI (v.take K ++ v.drop (K + 1)) = true := by
        refine validI_iff.2 ((validI_iff.1 hval).sub ?_)
        have := List.eraseIdx_sublist v K
        rwa [List.eraseIdx_eq_take_drop_succ] at this
      refine Ex.be (implValid_ex (by simp; omega)) ?_
      rw [h1]
      refine Ex.be (a := true) (Ex.yes rfl (Ex.be (implValid_ex (by simp)) (Ex.ret (by decide)))) (Ex.ret rfl)

/-- a time later -/
def later (v : Ver) : Ver := ⟨v.node, v.value, v.tm + 1⟩
theorem time_loop {v : List Ver} {x1 : List Int} (hl : v.length ≤ 1000) (hv : ∀ x ∈ v, VerOk x) : ∀ (m k : Nat), k + m = v.length →
    Ex (fun n => laws_FnValidVersionsTime_L1 v x1 n ((v.take k).map later) (k : Int)) (· = v.map later)
  | 0, k, hk => by
    refine Ex.succ ?_
    simp only [laws_FnValidVersionsTime_L1]
    refine Ex.no (decide_eq_false (by omega)) (Ex.ret ?_)
    rw [List.take_of_length_le (by omega)]
  | m + 1, k, hk => by
    refine Ex.succ ?_
    simp only [laws_FnValidVersionsTime_L1, Int.toNat_natCast]
    refine Ex.yes (decide_eq_true (by omega)) (Ex.guard (by omega) (Ex.guard (by omega) (Ex.guard (by omega) (Ex.guard (by simp; omega) ?_))))
    have hx := (hv _ (getD_mem (d := dver) (show k < v.length by omega))).2.2
    rw [w64_succ (by omega), w64_id (by omega) (by omega), view_all]
    have e : (v.take k).map later ++ [(⟨(v.getD k dver).node, (v.getD k dver).value, (v.getD k dver).tm + 1⟩ : Ver)] = (v.take (k + 1)).map later := by
      rw [take_succ dver (by omega), List.map_append]; rfl
    rw [e]
    exact time_loop hl hv m (k + 1) (by omega)

theorem law_FnValidVersionsTime (x0 : List Int) (h0 : x0.length ≤ 9223372036854775807 ∧ ∀ x ∈ x0, RC.wf .u8 x) : ∃ n, laws_FnValidVersionsTime n x0 = some true := by
  refine Ex.get ?_
  unfold laws_FnValidVersionsTime
  refine Ex.code rfl (fun hl => ?_)
  refine Ex.bind (drawValid_ex (u8_wf h0.2) hl) (fun v hv => ?_)
  refine Ex.be (implValid_ex (by omega)) (Ex.be (specValid2_ex (by omega)) ?_)
  cases hval : validI v with
  | false => exact Ex.be (a := true) (Ex.no rfl (Ex.yes rfl (Ex.ret rfl))) (Ex.yes rfl (Ex.be (specValid2_ex (by omega)) (Ex.ret (by rw [hval]; rfl))))
  | true =>
    have hV := validI_iff.1 hval
    by_cases hz : v.length = 0
    · exact Ex.be (a := true) (Ex.no rfl (Ex.no rfl (Ex.yes (by simp [hz]) (Ex.ret rfl)))) (Ex.yes rfl (Ex.be (specValid2_ex (by omega)) (Ex.ret (by rw [hval]; rfl))))
    · have e : w64 ((v.length : Int) - 1) = ((v.length - 1 : Nat) : Int) := by rw [w64_id (by omega) (by omega)]; omega
      rw [e]
      simp only [Int.toNat_natCast]
      refine Ex.be (a := decide ((v.getD (v.length - 1) dver).tm = 100)) (Ex.no rfl (Ex.no rfl (Ex.no (decide_eq_false (by omega)) (Ex.guard (by omega) (Ex.ret rfl))))) ?_
      refine Ex.ite (fun hb => Ex.be (specValid2_ex (by omega)) (Ex.ret (by rw [hval]; rfl))) (fun hb => ?_)
      have hb := of_decide_eq_false hb
      refine Ex.be (time_loop (by omega) hV.ok v.length 0 (by omega)) ?_
      refine Ex.be (implValid_ex (by simp; omega)) (Ex.ret ?_)
      refine validI_iff.2 ⟨by simpa using hV.len, fun x hx => ?_, ?_⟩
      · obtain ⟨y, hy, rfl⟩ := List.mem_map.1 hx
        obtain ⟨i, hi, rfl⟩ := List.mem_iff_getElem.1 hy
        have h1 := hV.ok _ hy
        have h2 : v[i].tm ≤ (v.getD (v.length - 1) dver).tm := by
          rw [getD_eq (by omega)]
          rcases Nat.lt_or_ge i (v.length - 1) with h | h
          · exact (List.pairwise_iff_getElem.1 hV.lt i (v.length - 1) hi (by omega) h).1
          · have : i = v.length - 1 := by omega
            subst this; exact Int.le_refl _
        have h3 := (hV.ok _ (getD_mem (d := dver) (show v.length - 1 < v.length by omega))).2.2
        obtain ⟨g1, g2, g3⟩ := h1
        refine ⟨g1, g2, ?_⟩
        simp only [later]
        omega
      · rw [List.pairwise_map]
        refine hV.lt.imp ?_
        rintro a b ⟨h1, h2⟩
        refine ⟨by simp only [later]; omega, fun e => ?_⟩
        simp only [later] at e ⊢
        exact h2 (by omega)

theorem sz_neg {xs : List Ver} (h : 1048576 < xs.length) (hl : xs.length ≤ 9223372036854775807) : laws_szVersionS xs 1048576 = some (-1) := by
  unfold laws_szVersionS
  have e : w64 (1048576 - (xs.length : Int)) < 0 := by rw [w64_id (by omega) (by omega)]; omega
  rw [decide_eq_true e]; rfl
theorem sz_pos {xs : List Ver} (h : xs.length ≤ 1048576) : laws_szVersionS xs 1048576 = some (1048576 - (xs.length : Int)) := by
  unfold laws_szVersionS
  have e : w64 (1048576 - (xs.length : Int)) = 1048576 - (xs.length : Int) := w64_id (by omega) (by omega)
  rw [e, decide_eq_false (by omega)]; rfl
theorem Ex.sz {f : Nat → Int → Option Bool} {xs : List Ver} {P : Bool → Prop} (ht : P true) (hl : xs.length ≤ 9223372036854775807) (h : xs.length ≤ 1048576 → Ex (fun n => f n (1048576 - (xs.length : Int))) P) :
    Ex (fun n => bindO (laws_szVersionS xs 1048576) fun i => iteO (decide (i < 0)) (some true) (f n i)) P := by
  rcases Nat.lt_or_ge 1048576 xs.length with h1 | h1
  · exact Ex.bc (sz_neg h1 hl) (Ex.yes (by decide) (Ex.ret ht))
  · exact Ex.bc (sz_pos h1) (Ex.no (decide_eq_false (by omega)) (h h1))
theorem toVer_ex {xs : List Ver} (h : xs.length ≤ 1048576) : Ex (fun n => laws_toVersionS n xs) (· = xs) := Ex.of_eq (xs.length + 1) fun n hn => toVersionS_eq (by omega) n (by omega)
theorem eqVer_ex {xs : List Ver} (h : xs.length ≤ 10000000) : Ex (fun n => laws_eqVersionS n xs xs) (· = true) := Ex.of_eq (xs.length + 1) fun n hn => eqVersionS_self (by omega) n (by omega)

theorem law_FnExactReadAsOf (xs : List Ver) (node now : Int) (h0 : xs.length ≤ 9223372036854775807 ∧ ∀ x ∈ xs, RC.wf .ver x) (_ : -9223372036854775808 ≤ node ∧ node ≤ 9223372036854775807) (_ : -9223372036854775808 ≤ now ∧ now ≤ 9223372036854775807) :
    ∃ n, laws_FnExactReadAsOf n xs node now = some true := by
  refine Ex.get ?_
  unfold laws_FnExactReadAsOf
  refine Ex.sz rfl h0.1 (fun hl => ?_)
  refine Ex.be (toVer_ex hl) (Ex.be (specRead_ex (by omega) _ _) (Ex.be (toVer_ex hl) (Ex.be (implRead_ex (by omega) _ _) ?_)))
  refine Ex.no (by simp) (Ex.be (toVer_ex hl) (Ex.be (eqVer_ex (by omega)) (Ex.no rfl (Ex.ret rfl))))

theorem drawRead_ex {x1 : List Int} (h : ∀ b ∈ x1, 0 ≤ b ∧ b ≤ 255) (hl : x1.length ≤ 1048576) : Ex (fun n => spec_DrawReadAsOf n x1) (fun r => r.1.length ≤ 20 ∧ -1000 ≤ r.2.2 ∧ r.2.2 ≤ 1000) := by
  unfold spec_DrawReadAsOf
  refine Ex.bind (newReader_ex h (by omega)) (fun k hk => ?_)
  refine Ex.bind (someVersions_ex hk (Int.le_refl 0) (by omega)) ?_
  rintro ⟨i, xs⟩ ⟨h1, h2, h3⟩
  simp only at h1 h2 h3 ⊢
  refine Ex.bind (pick_ex hk h1 (by omega) (by omega) (by omega)) (fun a ha => ?_)
  rw [w64_id (n := i + 1) (by omega) (by omega)]
  refine Ex.bind (pick_ex hk (by omega) (by omega) (by omega) (by omega)) (fun b hb => ?_)
  rw [w64_id (n := i + 1 + 1) (by omega) (by omega)]
  refine Ex.bind (one_ex hk (by omega) (by omega) (by simp) (by simp)) ?_
  rintro ⟨c, d⟩ ⟨_, hd⟩
  simp only [List.mem_cons, List.not_mem_nil, or_false] at hd
  exact Ex.ret ⟨h3, by simp only; omega⟩

/-- the version that is read at its own time -/
theorem rd_self {v : List Ver} (h : Valid v) {k : Nat} (hk : k < v.length) : rd v (v.getD k dver).node (v.getD k dver).tm = some (v.getD k dver) := by
  rw [getD_eq hk]
  have e : v = v.take k ++ (v[k] :: v.drop (k + 1)) := by
    rw [← List.drop_eq_getElem_cons hk, List.take_append_drop]
  have h2 : (v.drop (k + 1)).filter (vis v[k].node v[k].tm) = [] := by
    rw [List.filter_eq_nil_iff]
    intro y hy
    obtain ⟨j, hj, rfl⟩ := List.mem_iff_getElem.1 hy
    rw [List.getElem_drop]
    have := List.pairwise_iff_getElem.1 h.lt k (k + 1 + j) hk (by simp at hj; omega) (by omega)
    unfold vis
    simp only [Bool.and_eq_true, decide_eq_true_eq, not_and]
    intro h3 h4
    exact this.2 (by have := this.1; omega) h3.symm
  have h1 : vis v[k].node v[k].tm v[k] = true := by simp [vis]
  unfold rd
  generalize hx : v[k] = x at e h1 h2 ⊢
  rw [e, List.filter_append, List.filter_cons, h1, h2]
  simp

theorem rd_early {v : List Ver} (h : Valid v) (node : Int) : rd v node (-1) = none := by
  unfold rd
  have : v.filter (vis node (-1)) = [] := by
    rw [List.filter_eq_nil_iff]
    intro y hy
    have := (h.ok y hy).2.2
    unfold vis
    simp only [Bool.and_eq_true, decide_eq_true_eq, not_and]
    intro _
    omega
  rw [this]; rfl

theorem readAsOf_loop {v : List Ver} (hl : v.length ≤ 1000) (hval : validI v = true) {node : Int} {x1 : List Int} : ∀ (m k : Nat), k + m = v.length →
    Ex (fun n => laws_FnReadAsOf_L1 v node x1 n (k : Int)) (· = .inr ())
  | 0, k, hk => by
    refine Ex.succ ?_
    simp only [laws_FnReadAsOf_L1]
    exact Ex.no (decide_eq_false (by omega)) (Ex.ret rfl)
  | m + 1, k, hk => by
    refine Ex.succ ?_
    simp only [laws_FnReadAsOf_L1, Int.toNat_natCast]
    refine Ex.yes (decide_eq_true (by omega)) (Ex.guard (by omega) (Ex.guard (by omega) ?_))
    refine Ex.be (implRead_ex (by omega) _ _) ?_
    have h1 := rd_self (validI_iff.1 hval) (show k < v.length by omega)
    simp only [rdR, hval, if_true, h1]
    rw [w64_succ (by omega)]
    refine Ex.be (a := false) (Ex.no rfl (Ex.guard (by omega) (Ex.ret (by simp)))) (Ex.no rfl (readAsOf_loop hl hval m (k + 1) (by omega)))

theorem law_FnReadAsOf (x0 : List Int) (h0 : x0.length ≤ 9223372036854775807 ∧ ∀ x ∈ x0, RC.wf .u8 x) : ∃ n, laws_FnReadAsOf n x0 = some true := by
  refine Ex.get ?_
  unfold laws_FnReadAsOf
  refine Ex.code rfl (fun hl => ?_)
  refine Ex.bind (drawRead_ex (u8_wf h0.2) hl) ?_
  rintro ⟨v, node, now⟩ ⟨hv, _, _⟩
  simp only at hv ⊢
  refine Ex.be (implRead_ex (by omega) _ _) (Ex.be (specRead_ex (by omega) _ _) ?_)
  refine Ex.be (a := !validI v) (Ex.no (by simp) (Ex.no (by simp) (Ex.be (implValid_ex (by omega)) (Ex.ret rfl)))) ?_
  cases hval : validI v with
  | false => exact Ex.yes rfl (Ex.ret (by simp))
  | true =>
    refine Ex.no rfl (Ex.be (readAsOf_loop (by omega) hval v.length 0 (by omega)) ?_)
    refine Ex.be (implRead_ex (by omega) _ _) (Ex.ret ?_)
    simp only [rdR, hval, if_true, rd_early (validI_iff.1 hval)]
    rfl

theorem filter_congr' {v : List Ver} {p q : Ver → Bool} (h : ∀ x ∈ v, p x = q x) : v.filter p = v.filter q := List.filter_congr h

/-- the last version of a node -/
def lastOf (node : Int) (v : List Ver) : Option Ver := (v.filter fun x => decide (x.node = node)).getLast?
def lastR (o : Option Ver) : Bool × Int := match o with
  | some x => (true, x.value)
  | none => (false, 0)
theorem lastOf_succ {xs : List Ver} {k : Nat} (h : k < xs.length) (node : Int) : lastOf node (xs.take (k + 1)) = if decide ((xs.getD k dver).node = node) = true then some (xs.getD k dver) else lastOf node (xs.take k) := by
  unfold lastOf
  rw [take_succ dver h, List.filter_append]
  generalize xs.getD k dver = x
  rw [List.filter_cons, List.filter_nil]
  cases hv : decide (x.node = node) <;> simp

theorem last_loop {v : List Ver} (hl : v.length ≤ 1000) {node : Int} {x1 : List Int} : ∀ (m k : Nat), k + m = v.length →
    Ex (fun n => laws_FnReadAsOfLast_L1 v node x1 n (lastR (lastOf node (v.take k))).1 (lastR (lastOf node (v.take k))).2 (k : Int)) (· = lastR (lastOf node v))
  | 0, k, hk => by
    refine Ex.succ ?_
    simp only [laws_FnReadAsOfLast_L1]
    refine Ex.no (decide_eq_false (by omega)) (Ex.ret ?_)
    rw [List.take_of_length_le (by omega)]
  | m + 1, k, hk => by
    refine Ex.succ ?_
    simp only [laws_FnReadAsOfLast_L1, Int.toNat_natCast]
    refine Ex.yes (decide_eq_true (by omega)) (Ex.guard (by omega) ?_)
    rw [w64_succ (by omega)]
    have hs := lastOf_succ (xs := v) (k := k) (by omega) node
    have ih := last_loop hl (node := node) (x1 := x1) m (k + 1) (by omega)
    cases hb : decide ((v.getD k dver).node = node) with
    | true =>
      rw [hb] at hs
      rw [hs] at ih
      exact Ex.be (Ex.yes rfl (Ex.guard (by omega) (Ex.ret rfl))) ih
    | false =>
      rw [hb] at hs
      rw [hs] at ih
      exact Ex.be (Ex.no rfl (Ex.ret rfl)) ih

theorem law_FnReadAsOfLast (x0 : List Int) (h0 : x0.length ≤ 9223372036854775807 ∧ ∀ x ∈ x0, RC.wf .u8 x) : ∃ n, laws_FnReadAsOfLast n x0 = some true := by
  refine Ex.get ?_
  unfold laws_FnReadAsOfLast
  refine Ex.code rfl (fun hl => ?_)
  refine Ex.bind (drawRead_ex (u8_wf h0.2) hl) ?_
  rintro ⟨v, node, now⟩ ⟨hv, _, _⟩
  simp only at hv ⊢
  refine Ex.be (implRead_ex (by omega) _ _) (Ex.be (specRead_ex (by omega) _ _) ?_)
  refine Ex.be (a := !validI v) (Ex.no (by simp) (Ex.no (by simp) (Ex.be (implValid_ex (by omega)) (Ex.ret rfl)))) ?_
  cases hval : validI v with
  | false => exact Ex.yes rfl (Ex.ret (by simp))
  | true =>
    refine Ex.no rfl (Ex.be (last_loop (by omega) v.length 0 (by omega)) ?_)
    have e : rd v node 100 = lastOf node v := by
      unfold rd lastOf
      rw [List.filter_congr]
      intro x hx
      have := ((validI_iff.1 hval).ok x hx).2.2
      unfold vis
      rw [decide_eq_true (p := x.tm ≤ 100) (by omega), Bool.and_true]
    refine Ex.be (implRead_ex (by omega) _ _) (Ex.ret ?_)
    simp only [rdR, hval, if_true, e, lastR]
    cases lastOf node v <;> simp

theorem stay_loop {v : List Ver} (hl : v.length ≤ 1000) {node now i : Int} {b : Bool} {x1 : List Int} : ∀ (m k : Nat), k + m = v.length →
    Ex (fun n => laws_FnReadAsOfStay_L1 v node now i b x1 n (k : Int)) (fun r => match r with
      | .inl _ => ∃ j, j < v.length ∧ (v.getD j dver).node = node ∧ (v.getD j dver).tm = now
      | .inr _ => ∀ j, k ≤ j → j < v.length → ¬ ((v.getD j dver).node = node ∧ (v.getD j dver).tm = now))
  | 0, k, hk => by
    refine Ex.succ ?_
    simp only [laws_FnReadAsOfStay_L1]
    exact Ex.no (decide_eq_false (by omega)) (Ex.ret (fun j h1 h2 => by omega))
  | m + 1, k, hk => by
    refine Ex.succ ?_
    simp only [laws_FnReadAsOfStay_L1, Int.toNat_natCast]
    refine Ex.yes (decide_eq_true (by omega)) (Ex.guard (by omega) ?_)
    rw [w64_succ (by omega)]
    refine Ex.be (a := decide ((v.getD k dver).node = node) && decide ((v.getD k dver).tm = now)) ?_ ?_
    · refine Ex.ite (fun hb => ?_) (fun hb => ?_)
      · exact Ex.guard (by omega) (Ex.ret (by rw [hb]; rfl))
      · exact Ex.ret (by rw [hb]; rfl)
    · refine Ex.ite (fun hb => ?_) (fun hb => ?_)
      · simp only [Bool.and_eq_true, decide_eq_true_eq] at hb
        exact Ex.ret ⟨k, by omega, hb.1, hb.2⟩
      · refine Ex.mono (stay_loop hl m (k + 1) (by omega)) ?_
        intro r hr
        cases r with
        | inl _ => exact hr
        | inr _ =>
          intro j h1 h2
          rcases Nat.eq_or_lt_of_le h1 with rfl | h3
          · intro h4
            rw [decide_eq_true h4.1, decide_eq_true h4.2] at hb
            cases hb
          · exact hr j h3 h2

theorem law_FnReadAsOfStay (x0 : List Int) (h0 : x0.length ≤ 9223372036854775807 ∧ ∀ x ∈ x0, RC.wf .u8 x) : ∃ n, laws_FnReadAsOfStay n x0 = some true := by
  refine Ex.get ?_
  unfold laws_FnReadAsOfStay
  refine Ex.code rfl (fun hl => ?_)
  refine Ex.bind (drawRead_ex (u8_wf h0.2) hl) ?_
  rintro ⟨v, node, now⟩ ⟨hv, hn1, hn2⟩
  simp only at hv hn1 hn2 ⊢
  refine Ex.be (implRead_ex (by omega) _ _) (Ex.be (specRead_ex (by omega) _ _) ?_)
  refine Ex.be (a := !validI v) (Ex.no (by simp) (Ex.no (by simp) (Ex.be (implValid_ex (by omega)) (Ex.ret rfl)))) ?_
  cases hval : validI v with
  | false => exact Ex.yes rfl (Ex.ret (by simp))
  | true =>
    refine Ex.no rfl (Ex.bind (stay_loop (by omega) v.length 0 (by omega)) ?_)
    intro r hr
    cases r with
    | inl _ =>
      obtain ⟨j, h1, h2, h3⟩ := hr
      refine Ex.ret ?_
      have := rd_self (validI_iff.1 hval) h1
      rw [h2, h3] at this
      simp [rdR, hval, this]
    | inr _ =>
      have e : rd v node (now - 1) = rd v node now := by
        unfold rd
        rw [List.filter_congr]
        intro x hx
        obtain ⟨j, hj, rfl⟩ := List.mem_iff_getElem.1 hx
        have h1 := hr j (Nat.zero_le _) hj
        rw [getD_eq hj] at h1
        unfold vis
        by_cases h2 : v[j].node = node
        · have : ¬ v[j].tm = now := fun h3 => h1 ⟨h2, h3⟩
          have e : decide (v[j].tm ≤ now - 1) = decide (v[j].tm ≤ now) := by rw [decide_eq_decide]; omega
          rw [e]
        · rw [decide_eq_false h2]; rfl
      have e1 : w64 (now - 1) = now - 1 := w64_id (by omega) (by omega)
      simp only [e1]
      refine Ex.be (implRead_ex (by omega) _ _) (Ex.ret ?_)
      simp [rdR, hval, e]
end Go.Proofs.Ytnaogmahijgibaa
