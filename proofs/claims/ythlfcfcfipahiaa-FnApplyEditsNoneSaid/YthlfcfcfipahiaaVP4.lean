/- Plain facts: the edits between two trees, as the specification finds them; drawn pairs of trees. Conditions: none. -/
import Derived.Test.YthlfcfcfipahiaaVP3
import Derived.Test.YthlfcfcfipahiaaVP2
namespace Go.Proofs.Ythlfcfcfipahiaa
open Go
set_option linter.unusedVariables false

def pD (a b : List Nod) (n : Nat) : Bool := (loo b (np a n)).isNone && (loo b (np a (pa a n).toNat)).isSome
def fD (a : List Nod) (n : Nat) : Edt := ⟨1, ptx (np a n), 0⟩
def pS (a b : List Nod) (n : Nat) : Bool := !decide (M a (np b n) = some (va b n))
def fS (b : List Nod) (n : Nat) : Edt := ⟨0, ptx (np b n), va b n⟩
theorem ebD_eq (a b : List Nod) : ebD a b = ((walkT a).filter (pD a b)).map (fD a) := rfl
theorem ebS_eq (a b : List Nod) : ebS a b = ((walkT b).filter (pS a b)).map (fS b) := rfl
theorem walk_at {t : List Nod} (h : VT t) {k : Nat} (hk : k < (walkT t).length) : (walkT t)[k]? = some ((walkT t).getD k 0) ∧ (walkT t).getD k 0 < t.length ∧ (0 < k → 0 < (walkT t).getD k 0) := by
  have e : (walkT t)[k]? = some ((walkT t).getD k 0) := by rw [List.getD_eq_getElem?_getD, List.getElem?_eq_getElem hk]; rfl
  refine ⟨e, (mem_walk h).1 (getD_mem hk), fun h0 => ?_⟩
  obtain ⟨l, hl⟩ := walk_head t (by have := h.lo; intro e; rw [e] at this; simp at this)
  have hn := walk_nodup h
  rw [hl] at hn e hk ⊢
  cases k with
  | zero => omega
  | succ k =>
    rw [List.nodup_cons] at hn
    have : (0 :: l).getD (k + 1) 0 ∈ l := by
      rw [List.getD_cons_succ]
      exact getD_mem (by simpa using hk)
    rcases Nat.eq_zero_or_pos ((0 :: l).getD (k + 1) 0) with h1 | h1
    · rw [h1] at this; exact absurd this hn.1
    · exact h1
theorem take_filter {α β : Type} (l : List α) (p : α → Bool) (f : α → β) {k : Nat} {x : α} (hk : l[k]? = some x) : ((l.take (k + 1)).filter p).map f = ((l.take k).filter p).map f ++ (if p x = true then [f x] else []) := by
  rw [List.take_add_one, hk, List.filter_append, List.map_append]
  congr 1
  simp only [Option.toList_some, List.filter_cons, List.filter_nil]
  split <;> rfl
theorem take_filter_len {α β : Type} (l : List α) (p : α → Bool) (f : α → β) (k : Nat) : (((l.take k).filter p).map f).length ≤ l.length := by
  rw [List.length_map]
  refine Nat.le_trans (List.length_filter_le _ _) ?_
  simp; omega

theorem specBetween_ex {a b : List Nod} (ha : NL a) (hb : NL b) (hla : a.length ≤ 400000000) (hlb : b.length ≤ 400000000) : Ex (fun n => spec_EditsBetween n a b) (· = eb a b) := by
  unfold spec_EditsBetween eb
  refine Ex.be (specTree_ex ha hla) ?_
  cases hva : validT a with
  | false => exact Ex.be (Ex.yes rfl (Ex.ret rfl)) (Ex.yes rfl (Ex.ret rfl))
  | true =>
    have h1 := validT_iff.1 hva
    refine Ex.be (Ex.no rfl (Ex.be (specTree_ex hb hlb) (Ex.ret rfl))) ?_
    cases hvb : validT b with
    | false => exact Ex.yes rfl (Ex.ret rfl)
    | true =>
      have h2 := validT_iff.1 hvb
      have ha12 := h1.hi
      have hb12 := h2.hi
      have wa := walk_len h1
      have wb := walk_len h2
      refine Ex.no rfl ?_
      rw [if_pos (show (true && true) = true from rfl)]
      refine Ex.be (specWalk_ex h1 a.length 0 h1.lo (by omega)) (Ex.be (a := ebD a b) ?_ (Ex.be (specEnt_ex h2) (Ex.be (a := ebD a b ++ ebS a b) ?_ (Ex.ret rfl))))
      · have hw : nwk a a.length 0 = (walkT a).map fun (j : Nat) => (j : Int) := rfl
        rw [hw]
        refine up (walkT a).length (fun k (x : List Edt) => x = (((walkT a).take k).filter (pD a b)).map (fD a)) (f := fun n x j => spec_EditsBetween_L1 a b ((walkT a).map fun (j : Nat) => (j : Int)) n x j) ?_ ?_ 1 [] (by rw [wa]; exact h1.lo) ?_
        · rintro k _ hk rfl next
          obtain ⟨e, h3, h4⟩ := walk_at h1 hk
          have e2 : ((walkT a).map fun (j : Nat) => (j : Int)).getD k 0 = (((walkT a).getD k 0 : Nat) : Int) := by rw [List.getD_eq_getElem?_getD, List.getElem?_map, e]; rfl
          have hlen := take_filter_len (walkT a) (pD a b) (fD a) k
          have := h4
          generalize hm : (walkT a).getD k 0 = m at *
          simp only [spec_EditsBetween_L1, Int.toNat_natCast, e2]
          refine Ex.yes (decide_eq_true (by simp; omega)) (Ex.guard (by simp; omega) (Ex.be (specPathText_ex h1 h3) (Ex.be (specRes_ex h2 _) ?_)))
          rw [res_np h1 h2 h3]
          have np0 : m = 0 → loo b (np a m) = some 0 := fun e0 => by rw [e0, np_zero h1]; exact (loo_iff h2).2 ⟨h2.lo, np_zero h2⟩
          refine Ex.be (a := pD a b m) ?_ ?_
          · rw [pD]
            cases hl : loo b (np a m) with
            | some q => exact Ex.no (decide_eq_false (by simp only [oi]; omega)) (Ex.ret rfl)
            | none =>
              have m0 : 0 < m := by
                rcases Nat.eq_zero_or_pos m with e0 | e0
                · rw [np0 e0] at hl; cases hl
                · exact e0
              have q := h1.par m m0 h3
              have e3 : (a.getD m dnod).parent = (((pa a m).toNat : Nat) : Int) := by rw [Int.toNat_of_nonneg q.1]; rfl
              refine Ex.yes (by simp [oi]) (Ex.guard (by omega) ?_)
              rw [e3]
              refine Ex.be (specPathText_ex h1 (by omega)) (Ex.be (specRes_ex h2 _) (Ex.ret ?_))
              rw [res_np h1 h2 (by omega)]
              cases loo b (np a (pa a m).toNat) <;> simp [oi]
          · refine Ex.be (a := (((walkT a).take (k + 1)).filter (pD a b)).map (fD a)) ?_ ?_
            · rw [take_filter _ _ _ e]
              refine Ex.ite (fun hp => ?_) (fun hp => Ex.ret ?_)
              · rw [if_pos hp]
                exact Ex.be (specPathText_ex h1 h3) (Ex.guard ⟨trivial, trivial, by simp at hlen ⊢; omega⟩ (Ex.ret rfl))
              · rw [hp]; simp
            · rw [w64_succ (by omega)]
              exact next _ rfl
        · rintro _ rfl
          simp only [spec_EditsBetween_L1]
          refine Ex.no (decide_eq_false (by simp)) (Ex.ret ?_)
          rw [ebD_eq, List.take_length]
        · obtain ⟨l, hl⟩ := walk_head a (by have := h1.lo; intro e; rw [e] at this; simp at this)
          rw [hl]
          have : pD a b 0 = false := by
            rw [pD, np_zero h1, (loo_iff h2).2 ⟨h2.lo, np_zero h2⟩]; rfl
          simp [List.filter_cons, this]
      · have hent : (ent b).length = (walkT b).length := by rw [ent, List.length_map]
        have hDl : (ebD a b).length ≤ 12 := by
          have := take_filter_len (walkT a) (pD a b) (fD a) (walkT a).length
          rw [List.take_length] at this
          rw [ebD_eq]; omega
        refine up (walkT b).length (fun k (x : List Edt) => x = ebD a b ++ (((walkT b).take k).filter (pS a b)).map (fS b)) (f := fun n x j => spec_EditsBetween_L2 a (ent b) b n x j) ?_ ?_ 0 _ (Nat.zero_le _) (by simp)
        · rintro k _ hk rfl next
          obtain ⟨e, h3, h4⟩ := walk_at h2 hk
          have e2 : (ent b).getD k dedt = fS b ((walkT b).getD k 0) := by rw [List.getD_eq_getElem?_getD, ent, List.getElem?_map, e]; rfl
          have hlen := take_filter_len (walkT b) (pS a b) (fS b) k
          generalize hm : (walkT b).getD k 0 = m at *
          simp only [spec_EditsBetween_L2, Int.toNat_natCast, e2]
          refine Ex.yes (decide_eq_true (by omega)) (Ex.guard (by omega) (Ex.be (specRes_ex h1 _) ?_))
          rw [show (fS b m).path = ptx (np b m) from rfl, res_np h2 h1 h3]
          refine Ex.be (a := pS a b m) ?_ ?_
          · rw [pS, M]
            cases hl : loo a (np b m) with
            | none => exact Ex.yes (by simp [oi]) (Ex.ret rfl)
            | some q =>
              have hq := ((loo_iff h1).1 hl).1
              refine Ex.no (decide_eq_false (by simp only [oi]; omega)) (Ex.guard (by simp only [oi]; omega) (Ex.guard (by omega) (Ex.ret ?_)))
              simp only [oi, Int.toNat_natCast, Option.map_some, Option.some.injEq]
              rfl
          · refine Ex.be (a := ebD a b ++ (((walkT b).take (k + 1)).filter (pS a b)).map (fS b)) ?_ ?_
            · rw [take_filter _ _ _ e]
              refine Ex.ite (fun hp => ?_) (fun hp => Ex.ret ?_)
              · rw [if_pos hp]
                refine Ex.guard (by omega) (Ex.guard ⟨trivial, trivial, by simp at hlen ⊢; omega⟩ (Ex.ret ?_))
                rw [← List.append_assoc]; rfl
              · rw [hp]; simp
            · rw [w64_succ (by omega)]
              exact next _ rfl
        · rintro _ rfl
          simp only [spec_EditsBetween_L2]
          refine Ex.no (decide_eq_false (by omega)) (Ex.ret ?_)
          rw [ebS_eq, List.take_length]

theorem eb_paths {a b : List Nod} : ∀ e ∈ eb a b, e.path.length ≤ 1000000000000 := by
  intro e he
  unfold eb at he
  split at he
  · rename_i hv
    simp only [Bool.and_eq_true] at hv
    have h1 := validT_iff.1 hv.1
    have h2 := validT_iff.1 hv.2
    rcases List.mem_append.1 he with h | h
    · obtain ⟨n, hn, rfl⟩ := List.mem_map.1 h
      have := ptx_len h1 ((mem_walk h1).1 (List.mem_filter.1 hn).1)
      show (ptx (np a n)).length ≤ _; omega
    · obtain ⟨n, hn, rfl⟩ := List.mem_map.1 h
      have := ptx_len h2 ((mem_walk h2).1 (List.mem_filter.1 hn).1)
      show (ptx (np b n)).length ≤ _; omega
  · cases he
end Go.Proofs.Ythlfcfcfipahiaa
