/- Plain facts: whether trees are the same, by the program and the specification. Conditions: none. -/
import Derived.Test.YtiboohplkihhnaaVP2
namespace Go.Proofs.Ytiboohplkihhnaa
open Go
set_option linter.unusedVariables false

/-- whether trees are the same -/
def sameT (a b : List Nod) : Bool := (validT a && validT b) && (decide (a.length = b.length) && decide (ent a = ent b))
theorem edt_eq (x y : Edt) : ((decide (x.kind = y.kind)) && ((decide (x.path = y.path)) && ((decide (x.value = y.value)) && true))) = decide (x = y) := by
  cases x; cases y
  rw [Bool.eq_iff_iff]
  simp only [Bool.and_eq_true, decide_eq_true_eq, Edt.mk.injEq, and_true]
theorem cmp_loop {ρ α : Type} [DecidableEq ρ] (xs ys : List ρ) (d : ρ) (hl : xs.length = ys.length) {f : Nat → Int → Option α} {A B : α}
    (h1 : ∀ k : Nat, k < xs.length → xs.getD k d ≠ ys.getD k d → Ex (fun n => f (n + 1) (k : Int)) (· = A))
    (h2 : ∀ k : Nat, k < xs.length → xs.getD k d = ys.getD k d → ∀ r, Ex (fun n => f n ((k + 1 : Nat) : Int)) (· = r) → Ex (fun n => f (n + 1) (k : Int)) (· = r))
    (h3 : Ex (fun n => f (n + 1) (xs.length : Int)) (· = B)) : Ex (fun n => f n 0) (· = if xs = ys then B else A) := by
  have key : ∀ (m k : Nat), k + m = xs.length → Ex (fun n => f n (k : Int)) (· = if xs.drop k = ys.drop k then B else A) := by
    intro m
    induction m with
    | zero =>
      intro k hk
      obtain rfl : k = xs.length := by omega
      rw [List.drop_length, List.drop_eq_nil_of_le (by omega), if_pos rfl]
      exact Ex.succ h3
    | succ m ih =>
      intro k hk
      have e1 := drop_at d (show k < xs.length by omega)
      have e2 := drop_at d (show k < ys.length by omega)
      rw [e1, e2]
      refine Ex.succ ?_
      by_cases he : xs.getD k d = ys.getD k d
      · have := h2 k (by omega) he _ (ih (k + 1) (by omega))
        rw [he]
        simpa using this
      · rw [if_neg (fun h => he (List.cons.inj h).1)]
        exact h1 k (by omega) he
  have := key xs.length 0 (by omega)
  simpa using this
theorem specSame_ex {a b : List Nod} (ha : NL a) (hb : NL b) (hla : a.length ≤ 400000000) (hlb : b.length ≤ 400000000) : Ex (fun n => spec_SameTree n a b) (· = sameT a b) := by
  unfold spec_SameTree sameT
  refine Ex.be (specTree_ex ha hla) ?_
  cases hva : validT a with
  | false => exact Ex.be (Ex.yes rfl (Ex.ret rfl)) (Ex.yes rfl (Ex.ret rfl))
  | true =>
    have h1 := validT_iff.1 hva
    refine Ex.be (a := !(validT b && decide (a.length = b.length))) (Ex.no rfl (Ex.be (specTree_ex hb hlb) ?_)) ?_
    · cases hvb : validT b with
      | false => exact Ex.yes rfl (Ex.ret rfl)
      | true =>
        refine Ex.no rfl (Ex.ret ?_)
        rw [Bool.true_and]; congr 1
        rw [Bool.eq_iff_iff]; simp only [decide_eq_true_eq]; omega
    · rw [Bool.true_and, ← Bool.and_assoc]
      refine Ex.ite (fun hb => Ex.ret ?_) (fun hb => ?_)
      · rw [notT hb]; rfl
      · have hb := notF hb
        rw [hb, Bool.true_and]
        simp only [Bool.and_eq_true, decide_eq_true_eq] at hb
        have h2 := validT_iff.1 hb.1
        refine Ex.be (specEnt_ex h1) (Ex.be (specEnt_ex h2) (Ex.be (cmp_loop (ent a) (ent b) dedt (by rw [ent_len h1, ent_len h2, hb.2]) (f := fun n i => spec_SameTree_L1 (ent a) (ent b) a b n i) (A := .inl ()) (B := .inr ()) ?_ ?_ ?_) ?_))
        · intro k hk hne
          have := h1.hi
          have := ent_len h1
          have := ent_len h2
          simp only [spec_SameTree_L1, Int.toNat_natCast, edt_eq]
          exact Ex.yes (decide_eq_true (by omega)) (Ex.guard (by omega) (Ex.guard (by omega) (Ex.yes (by rw [decide_eq_false hne]; rfl) (Ex.ret rfl))))
        · intro k hk he r ih
          have := h1.hi
          have := ent_len h1
          have := ent_len h2
          simp only [spec_SameTree_L1, Int.toNat_natCast, edt_eq]
          rw [w64_succ (by omega)]
          exact Ex.yes (decide_eq_true (by omega)) (Ex.guard (by omega) (Ex.guard (by omega) (Ex.no (by rw [decide_eq_true he]; rfl) ih)))
        · simp only [spec_SameTree_L1]
          exact Ex.no (decide_eq_false (by omega)) (Ex.ret rfl)
        · by_cases he : ent a = ent b
          · rw [if_pos he, decide_eq_true he]; exact Ex.ret rfl
          · rw [if_neg he, decide_eq_false he]; exact Ex.ret rfl

/-- a node and its partner -/
def twin (a b : List Nod) (n : Nat) : Bool := match loo b (np a n) with
  | some m => decide (va a n = va b m)
  | none => false
theorem sameP_dec {a b : List Nod} (ha : VT a) (hb : VT b) (hl : a.length = b.length) : decide (ent a = ent b) = (List.range a.length).all (twin a b) := by
  rw [Bool.eq_iff_iff, decide_eq_true_eq, sameP_iff ha hb hl, all_range]
  constructor
  · rintro ⟨_, h⟩ n hn
    obtain ⟨m, h1, h2⟩ := h n hn
    rw [twin, h1]; exact decide_eq_true h2
  · intro h
    refine ⟨hl, fun n hn => ?_⟩
    have := h n hn
    rw [twin] at this
    split at this
    · rename_i m hm; exact ⟨m, hm, of_decide_eq_true this⟩
    · cases this
theorem implSame_ex {a b : List Nod} (hla : a.length ≤ 1000000000000) : Ex (fun n => impl_SameTree n a b) (· = sameT a b) := by
  unfold impl_SameTree sameT
  refine Ex.be (implTree_ex a) ?_
  cases hva : validT a with
  | false => exact Ex.be (Ex.yes rfl (Ex.ret rfl)) (Ex.yes rfl (Ex.ret rfl))
  | true =>
    have h1 := validT_iff.1 hva
    have hhi := h1.hi
    refine Ex.be (a := !(validT b && decide (a.length = b.length))) (Ex.no rfl (Ex.be (implTree_ex b) ?_)) ?_
    · cases hvb : validT b with
      | false => exact Ex.yes rfl (Ex.ret rfl)
      | true =>
        refine Ex.no rfl (Ex.ret ?_)
        rw [Bool.true_and]; congr 1
        rw [Bool.eq_iff_iff]; simp only [decide_eq_true_eq]; omega
    · rw [Bool.true_and, ← Bool.and_assoc]
      refine Ex.ite (fun hb => Ex.ret ?_) (fun hb => ?_)
      · rw [notT hb]; rfl
      · have hb := notF hb
        rw [hb, Bool.true_and]
        simp only [Bool.and_eq_true, decide_eq_true_eq] at hb
        have h2 := validT_iff.1 hb.1
        rw [sameP_dec h1 h2 hb.2]
        refine Ex.be (a := if (List.range a.length).all (twin a b) = true then .inr () else .inl ()) ?_ ?_
        · refine upU a.length (fun k => ∀ j, j < k → twin a b j = true) ?_ ?_ 0 (Nat.zero_le _) (fun j hj => by omega)
          · intro k hk hi next
            have hp := ptx_len h1 hk
            simp only [impl_SameTree_L1, Int.toNat_natCast]
            have e1 := implPathText_ex hla (k : Int)
            rw [pathT_of h1 hk] at e1
            have e2 := implRes_ex (t := b) (s := ptx (np a k)) (by omega)
            rw [if_pos hb.1, res_np h1 h2 hk] at e2
            refine Ex.yes (decide_eq_true (by omega)) (Ex.be e1 (Ex.be e2 (Ex.be (a := !twin a b k) ?_ ?_)))
            · rw [twin]
              cases hm : loo b (np a k) with
              | none => exact Ex.yes (by decide) (Ex.ret rfl)
              | some m =>
                have h3 := ((loo_iff h2).1 hm).1
                show Ex (fun n => iteO (decide ((m : Int) < 0)) _ _) _
                refine Ex.no (decide_eq_false (by omega)) (Ex.guard (by omega) (Ex.guard (by simp only [oi]; omega) (Ex.ret ?_)))
                rfl
            · refine Ex.ite (fun ht => Ex.ret ?_) (fun ht => ?_)
              · rw [all_range_false hk (notT ht)]; rfl
              · rw [w64_succ (by omega)]
                refine next (fun j hj => ?_)
                rcases Nat.eq_or_lt_of_le (Nat.le_of_lt_succ hj) with rfl | h6
                · exact notF ht
                · exact hi j h6
          · intro hi
            simp only [impl_SameTree_L1]
            refine Ex.no (decide_eq_false (by omega)) (Ex.ret ?_)
            rw [all_range.2 hi]; rfl
        · cases (List.range a.length).all (twin a b) with
          | true => exact Ex.ret rfl
          | false => exact Ex.ret rfl
end Go.Proofs.Ytiboohplkihhnaa
