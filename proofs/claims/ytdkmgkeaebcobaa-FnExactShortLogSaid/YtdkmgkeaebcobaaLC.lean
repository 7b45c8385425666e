/- Plain facts: valid logs, losers, what is redone, short logs. Conditions: none. -/
import Derived.Test.YtdkmgkeaebcobaaLA
namespace Go.Proofs.Ytdkmgkeaebcobaa
open Go

def rcdOk (t : List Nod) (r : Rcd) : Bool :=
  (decide (0 ≤ r.who) && decide (r.who ≤ 3)) && ((decide (0 ≤ r.node) && decide (r.node ≤ (t.length : Int) - 1)) && (rv r.value && !(r.fin && (!decide (r.node = 0) || !decide (r.value = 0)))))
def validL (t : List Nod) (h : List Rcd) : Bool := validT t && (decide (h.length ≤ 16) && h.all (rcdOk t))

theorem and_or4 (a b c d : Bool) : (!a || (!b || (!c || d))) = !(a && (b && (c && !d))) := by cases a <;> cases b <;> cases c <;> cases d <;> rfl

theorem implLog_ex (t : List Nod) {h : List Rcd} : Ex (fun n => impl_ValidLog n t h) (· = validL t h) := by
  unfold impl_ValidLog
  refine Ex.be (implTree_ex t) ?_
  cases hT : validT t with
  | false =>
    refine Ex.yes rfl (Ex.ret ?_)
    rw [validL, hT]; rfl
  | true =>
    have htl : t.length ≤ 12 := by
      simp only [validT, Bool.and_eq_true, decide_eq_true_eq] at hT; exact hT.1.2
    rw [validL, hT, Bool.true_and]
    refine Ex.ite (fun hb => Ex.ret ?_) (fun hb => ?_)
    · have : (16 : Int) < (h.length : Int) := by simpa using hb
      rw [decide_eq_false (by omega)]; rfl
    · have : ¬ (16 : Int) < (h.length : Int) := by simpa using hb
      rw [decide_eq_true (by omega), Bool.true_and]
      refine Ex.be (a := if h.all (rcdOk t) = true then .inr () else .inl ()) ?_ ?_
      · refine upU h.length (fun k => (h.drop k).all (rcdOk t) = h.all (rcdOk t)) ?_ ?_ 0 (Nat.zero_le _) (by simp)
        · intro k hk hi next
          simp only [impl_ValidLog_L1, Int.toNat_natCast]
          rw [all_split (rcdOk t) drcd hk] at hi
          refine Ex.yes (decide_eq_true (by omega)) (Ex.guard (by omega) ?_)
          rw [w64_id (n := (t.length : Int) - 1) (by omega) (by omega), w64_succ (by omega)]
          have key : rcdOk t (h.getD k drcd) = !((!(impl_within (h.getD k drcd).who 0 3) || ((!(impl_within (h.getD k drcd).node 0 ((t.length : Int) - 1))) || (!(impl_within (h.getD k drcd).value (-1000) 1000)))) || ((h.getD k drcd).fin && ((!decide (((h.getD k drcd).node) = 0)) || (!decide (((h.getD k drcd).value) = 0))))) := by
            show (impl_within (h.getD k drcd).who 0 3 && (impl_within (h.getD k drcd).node 0 ((t.length : Int) - 1) && (impl_within (h.getD k drcd).value (-1000) 1000 && !((h.getD k drcd).fin && ((!decide (((h.getD k drcd).node) = 0)) || (!decide (((h.getD k drcd).value) = 0))))))) = _
            generalize impl_within (h.getD k drcd).who 0 3 = a
            generalize impl_within (h.getD k drcd).node 0 ((t.length : Int) - 1) = b
            generalize impl_within (h.getD k drcd).value (-1000) 1000 = c
            generalize ((h.getD k drcd).fin && ((!decide (((h.getD k drcd).node) = 0)) || (!decide (((h.getD k drcd).value) = 0)))) = d
            cases a <;> cases b <;> cases c <;> cases d <;> rfl
          rw [key] at hi
          refine Ex.ite (fun h1 => ?_) (fun h1 => Ex.ite (fun h2 => ?_) (fun h2 => ?_))
          · rw [h1] at hi
            refine Ex.ret ?_
            rw [← hi]; rfl
          · rw [h1, h2] at hi
            refine Ex.ret ?_
            rw [← hi]; rfl
          · rw [h1, h2] at hi
            exact next hi
        · intro hi
          simp only [impl_ValidLog_L1]
          refine Ex.no (decide_eq_false (by omega)) (Ex.ret ?_)
          rw [← hi]; simp
      · cases h.all (rcdOk t) with
        | true => exact Ex.ret rfl
        | false => exact Ex.ret rfl

theorem specLog_ex {t : List Nod} (ht : t.length ≤ 1000000000000) {h : List Rcd} (hl : h.length ≤ 1000000000000) : Ex (fun n => spec_validLog n t h) (· = (decide (h.length ≤ 16) && h.all (rcdOk t))) := by
  unfold spec_validLog
  refine Ex.be (a := if h.all (rcdOk t) = true then .inr () else .inl ()) ?_ ?_
  · refine upU h.length (fun k => (h.drop k).all (rcdOk t) = h.all (rcdOk t)) ?_ ?_ 0 (Nat.zero_le _) (by simp)
    · intro k hk hi next
      simp only [spec_validLog_L1, Int.toNat_natCast]
      rw [all_split (rcdOk t) drcd hk] at hi
      refine Ex.yes (decide_eq_true (by omega)) (Ex.guard (by omega) ?_)
      rw [w64_id (n := (t.length : Int) - 1) (by omega) (by omega), w64_succ (by omega), and_or4]
      refine Ex.ite (fun h1 => ?_) (fun h1 => ?_)
      · have h2 : rcdOk t (h.getD k drcd) = false := notT h1
        rw [h2] at hi
        refine Ex.ret ?_
        rw [← hi]; rfl
      · have h2 : rcdOk t (h.getD k drcd) = true := notF h1
        rw [h2, Bool.true_and] at hi
        exact next hi
    · intro hi
      simp only [spec_validLog_L1]
      refine Ex.no (decide_eq_false (by omega)) (Ex.ret ?_)
      rw [← hi]; simp
  · have e : decide ((h.length : Int) ≤ 16) = decide (h.length ≤ 16) := by
      rw [Bool.eq_iff_iff]; simp only [decide_eq_true_eq]; omega
    cases h.all (rcdOk t) with
    | true => exact Ex.ret (by rw [e]; simp)
    | false => exact Ex.ret (by simp)

/-- the two tests that a function of the specification begins with -/
theorem specBad_ex {t : List Nod} (hn : NL t) (ht : t.length ≤ 400000000) {h : List Rcd} (hl : h.length ≤ 1000000000000) {α : Type} {f g : Nat → Option α} {Q : α → Prop}
    (h1 : validL t h = false → Ex f Q) (h2 : validL t h = true → Ex g Q) :
    Ex (fun n => bindO (spec_validTree n t) fun b => bindO (iteO (!b) (some true) (bindO (spec_validLog n t h) fun b' => some (!b'))) fun b'' => iteO b'' (f n) (g n)) Q := by
  refine Ex.be (specTree_ex hn ht) (Ex.be (a := !validL t h) ?_ ?_)
  · rw [validL]
    cases validT t with
    | false => exact Ex.yes rfl (Ex.ret rfl)
    | true => exact Ex.no rfl (Ex.be (specLog_ex (by omega) hl) (Ex.ret (by simp)))
  · exact Ex.ite (fun h => h1 (notT h)) (fun h => h2 (notF h))

theorem validL_iff {t : List Nod} {h : List Rcd} : validL t h = true ↔ validT t = true ∧ h.length ≤ 16 ∧ ∀ r ∈ h, rcdOk t r = true := by
  simp [validL, List.all_eq_true]
theorem rcdOk_iff {t : List Nod} {r : Rcd} (h : rcdOk t r = true) : (0 ≤ r.who ∧ r.who ≤ 3) ∧ (0 ≤ r.node ∧ r.node ≤ (t.length : Int) - 1) := by
  simp only [rcdOk, Bool.and_eq_true, decide_eq_true_eq] at h
  omega

/-- does somebody end below -/
def endd (w : Int) (l : List Rcd) : Bool := l.any fun r => r.fin && decide (r.who = w)

theorem isDone_ex {h : List Rcd} (hl : h.length ≤ 1000000000000) {k : Nat} (hk : k < h.length) :
    Ex (fun n => impl_isDone n h (k : Int)) (· = (!(h.getD k drcd).fin && endd (h.getD k drcd).who (h.drop (k + 1)))) := by
  unfold impl_isDone
  simp only [Int.toNat_natCast]
  refine Ex.guard (by omega) ?_
  rw [w64_succ (by omega)]
  cases hf : (h.getD k drcd).fin with
  | true => exact Ex.yes rfl (Ex.ret rfl)
  | false =>
    refine Ex.no rfl (Ex.guard (by omega) ?_)
    rw [Bool.not_false, Bool.true_and]
    refine Ex.be (a := if endd (h.getD k drcd).who (h.drop (k + 1)) = true then .inl () else .inr ()) ?_ ?_
    · refine upU (h.length - (k + 1)) (fun j => endd (h.getD k drcd).who (h.drop (k + 1 + j)) = endd (h.getD k drcd).who (h.drop (k + 1))) ?_ ?_ 0 (Nat.zero_le _) rfl
      · intro j hj hi next
        simp only [impl_isDone_L1, Int.toNat_natCast]
        have e0 : w64 ((k : Int) + 1) = ((k + 1 : Nat) : Int) := w64_succ (by omega)
        simp only [e0, Int.toNat_natCast, addN]
        refine Ex.yes (decide_eq_true (by omega)) (Ex.guard (by omega) ?_)
        rw [drop_at drcd (show k + 1 + j < h.length by omega), endd, List.any_cons] at hi
        refine Ex.be (a := (h.getD (k + 1 + j) drcd).fin && decide ((h.getD (k + 1 + j) drcd).who = (h.getD k drcd).who)) ?_ ?_
        · refine Ex.ite (fun h1 => Ex.guard (by omega) (Ex.ret (by rw [h1]; rfl))) (fun h1 => Ex.ret (by rw [h1]; rfl))
        · refine Ex.ite (fun h1 => Ex.ret ?_) (fun h1 => ?_)
          · rw [h1, Bool.true_or] at hi; rw [← hi]; rfl
          · rw [h1, Bool.false_or] at hi
            rw [w64_succ (by omega)]
            exact next hi
      · intro hi
        simp only [impl_isDone_L1]
        have e0 : w64 ((k : Int) + 1) = ((k + 1 : Nat) : Int) := w64_succ (by omega)
        simp only [e0, Int.toNat_natCast]
        refine Ex.no (decide_eq_false (by omega)) (Ex.ret ?_)
        rw [← hi, List.drop_eq_nil_of_le (by omega)]; rfl
    · cases endd (h.getD k drcd).who (h.drop (k + 1)) with
      | true => exact Ex.ret rfl
      | false => exact Ex.ret rfl

theorem ended_ex {h : List Rcd} (hl : h.length ≤ 1000000000000) {k : Nat} (hk : k ≤ h.length) (w : Int) : Ex (fun n => spec_ended n h (k : Int) w) (· = endd w (h.drop k)) := by
  unfold spec_ended
  refine Ex.be (a := if endd w (h.drop k) = true then .inl () else .inr ()) ?_ ?_
  · refine upU h.length (fun j => endd w (h.drop j) = endd w (h.drop k)) ?_ ?_ k hk rfl
    · intro j hj hi next
      simp only [spec_ended_L1, Int.toNat_natCast]
      refine Ex.yes (decide_eq_true (by omega)) (Ex.guard (by omega) ?_)
      rw [drop_at drcd hj, endd, List.any_cons] at hi
      refine Ex.be (a := (h.getD j drcd).fin && decide ((h.getD j drcd).who = w)) ?_ ?_
      · refine Ex.ite (fun h1 => Ex.guard (by omega) (Ex.ret (by rw [h1, Bool.and_true]))) (fun h1 => Ex.ret (by rw [h1, Bool.and_false]))
      · refine Ex.ite (fun h1 => Ex.ret ?_) (fun h1 => ?_)
        · rw [h1, Bool.true_or] at hi; rw [← hi]; rfl
        · rw [h1, Bool.false_or] at hi
          rw [w64_succ (by omega)]
          exact next hi
    · intro hi
      simp only [spec_ended_L1]
      refine Ex.no (decide_eq_false (by omega)) (Ex.ret ?_)
      rw [← hi, List.drop_length]; rfl
  · cases endd w (h.drop k) with
    | true => exact Ex.ret rfl
    | false => exact Ex.ret rfl

/-- a loop down a list -/
theorem down {ρ σ α : Type} (xs : List ρ) (d : ρ) (I : σ → Prop) (F : List ρ → σ → α) {f : Nat → σ → Int → Option α}
    (h1 : ∀ (k : Nat) (s : σ), k < xs.length → I s → (∀ s', I s' → Ex (fun n => f n s' ((k + 1 : Nat) : Int)) (· = F (xs.drop (k + 1)) s')) → Ex (fun n => f (n + 1) s (k : Int)) (· = F (xs.getD k d :: xs.drop (k + 1)) s))
    (h2 : ∀ s, I s → Ex (fun n => f (n + 1) s (xs.length : Int)) (· = F [] s)) (k : Nat) (s : σ) (hk : k ≤ xs.length) (hs : I s) : Ex (fun n => f n s (k : Int)) (· = F (xs.drop k) s) := by
  have key : ∀ (m k : Nat) (s : σ), k + m = xs.length → I s → Ex (fun n => f n s (k : Int)) (· = F (xs.drop k) s) := by
    intro m
    induction m with
    | zero =>
      intro k s hk hs
      obtain rfl : k = xs.length := by omega
      rw [List.drop_length]
      exact Ex.succ (h2 s hs)
    | succ m ih =>
      intro k s hk hs
      rw [drop_at d (by omega)]
      exact Ex.succ (h1 k s (by omega) hs (fun s' hs' => ih (k + 1) s' (by omega) hs'))
  exact key (xs.length - k) k s (by omega) hs

def upd (t : List Nod) (n : Int) (v : Int) : List Nod := t.set n.toNat ⟨(t.getD n.toNat dnod).parent, (t.getD n.toNat dnod).name, v⟩
def redoL : List Rcd → List Nod → List Nod
  | [], t => t
  | r :: l, t => redoL l (if (!r.fin && endd r.who l) = true then upd t r.node r.value else t)
def redoR (t : List Nod) (h : List Rcd) : List Nod := if validL t h = true then redoL h t else []
theorem upd_len (t : List Nod) (n v : Int) : (upd t n v).length = t.length := by simp [upd]
theorem redoL_len : ∀ (l : List Rcd) (t : List Nod), (redoL l t).length = t.length
  | [], t => rfl
  | r :: l, t => by
    rw [redoL, redoL_len l]
    split
    · exact upd_len _ _ _
    · rfl

theorem implRedo_ex (t : List Nod) {h : List Rcd} : Ex (fun n => impl_RedoLog n t h) (· = redoR t h) := by
  unfold impl_RedoLog
  refine Ex.be (implLog_ex t) ?_
  rw [redoR]
  cases hv : validL t h with
  | false => exact Ex.yes rfl (Ex.ret rfl)
  | true =>
    obtain ⟨hT, hl, hr⟩ := validL_iff.1 hv
    have htl : t.length ≤ 12 := by
      simp only [validT, Bool.and_eq_true, decide_eq_true_eq] at hT; exact hT.1.2
    refine Ex.no rfl (Ex.bc (a := t) (by unfold slices_Clone_Node; rw [guardO_pos (by omega)]) ?_)
    refine Ex.bind (P := fun x => x = redoL h t) ?_ (fun r hr => Ex.ret hr)
    refine down h drcd (fun x => x.length = t.length) (fun l x => redoL l x) (f := fun n x i => impl_RedoLog_L1 h t n x i) ?_ ?_ 0 t (Nat.zero_le _) rfl
    · intro k x hk hx next
      simp only [impl_RedoLog_L1, Int.toNat_natCast]
      refine Ex.yes (decide_eq_true (by omega)) (Ex.guard (by omega) (Ex.be (isDone_ex (by omega) hk) ?_))
      rw [w64_succ (by omega), redoL]
      have h1 := (rcdOk_iff (hr _ (getD_mem (d := drcd) hk))).2
      refine Ex.be (a := if (!(h.getD k drcd).fin && endd (h.getD k drcd).who (h.drop (k + 1))) = true then upd x (h.getD k drcd).node (h.getD k drcd).value else x) ?_ ?_
      · refine Ex.ite (fun h2 => Ex.guard (by omega) (Ex.ret ?_)) (fun h2 => Ex.ret ?_)
        · rw [if_pos h2]; rfl
        · rw [if_neg (by rw [h2]; simp)]
      · refine next _ ?_
        split
        · rw [upd_len]; exact hx
        · exact hx
    · intro x hx
      simp only [impl_RedoLog_L1]
      exact Ex.no (decide_eq_false (by omega)) (Ex.ret rfl)

theorem specRedo_ex {t : List Nod} (hn : NL t) (ht : t.length ≤ 400000000) {h : List Rcd} (hlh : h.length ≤ 1000000000000) : Ex (fun n => spec_RedoLog n t h) (· = redoR t h) := by
  unfold spec_RedoLog
  refine specBad_ex hn ht hlh (fun hv => Ex.ret ?_) (fun hv => ?_)
  · rw [redoR, hv]; rfl
  · rw [redoR, if_pos hv]
    obtain ⟨hT, hl, hr⟩ := validL_iff.1 hv
    refine Ex.guard ⟨rfl, rfl, by simp; omega⟩ ?_
    rw [view_all, List.nil_append]
    refine Ex.bind (P := fun x => x = redoL h t) ?_ (fun r hr => Ex.ret hr)
    refine down h drcd (fun x => x.length = t.length) (fun l x => redoL l x) (f := fun n x i => spec_RedoLog_L1 h t n x i) ?_ ?_ 0 t (Nat.zero_le _) rfl
    · intro k x hk hx next
      simp only [spec_RedoLog_L1, Int.toNat_natCast]
      refine Ex.yes (decide_eq_true (by omega)) (Ex.guard (by omega) ?_)
      rw [w64_succ (by omega), redoL]
      have h1 := (rcdOk_iff (hr _ (getD_mem (d := drcd) hk))).2
      refine Ex.be (a := (!(h.getD k drcd).fin && endd (h.getD k drcd).who (h.drop (k + 1)))) ?_ ?_
      · refine Ex.ite (fun h2 => Ex.guard (by omega) (Ex.be (ended_ex (by omega) (by omega) _) (Ex.ret ?_))) (fun h2 => Ex.ret ?_)
        · rw [h2, Bool.true_and]
        · rw [h2, Bool.false_and]
      · refine Ex.be (a := if (!(h.getD k drcd).fin && endd (h.getD k drcd).who (h.drop (k + 1))) = true then upd x (h.getD k drcd).node (h.getD k drcd).value else x) ?_ ?_
        · refine Ex.ite (fun h2 => Ex.guard (by omega) (Ex.guard (by omega) (Ex.guard (by omega) (Ex.ret ?_)))) (fun h2 => Ex.ret ?_)
          · rw [if_pos h2]; rfl
          · rw [if_neg (by rw [h2]; simp)]
        · refine next _ ?_
          split
          · rw [upd_len]; exact hx
          · exact hx
    · intro x hx
      simp only [spec_RedoLog_L1]
      exact Ex.no (decide_eq_false (by omega)) (Ex.ret rfl)

/-- who does not end -/
def loserL (w : Int) : List Rcd → Bool
  | [] => false
  | r :: l => (decide (r.who = w) && (!r.fin && !endd w l)) || loserL w l
def losers (h : List Rcd) : List Int := ([0, 1, 2, 3] : List Int).filter fun w => loserL w h
def losersR (t : List Nod) (h : List Rcd) : List Int := if validL t h = true then losers h else []

def marksL : List Rcd → List Bool → List Bool
  | [], s => s
  | r :: l, s => marksL l (if (!r.fin && !endd r.who l) = true then s.set r.who.toNat true else s)
theorem marksL_len : ∀ (l : List Rcd) (s : List Bool), (marksL l s).length = s.length
  | [], s => rfl
  | r :: l, s => by
    rw [marksL, marksL_len l]
    split
    · simp
    · rfl
theorem marksL_get : ∀ (l : List Rcd) (s : List Bool) (w : Nat), (∀ r ∈ l, 0 ≤ r.who) → w < s.length → (marksL l s).getD w false = (s.getD w false || loserL (w : Int) l)
  | [], s, w, _, _ => by simp [marksL, loserL]
  | r :: l, s, w, h, hw => by
    have hr := h r (by simp)
    have e : ∀ c : Bool, (if c = true then s.set r.who.toNat true else s).length = s.length := by intro c; cases c <;> simp
    rw [marksL, marksL_get l _ w (fun x hx => h x (by simp [hx])) (by rw [e]; exact hw), loserL, ← Bool.or_assoc]
    congr 1
    by_cases hc : r.who = (w : Int)
    · have h2 : r.who.toNat = w := by omega
      rw [hc, decide_eq_true rfl, Bool.true_and]
      split
      · rename_i h3
        rw [h3, Int.toNat_natCast, getD_set' hw, if_pos rfl]; simp
      · rename_i h3
        rw [Bool.not_eq_true] at h3
        rw [h3]; simp
    · rw [decide_eq_false hc, Bool.false_and, Bool.or_false]
      split
      · rw [List.getD_eq_getElem?_getD, List.getElem?_set_ne (by omega), List.getD_eq_getElem?_getD]
      · rfl

theorem four4_succ (p : Int → Bool) {k : Nat} (hk : k < 4) : (([0, 1, 2, 3] : List Int).take (k + 1)).filter p = (([0, 1, 2, 3] : List Int).take k).filter p ++ (if p (k : Int) = true then [(k : Int)] else []) := by
  have : k = 0 ∨ k = 1 ∨ k = 2 ∨ k = 3 := by omega
  rcases this with rfl | rfl | rfl | rfl <;> simp [List.filter_cons] <;> (repeat' split) <;> simp_all

theorem markedL_ex {s : List Bool} (hs : s.length = 4) : Ex (fun n => impl_marked n s) (· = ([0, 1, 2, 3] : List Int).filter fun w => s.getD w.toNat false) := by
  unfold impl_marked
  refine Ex.guard (by omega) (Ex.guard (by omega) ?_)
  refine Ex.bind (P := fun x => x = _) ?_ (fun r hr => Ex.ret hr)
  refine up 4 (fun k (x : List Int) => x = (([0, 1, 2, 3] : List Int).take k).filter fun w => s.getD w.toNat false) (f := fun n x i => impl_marked_L1 s n x i) ?_ ?_ 0 [] (by omega) rfl
  · intro k x hk hx next
    simp only [impl_marked_L1, Int.toNat_natCast, List.drop_zero]
    rw [List.take_of_length_le (by omega)]
    have hxl : x.length ≤ 4 := by
      rw [hx]; exact Nat.le_trans (List.length_filter_le _ _) (by simp; omega)
    refine Ex.yes (decide_eq_true (by omega)) (Ex.guard (by omega) ?_)
    rw [w64_succ (by omega)]
    refine Ex.be (a := x ++ (if s.getD k false = true then [(k : Int)] else [])) ?_ (next _ ?_)
    · refine Ex.ite (fun h1 => Ex.guard (by simp; omega) (Ex.ret ?_)) (fun h1 => Ex.ret ?_)
      · rw [if_pos h1]; rfl
      · rw [if_neg (by rw [h1]; simp), List.append_nil]
    · rw [four4_succ _ hk, hx, Int.toNat_natCast]
  · intro x hx
    simp only [impl_marked_L1]
    exact Ex.no rfl (Ex.ret (by rw [hx]; rfl))

theorem implLosers_ex (t : List Nod) {h : List Rcd} : Ex (fun n => impl_LosersOf n t h) (· = losersR t h) := by
  unfold impl_LosersOf
  refine Ex.be (implLog_ex t) ?_
  rw [losersR]
  cases hv : validL t h with
  | false => exact Ex.yes rfl (Ex.ret rfl)
  | true =>
    obtain ⟨hT, hl, hr⟩ := validL_iff.1 hv
    refine Ex.no rfl (Ex.be (a := marksL h [false, false, false, false]) ?_ ?_)
    · refine down h drcd (fun s => s.length = 4) (fun l s => marksL l s) (f := fun n x i => impl_LosersOf_L1 h t n x i) ?_ ?_ 0 [false, false, false, false] (Nat.zero_le _) rfl
      · intro k x hk hx next
        simp only [impl_LosersOf_L1, Int.toNat_natCast, Nat.mul_one]
        refine Ex.yes (decide_eq_true (by omega)) (Ex.guard (by omega) ?_)
        rw [w64_succ (by omega), marksL]
        have h1 := (rcdOk_iff (hr _ (getD_mem (d := drcd) hk))).1
        refine Ex.be (a := (!(h.getD k drcd).fin && !endd (h.getD k drcd).who (h.drop (k + 1)))) ?_ ?_
        · refine Ex.ite (fun h2 => Ex.be (isDone_ex (by omega) hk) (Ex.ret ?_)) (fun h2 => Ex.ret ?_)
          · rw [h2, Bool.true_and, Bool.true_and]
          · rw [h2, Bool.false_and]
        · refine Ex.be (a := if (!(h.getD k drcd).fin && !endd (h.getD k drcd).who (h.drop (k + 1))) = true then x.set (h.getD k drcd).who.toNat true else x) ?_ ?_
          · refine Ex.ite (fun h2 => Ex.guard (by omega) (Ex.ret ?_)) (fun h2 => Ex.ret ?_)
            · rw [if_pos h2]
            · rw [if_neg (by rw [h2]; simp)]
          · refine next _ ?_
            split
            · simpa using hx
            · exact hx
      · intro x hx
        simp only [impl_LosersOf_L1]
        exact Ex.no (decide_eq_false (by omega)) (Ex.ret rfl)
    · have h4 : (marksL h [false, false, false, false]).length = 4 := marksL_len _ _
      refine Ex.guard (by omega) ?_
      rw [List.drop_zero, List.take_of_length_le (by omega)]
      refine Ex.be (markedL_ex h4) (Ex.ret ?_)
      rw [if_pos rfl, losers]
      refine List.filter_congr (fun w hw => ?_)
      have hw' : 0 ≤ w ∧ w ≤ 3 := by
        simp only [List.mem_cons, List.not_mem_nil, or_false] at hw; omega
      rw [marksL_get h _ w.toNat (fun r hx => (rcdOk_iff (hr r hx)).1.1) (by simp; omega), Int.toNat_of_nonneg hw'.1]
      have : ([false, false, false, false] : List Bool).getD w.toNat false = false := by
        simp only [List.mem_cons, List.not_mem_nil, or_false] at hw
        rcases hw with rfl | rfl | rfl | rfl <;> rfl
      rw [this, Bool.false_or]

theorem specLosers_ex {t : List Nod} (hn : NL t) (ht : t.length ≤ 400000000) {h : List Rcd} (hlh : h.length ≤ 1000000000000) : Ex (fun n => spec_LosersOf n t h) (· = losersR t h) := by
  unfold spec_LosersOf
  refine specBad_ex hn ht hlh (fun hv => Ex.ret ?_) (fun hv => ?_)
  · rw [losersR, hv]; rfl
  · rw [losersR, if_pos hv]
    obtain ⟨hT, hl, hr⟩ := validL_iff.1 hv
    refine Ex.bind (P := fun x => x = losers h) ?_ (fun r hr => Ex.ret hr)
    refine up 4 (fun k (x : List Int) => x = (([0, 1, 2, 3] : List Int).take k).filter fun w => loserL w h) (f := fun n x i => spec_LosersOf_L1 h t n x i) ?_ ?_ 0 [] (by omega) rfl
    · intro k x hk hx next
      simp only [spec_LosersOf_L1]
      have hxl : x.length ≤ 4 := by
        rw [hx]; exact Nat.le_trans (List.length_filter_le _ _) (by simp; omega)
      refine Ex.yes (decide_eq_true (by omega)) (Ex.be (a := loserL (k : Int) h) ?_ ?_)
      · have := down h drcd (fun _ => True) (fun l (b : Bool) => b || loserL (k : Int) l) (f := fun n b i => spec_LosersOf_L2 h x k t n b i) ?_ ?_ 0 false (Nat.zero_le _) trivial
        · refine Ex.mono this (fun r hr => ?_)
          rw [hr]; rfl
        · intro j b hj _ next
          simp only [spec_LosersOf_L2, Int.toNat_natCast]
          refine Ex.yes (decide_eq_true (by omega)) ?_
          rw [w64_succ (by omega), loserL, ← Bool.or_assoc]
          refine Ex.be (a := b || (decide ((h.getD j drcd).who = (k : Int)) && (!(h.getD j drcd).fin && !endd (k : Int) (h.drop (j + 1))))) ?_ (next _ trivial)
          refine Ex.ite (fun h2 => Ex.ret (by rw [h2]; rfl)) (fun h2 => Ex.guard (by omega) ?_)
          rw [h2, Bool.false_or]
          refine Ex.ite (fun h3 => Ex.guard (by omega) ?_) (fun h3 => Ex.ret (by rw [h3]; rfl))
          rw [h3, Bool.true_and]
          refine Ex.ite (fun h4 => Ex.be (ended_ex (by omega) (by omega) _) (Ex.ret ?_)) (fun h4 => Ex.ret ?_)
          · rw [h4, Bool.true_and]
          · rw [h4, Bool.false_and]
        · intro b _
          simp only [spec_LosersOf_L2]
          exact Ex.no (decide_eq_false (by omega)) (Ex.ret (by simp [loserL]))
      · rw [w64_succ (by omega)]
        refine Ex.be (a := x ++ (if loserL (k : Int) h = true then [(k : Int)] else [])) ?_ (next _ ?_)
        · refine Ex.ite (fun h1 => Ex.guard (by simp; omega) (Ex.ret ?_)) (fun h1 => Ex.ret ?_)
          · rw [if_pos h1]; rfl
          · rw [if_neg (by rw [h1]; simp), List.append_nil]
        · rw [four4_succ _ hk, hx]
    · intro x hx
      simp only [spec_LosersOf_L1]
      exact Ex.no rfl (Ex.ret (by rw [hx]; rfl))
end Go.Proofs.Ytdkmgkeaebcobaa
