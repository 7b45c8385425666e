/- Plain facts: drawn trees. Conditions: none. -/
import Derived.Test.YthlfcfcfipahiaaP4v
import Derived.Test.YthlfcfcfipahiaaLA
namespace Go.Proofs.Ythlfcfcfipahiaa
open Go

def addT (t : List Nod) (x : Nod) : List Nod × Int × Bool := if validT t = true ∧ t.length ≠ 12 ∧ validT (t ++ [x]) = true then (t ++ [x], (t.length : Int), true) else ([], -1, false)

theorem NL.snoc {t : List Nod} (h : NL t) (hl : t.length ≤ 1000000000) {x : Nod} (hx : x.name.length ≤ 1000000000000) : NL (t ++ [x]) := by
  refine ⟨by simp; omega, fun y hy => ?_⟩
  rcases List.mem_append.1 hy with h1 | h1
  · exact h.2 y h1
  · rw [List.mem_singleton.1 h1]; exact hx

theorem specAdd_ex {t : List Nod} (hn : NL t) (hl : t.length ≤ 1000000) (p : Int) {s : Str} (hs : s.length ≤ 1000000000000) (v : Int) : Ex (fun n => spec_AddNode n t p s v) (· = addT t ⟨p, s, v⟩) := by
  unfold spec_AddNode
  refine Ex.be (specTree_ex hn (by omega)) ?_
  refine Ex.ite (fun h => Ex.ret ?_) (fun h => ?_)
  · simp only [Bool.or_eq_true, decide_eq_true_eq] at h
    rw [addT, if_neg]
    rintro ⟨h1, h2, _⟩
    rw [h1] at h
    rcases h with h | h
    · cases h
    · omega
  · simp only [Bool.or_eq_false_iff, decide_eq_false_iff_not] at h
    have h1 := notF h.1
    rw [view_all, List.nil_append]
    refine Ex.guard ⟨rfl, rfl, by simp; omega⟩ (Ex.guard ⟨rfl, rfl, by simp; omega⟩ ?_)
    rw [show (([(⟨p, s, v⟩ : Nod)].drop 0).take [(⟨p, s, v⟩ : Nod)].length) = [(⟨p, s, v⟩ : Nod)] from rfl]
    refine Ex.be (specTree_ex (hn.snoc (by omega) hs) (by simp; omega)) ?_
    refine Ex.ite (fun h2 => Ex.ret ?_) (fun h2 => Ex.ret ?_)
    · rw [addT, if_neg]
      rintro ⟨_, _, h3⟩
      rw [h3] at h2; cases h2
    · rw [addT, if_pos ⟨h1, by omega, notF h2⟩]

theorem of_ex {x1 : List Int} {k2 : Nat} (h : Rd x1 k2) {i : Int} {l : List Str} (h0 : 0 ≤ i) (h1 : i ≤ 1000000000) (hl : l.length ≤ 1000000000) (hp : 1 ≤ l.length) :
    Ex (fun _ => spec_reader_of x1 k2 i l) (fun r => r.1 = i + 1 ∧ r.2 ∈ l) := by
  unfold spec_reader_of
  refine Ex.bind (pick_ex h h0 h1 (by omega) (by omega)) (fun r hr => ?_)
  refine Ex.guard ⟨hr.1, hr.2⟩ ?_
  exact Ex.ret ⟨w64_id (by omega) (by omega), getD_mem (by omega)⟩

theorem someName_ex {x1 : List Int} {k2 : Nat} (h : Rd x1 k2) {i : Int} (h0 : 0 ≤ i) (h1 : i ≤ 900000000) : Ex (fun _ => spec_someName x1 k2 i) (fun r => r.1 = i + 1 ∧ r.2.length ≤ 5) := by
  unfold spec_someName
  refine Ex.bind (of_ex h h0 (by omega) (by simp) (by simp)) ?_
  rintro ⟨a, s⟩ ⟨e, hs⟩
  refine Ex.ret ⟨e, ?_⟩
  simp only [List.mem_cons, List.not_mem_nil, or_false] at hs
  rcases hs with rfl | rfl | rfl | rfl | rfl | rfl <;> simp

/-- a drawn tree -/
structure GT (t : List Nod) : Prop where
  lo : 1 ≤ t.length
  hi : t.length ≤ 12
  nm : ∀ x ∈ t, x.name.length ≤ 5
theorem GT.nl {t : List Nod} (h : GT t) : NL t := ⟨by have := h.hi; omega, fun x hx => by have := h.nm x hx; omega⟩

theorem addT_GT {t : List Nod} (h : GT t) {x : Nod} (hx : x.name.length ≤ 5) : GT (if (addT t x).2.2 = true then (addT t x).1 else t) := by
  rw [addT]
  split
  · rename_i hc
    rw [if_pos rfl]
    refine ⟨by simp, ?_, fun y hy => ?_⟩
    · have := hc.2.2
      simp only [validT, Bool.and_eq_true, decide_eq_true_eq] at this
      exact this.1.2
    · rcases List.mem_append.1 hy with h1 | h1
      · exact h.nm y h1
      · rw [List.mem_singleton.1 h1]; exact hx
  · rw [if_neg (by simp)]; exact h

theorem someTree_loop {x1 : List Int} {k2 : Nat} (h : Rd x1 k2) : ∀ (m : Nat) (i : Int) (t : List Nod), 0 ≤ i → i + 5 * m ≤ 800000000 → GT t →
    Ex (fun n => spec_someTree_L1 k2 x1 n i t (m : Int)) (fun r => i ≤ r.1 ∧ r.1 ≤ i + 5 * m ∧ GT r.2)
  | 0, i, t, h0, h1, ht => by
    refine Ex.succ ?_
    simp only [spec_someTree_L1]
    exact Ex.no rfl (Ex.ret ⟨Int.le_refl _, by omega, ht⟩)
  | m + 1, i, t, h0, h1, ht => by
    refine Ex.succ ?_
    simp only [spec_someTree_L1]
    have hlo := ht.lo
    have hhi := ht.hi
    refine Ex.yes (decide_eq_true (by omega)) ?_
    refine Ex.bind (pick_ex h h0 (by omega) (by omega) (by omega)) (fun a ha => ?_)
    rw [w64_id (n := i + 1) (by omega) (by omega)]
    refine Ex.bind (someName_ex h (by omega) (by omega)) ?_
    rintro ⟨j, s⟩ ⟨hj, hs⟩
    simp only at hj hs ⊢
    subst hj
    refine Ex.bind (someValue_ex h (by omega) (by omega)) ?_
    rintro ⟨j, v⟩ ⟨hj, hv⟩
    simp only at hj hv ⊢
    subst hj
    refine Ex.be (specAdd_ex ht.nl (by omega) _ (by omega) _) ?_
    have hg := addT_GT ht (x := ⟨a, s, v⟩) hs
    generalize addT t ⟨a, s, v⟩ = r at hg
    obtain ⟨t', p, b⟩ := r
    simp only at hg ⊢
    refine Ex.be (a := if b = true then t' else t) ?_ ?_
    · cases b with
      | true => exact Ex.yes rfl (Ex.ret rfl)
      | false => exact Ex.no rfl (Ex.ret rfl)
    · have e : w64 (((m + 1 : Nat) : Int) - 1) = (m : Int) := by rw [w64_id (by omega) (by omega)]; omega
      rw [e]
      refine Ex.mono (someTree_loop h m _ _ (by omega) (by omega) hg) ?_
      rintro r ⟨h2, h3, h4⟩
      exact ⟨by omega, by omega, h4⟩

theorem someTree_ex {x1 : List Int} {k2 : Nat} (h : Rd x1 k2) {i : Int} (h0 : 0 ≤ i) (h1 : i ≤ 700000000) : Ex (fun n => spec_someTree n x1 k2 i) (fun r => i ≤ r.1 ∧ r.1 ≤ i + 100 ∧ GT r.2) := by
  unfold spec_someTree
  refine Ex.bind (someValue_ex h h0 (by omega)) ?_
  rintro ⟨j, v⟩ ⟨hj, hv⟩
  simp only at hj hv ⊢
  subst hj
  refine Ex.bind (one_ex h (by omega) (by omega) (by simp) (by simp)) ?_
  rintro ⟨j, c⟩ ⟨hj, hc⟩
  simp only at hj hc ⊢
  subst hj
  simp only [List.mem_cons, List.not_mem_nil, or_false] at hc
  obtain ⟨m, rfl, hm⟩ : ∃ m : Nat, c = (m : Int) ∧ m ≤ 16 := ⟨c.toNat, by omega, by omega⟩
  refine Ex.bind (someTree_loop h m _ _ (by omega) (by omega) ⟨by simp, by simp, by simp⟩) ?_
  rintro ⟨j, t⟩ ⟨h2, h3, h4⟩
  simp only at h2 h3 h4 ⊢
  exact Ex.ret ⟨by simp only; omega, by simp only; omega, h4⟩

/-- a drawn row of nodes and a window on it -/
structure GR (x : List Nod) (k l : Nat) : Prop where
  hi : x.length ≤ 13
  nm : ∀ y ∈ x, y.name.length ≤ 5
  vw : k + l ≤ x.length
theorem GR.len {x : List Nod} {k l : Nat} (h : GR x k l) : ((x.drop k).take l).length ≤ 13 := by
  have := h.hi; simp; omega
theorem GR.names {x : List Nod} {k l : Nat} (h : GR x k l) : ∀ y ∈ (x.drop k).take l, y.name.length ≤ 5 := fun y hy => h.nm y (List.mem_of_mem_drop (List.mem_of_mem_take hy))
theorem GR.nl {x : List Nod} {k l : Nat} (h : GR x k l) : NL ((x.drop k).take l) := ⟨by have := h.len; omega, fun y hy => by have := h.names y hy; omega⟩
theorem GT.gr {t : List Nod} (h : GT t) : GR t 0 t.length := ⟨by have := h.hi; omega, h.nm, by omega⟩
theorem GT.set {t : List Nod} (h : GT t) {i : Nat} {x : Nod} (hx : x.name.length ≤ 5) : GR (t.set i x) 0 (t.set i x).length := by
  refine ⟨by have := h.hi; simp; omega, fun y hy => ?_, by omega⟩
  rcases List.mem_or_eq_of_mem_set hy with h1 | rfl
  · exact h.nm y h1
  · exact hx

theorem anyTree_loop {x1 : List Int} {k2 : Nat} {j : Int} : ∀ (m : Nat) (t : List Nod), t.length + m = 13 → (∀ y ∈ t, y.name.length ≤ 5) →
    Ex (fun n => spec_anyTree_L1 k2 j x1 n t) (fun r => r.length ≤ 13 ∧ ∀ y ∈ r, y.name.length ≤ 5)
  | 0, t, h1, h2 => by
    refine Ex.succ ?_
    simp only [spec_anyTree_L1]
    exact Ex.no (decide_eq_false (by omega)) (Ex.ret ⟨by omega, h2⟩)
  | m + 1, t, h1, h2 => by
    refine Ex.succ ?_
    simp only [spec_anyTree_L1]
    refine Ex.yes (decide_eq_true (by omega)) (Ex.guard (by simp; omega) ?_)
    refine anyTree_loop m _ (by simp; omega) (fun y hy => ?_)
    rcases List.mem_append.1 hy with h3 | h3
    · exact h2 y h3
    · rw [List.mem_singleton.1 h3]; simp

theorem anyTree_ex {x1 : List Int} {k2 : Nat} (h : Rd x1 k2) {i : Int} (h0 : 0 ≤ i) (h1 : i ≤ 600000000) :
    Ex (fun n => spec_anyTree n x1 k2 i) (fun r => (i ≤ r.1 ∧ r.1 ≤ i + 200) ∧ GR r.2.1 r.2.2.1 r.2.2.2) := by
  unfold spec_anyTree
  refine Ex.bind (someTree_ex h h0 (by omega)) ?_
  rintro ⟨j, t⟩ ⟨h2, h3, ht⟩
  simp only at h2 h3 ht ⊢
  have hlo := ht.lo
  have hhi := ht.hi
  have hnm := ht.nm
  refine Ex.bind (pick_ex h (by omega) (by omega) (by omega) (by omega)) (fun p hp => ?_)
  rw [w64_id (n := j + 1) (by omega) (by omega)]
  refine Ex.bind (pick_ex h (by omega) (by omega) (by omega) (by omega)) (fun c hc => ?_)
  rw [w64_id (n := j + 1 + 1) (by omega) (by omega)]
  have hpn : (t.getD p.toNat dnod).name.length ≤ 5 := hnm _ (getD_mem (by omega))
  refine Ex.bind (P := fun r => (i ≤ r.1 ∧ r.1 ≤ i + 200) ∧ GR r.2.1 r.2.2.1 r.2.2.2) ?_ (fun r hr => Ex.ret hr)
  refine Ex.ite (fun _ => ?_) (fun _ => ?_)
  · refine Ex.bind (pick_ex h (by omega) (by omega) (by omega) (by omega)) (fun q hq => ?_)
    refine Ex.guard ⟨hp.1, hp.2⟩ (Ex.ret ⟨?_, ht.set hpn⟩)
    simp only
    rw [w64_id (by omega) (by omega)]; omega
  · refine Ex.bind (P := fun r => (i ≤ r.1 ∧ r.1 ≤ i + 200) ∧ GR r.2.1 r.2.2.1 r.2.2.2) ?_ (fun r hr => Ex.ret hr)
    refine Ex.ite (fun _ => ?_) (fun _ => ?_)
    · refine Ex.bind (of_ex h (by omega) (by omega) (by simp) (by simp)) ?_
      rintro ⟨q, s⟩ ⟨hq, hs⟩
      simp only at hq hs ⊢
      refine Ex.guard ⟨hp.1, hp.2⟩ (Ex.ret ⟨by simp only; omega, ht.set ?_⟩)
      simp only [List.mem_cons, List.not_mem_nil, or_false] at hs
      rcases hs with rfl | rfl | rfl | rfl <;> simp
    · refine Ex.bind (P := fun r => (i ≤ r.1 ∧ r.1 ≤ i + 200) ∧ GR r.2.1 r.2.2.1 r.2.2.2) ?_ (fun r hr => Ex.ret hr)
      refine Ex.ite (fun _ => ?_) (fun _ => ?_)
      · refine Ex.bind (one_ex h (by omega) (by omega) (by simp) (by simp)) ?_
        rintro ⟨q, s⟩ ⟨hq, hs⟩
        simp only at hq hs ⊢
        exact Ex.guard ⟨hp.1, hp.2⟩ (Ex.ret ⟨by simp only; omega, ht.set hpn⟩)
      · refine Ex.bind (P := fun r => GR r.1 r.2.1 r.2.2) ?_ (fun r hr => Ex.ret ⟨by simp only; omega, hr⟩)
        refine Ex.ite (fun _ => Ex.guard (by omega) (Ex.ret ⟨by simp only; omega, hnm, by simp only; omega⟩)) (fun _ => ?_)
        refine Ex.bind (P := fun r => r.length ≤ 13 ∧ ∀ y ∈ r, y.name.length ≤ 5) ?_ (fun r hr => Ex.ret ⟨hr.1, hr.2, by simp⟩)
        refine Ex.ite (fun _ => ?_) (fun _ => Ex.ret ⟨by omega, hnm⟩)
        exact Ex.bind (anyTree_loop (13 - t.length) t (by omega) hnm) (fun r hr => Ex.ret hr)
end Go.Proofs.Ythlfcfcfipahiaa
