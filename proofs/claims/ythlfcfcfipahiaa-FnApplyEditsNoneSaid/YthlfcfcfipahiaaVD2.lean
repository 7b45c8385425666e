/- Plain facts: drawn trees and edits. Conditions: none. -/
import Derived.Test.YthlfcfcfipahiaaVP4
namespace Go.Proofs.Ythlfcfcfipahiaa
open Go
set_option linter.unusedVariables false

theorem eb_len {a b : List Nod} : (eb a b).length ≤ 24 := by
  unfold eb
  split
  · rename_i hv
    simp only [Bool.and_eq_true] at hv
    have h1 := validT_iff.1 hv.1
    have h2 := validT_iff.1 hv.2
    have w1 := walk_len h1
    have w2 := walk_len h2
    have := h1.hi
    have := h2.hi
    have l1 := take_filter_len (walkT a) (pD a b) (fD a) (walkT a).length
    have l2 := take_filter_len (walkT b) (pS a b) (fS b) (walkT b).length
    rw [List.take_length] at l1 l2
    rw [List.length_append, ebD_eq, ebS_eq]; omega
  · simp
theorem somePath_ex {x1 : List Int} {k2 : Nat} (hr : Rd x1 k2) {i : Int} (h0 : 0 ≤ i) (h1 : i ≤ 900000000) {t : List Nod} (hn : NL t) (hl : t.length ≤ 100000000) : Ex (fun n => spec_somePath n x1 k2 i t) (fun r => (i ≤ r.1 ∧ r.1 ≤ i + 2) ∧ r.2.length ≤ 20) := by
  unfold spec_somePath
  refine Ex.bind (P := fun r => (i ≤ r.1 ∧ r.1 ≤ i + 1) ∧ (r.2 = true → 0 < t.length ∧ validT t = true)) ?_ ?_
  · refine Ex.ite (fun hb => ?_) (fun _ => Ex.ret ⟨by simp only; omega, fun h => by cases h⟩)
    have hb := of_decide_eq_true hb
    refine Ex.be (specTree_ex hn (by omega)) (Ex.ite (fun hv => ?_) (fun _ => Ex.ret ⟨by simp only; omega, fun h => by cases h⟩))
    refine Ex.bind (pick_ex hr (by omega) (by omega) (by omega) (by omega)) (fun a ha => Ex.ret ⟨?_, fun _ => ⟨by omega, hv⟩⟩)
    simp only
    rw [w64_id (by omega) (by omega)]; omega
  · rintro ⟨j, b⟩ ⟨h2, h3⟩
    simp only at h2 h3 ⊢
    refine Ex.ite (fun hb => ?_) (fun _ => ?_)
    · obtain ⟨h4, h5⟩ := h3 hb
      have hv := validT_iff.1 h5
      refine Ex.bind (pick_ex hr (by omega) (by omega) (by omega) (by omega)) (fun a ha => ?_)
      obtain ⟨m, rfl⟩ : ∃ m : Nat, a = (m : Int) := ⟨a.toNat, by omega⟩
      refine Ex.be (specPathText_ex hv (by omega)) (Ex.ret ⟨?_, ptx_len hv (by omega)⟩)
      simp only
      rw [w64_id (by omega) (by omega)]; omega
    · refine Ex.bind (of_ex hr (by omega) (by omega) (by simp) (by simp)) ?_
      rintro ⟨p, s⟩ ⟨h4, h5⟩
      refine Ex.ret ⟨by simp only at h4 ⊢; omega, ?_⟩
      simp only [List.mem_cons, List.not_mem_nil, or_false] at h5
      rcases h5 with rfl | rfl | rfl | rfl | rfl | rfl | rfl | rfl | rfl <;> simp

theorem drawEdits_loop {x1 : List Int} {k2 : Nat} (hr : Rd x1 k2) {x : List Nod} {a b : Nat} (hg : GR x a b) : ∀ (m : Nat) (i : Int) (l : List Edt), 0 ≤ i → i + 10 * m ≤ 800000000 → l.length + m ≤ 1000 → (∀ e ∈ l, e.path.length ≤ 20) →
    Ex (fun n => spec_DrawApplyEdits_L1 a b x1 k2 x n i l (m : Int)) (fun r => r.length ≤ l.length + m ∧ ∀ e ∈ r, e.path.length ≤ 20)
  | 0, i, l, h0, h1, h2, h3 => by
    refine Ex.succ ?_
    simp only [spec_DrawApplyEdits_L1]
    exact Ex.no rfl (Ex.ret ⟨by simp, h3⟩)
  | m + 1, i, l, h0, h1, h2, h3 => by
    refine Ex.succ ?_
    simp only [spec_DrawApplyEdits_L1]
    refine Ex.yes (decide_eq_true (by omega)) ?_
    refine Ex.bind (one_ex hr (by omega) (by omega) (by simp) (by simp)) ?_
    rintro ⟨p1, a1⟩ ⟨e1, _⟩
    simp only at e1 ⊢
    refine Ex.bind (somePath_ex hr (by omega) (by omega) hg.nl (by have := hg.len; omega)) ?_
    rintro ⟨p2, s⟩ ⟨e2, hs⟩
    simp only at e2 hs ⊢
    refine Ex.bind (one_ex hr (by omega) (by omega) (by simp) (by simp)) ?_
    rintro ⟨p3, a3⟩ ⟨e3, _⟩
    simp only at e3 ⊢
    refine Ex.guard ⟨trivial, trivial, by simp; omega⟩ ?_
    have e : w64 (((m + 1 : Nat) : Int) - 1) = (m : Int) := by rw [w64_id (by omega) (by omega)]; omega
    rw [e]
    refine Ex.mono (drawEdits_loop hr hg m p3 (l ++ [(⟨a1, s, a3⟩ : Edt)]) (by omega) (by omega) (by simp; omega) (fun y hy => ?_)) ?_
    · rcases List.mem_append.1 hy with h4 | h4
      · exact h3 y h4
      · rw [List.mem_singleton.1 h4]; exact hs
    · rintro r ⟨h4, h5⟩
      exact ⟨by simp at h4; omega, h5⟩

theorem drawEdits_ex {x1 : List Int} (h : ∀ b ∈ x1, 0 ≤ b ∧ b ≤ 255) (hl : x1.length ≤ 1048576) : Ex (fun n => spec_DrawApplyEdits n x1) (fun r => GR r.1 r.2.2.1 r.2.2.2 ∧ r.2.1.length ≤ 30 ∧ ∀ e ∈ r.2.1, e.path.length ≤ 1000000000000) := by
  unfold spec_DrawApplyEdits
  refine Ex.bind (newReader_ex h (by omega)) (fun k hk => ?_)
  refine Ex.bind (anyTree_ex hk (Int.le_refl 0) (by omega)) ?_
  rintro ⟨i, x, a, b⟩ ⟨h1, h2⟩
  simp only at h1 h2 ⊢
  refine Ex.bind (pick_ex hk (by omega) (by omega) (by omega) (by omega)) (fun p hp => ?_)
  rw [w64_id (n := i + 1) (by omega) (by omega)]
  refine Ex.bind (P := fun l => l.length ≤ 30 ∧ ∀ e ∈ l, e.path.length ≤ 1000000000000) ?_ (fun l hl => Ex.ret ⟨h2, hl⟩)
  refine Ex.ite (fun _ => ?_) (fun _ => ?_)
  · refine Ex.bind (someTree_ex hk (by omega) (by omega)) ?_
    rintro ⟨j, t⟩ ⟨_, _, ht⟩
    simp only at ht ⊢
    refine Ex.be (specBetween_ex h2.nl ht.nl (by have := h2.len; omega) (by have := ht.hi; omega)) (Ex.ret ⟨?_, eb_paths⟩)
    have := eb_len (a := (x.drop a).take b) (b := t); omega
  · refine Ex.bind (one_ex hk (by omega) (by omega) (by simp) (by simp)) ?_
    rintro ⟨j, c⟩ ⟨hj, hc⟩
    simp only at hj hc ⊢
    simp only [List.mem_cons, List.not_mem_nil, or_false] at hc
    obtain ⟨m, rfl, hm⟩ : ∃ m : Nat, c = (m : Int) ∧ m ≤ 25 := ⟨c.toNat, by omega, by omega⟩
    refine Ex.bind (drawEdits_loop hk h2 m j [] (by omega) (by omega) (by simp; omega) (by simp)) ?_
    rintro l ⟨h3, h4⟩
    simp only [List.length_nil] at h3
    exact Ex.ret ⟨by omega, fun e he => by have := h4 e he; omega⟩
end Go.Proofs.Ythlfcfcfipahiaa
