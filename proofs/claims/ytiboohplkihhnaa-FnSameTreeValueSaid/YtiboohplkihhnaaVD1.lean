/- Plain facts: drawn pairs of trees, the same trees. Conditions: none. -/
import Derived.Test.YtiboohplkihhnaaVP4
import Derived.Test.YtiboohplkihhnaaVPc
namespace Go.Proofs.Ytiboohplkihhnaa
open Go
set_option linter.unusedVariables false

theorem nl1 : NL [(⟨-1, [], 0⟩ : Nod)] := ⟨by simp, by simp⟩
theorem applyR_GR {t : List Nod} {l : List Edt} : GR (applyR t l).1 0 (applyR t l).1.length := by
  obtain ⟨h1, h2⟩ := applyR_NL (t := t) (l := l)
  exact ⟨by omega, fun y hy => by have := h2 y hy; omega, by omega⟩
theorem drawSame_ex {x1 : List Int} (h : ∀ b ∈ x1, 0 ≤ b ∧ b ≤ 255) (hl : x1.length ≤ 1048576) : Ex (fun n => spec_DrawSameTree n x1) (fun r => GR r.1 r.2.2.1 r.2.2.2.1 ∧ GR r.2.1 r.2.2.2.2.1 r.2.2.2.2.2) := by
  unfold spec_DrawSameTree
  refine Ex.bind (newReader_ex h (by omega)) (fun k hk => ?_)
  refine Ex.bind (anyTree_ex hk (Int.le_refl 0) (by omega)) ?_
  rintro ⟨i, x, a, b⟩ ⟨h1, h2⟩
  simp only at h1 h2 ⊢
  refine Ex.bind (pick_ex hk (by omega) (by omega) (by omega) (by omega)) (fun p hp => ?_)
  refine Ex.bind (P := fun v => match v with
    | .inl u => GR u 0 u.length
    | .inr _ => True) ?_ ?_
  · refine Ex.ite (fun _ => ?_) (fun _ => Ex.ret trivial)
    refine Ex.be (specBetween_ex nl1 h2.nl (by simp) (by have := h2.len; omega)) (Ex.be (specApplyAll_ex nl1 (by simp) eb_paths) ?_)
    have hg := applyR_GR (t := [(⟨-1, [], 0⟩ : Nod)]) (l := eb [(⟨-1, [], 0⟩ : Nod)] ((x.drop a).take b))
    generalize applyR _ _ = r at hg ⊢
    obtain ⟨u, c⟩ := r
    cases c with
    | true => exact Ex.yes rfl (Ex.ret hg)
    | false => exact Ex.no rfl (Ex.ret trivial)
  · rintro (u | u) hu
    · exact Ex.ret ⟨h2, hu⟩
    · simp only
      rw [w64_id (by omega) (by omega)]
      refine Ex.bind (anyTree_ex hk (by omega) (by omega)) ?_
      rintro ⟨j, y, c, d⟩ ⟨h3, h4⟩
      exact Ex.ret ⟨h2, h4⟩
theorem sameT_iff {a b : List Nod} : sameT a b = true ↔ VT a ∧ VT b ∧ ∀ l, M a l = M b l := by
  rw [sameT]
  simp only [Bool.and_eq_true, decide_eq_true_eq, validT_iff]
  constructor
  · rintro ⟨⟨ha, hb⟩, hl, he⟩
    exact ⟨ha, hb, (sameP_M ha hb).1 ((sameP_iff ha hb hl).1 he)⟩
  · rintro ⟨ha, hb, h⟩
    have := (sameP_M ha hb).2 h
    exact ⟨⟨ha, hb⟩, this.1, (sameP_iff ha hb this.1).2 this⟩
theorem sameT_comm (a b : List Nod) : sameT a b = sameT b a := by
  rw [Bool.eq_iff_iff, sameT_iff, sameT_iff]
  exact ⟨fun ⟨h1, h2, h3⟩ => ⟨h2, h1, fun l => (h3 l).symm⟩, fun ⟨h1, h2, h3⟩ => ⟨h2, h1, fun l => (h3 l).symm⟩⟩
end Go.Proofs.Ytiboohplkihhnaa
