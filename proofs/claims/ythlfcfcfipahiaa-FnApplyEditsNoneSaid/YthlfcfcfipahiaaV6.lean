/- Plain facts: edits one by one, the last edit. Conditions: none. -/
import Derived.Test.YthlfcfcfipahiaaV5
namespace Go.Proofs.Ythlfcfcfipahiaa
open Go
set_option linter.unusedVariables false
theorem appAll_app : ∀ (l l' : List Edt) (t : List Nod), appAll t (l ++ l') = (appAll t l).bind fun u => appAll u l'
  | [], l', t => rfl
  | e :: l, l', t => by
    rw [List.cons_append, appAll, appAll]
    cases app1 t e with
    | none => rfl
    | some u => exact appAll_app l l' u
theorem applyR_of {t u : List Nod} {l : List Edt} (h : VT t) (hl : l.length ≤ 24) (e : appAll t l = some u) : applyR t l = (u, true) := by
  rw [applyR, if_pos (by rw [validT_iff.2 h, decide_eq_true hl]; rfl), e]
theorem resO_M {t : List Nod} (h : VT t) {s : Str} {l : List Str} (hp : pth s = some l) : resO t s = none ↔ M t l = none := by
  rw [M_none, resO, hp]; rfl
/-- what the last edit leaves -/
theorem app1_last {t u : List Nod} (h : VT t) {e : Edt} (hu : app1 t e = some u) : if e.kind = 1 then resO u e.path = none else ∃ k, resO u e.path = some k ∧ va u k = e.value := by
  have hvu := app1_VT h hu
  unfold app1 at hu
  split at hu
  · rename_i hk
    rw [if_pos hk]
    split at hu
    · unfold dropP at hu
      split at hu
      · rename_i k hr
        split at hu
        · rename_i h0
          cases hu
          obtain ⟨h1, h2⟩ := (resO_iff h).1 hr
          have hp : pth e.path = some (np t k) := by rw [← h2]; exact pth_ptx (np_names h k h1)
          rw [resO_M hvu hp, dropT_M h h0 h1, if_pos (List.prefix_refl _)]
        · cases hu
      · cases hu
    · cases hu
  · rename_i hk
    rw [if_neg hk]
    split at hu
    · split at hu
      · rename_i k hr
        split at hu
        · rename_i hv
          cases hu
          obtain ⟨h1, h2⟩ := (resO_iff h).1 hr
          refine ⟨k, (resO_iff hvu).2 ⟨by rw [setT_len]; exact h1, by rw [setT_np h1 _ h1, h2]⟩, ?_⟩
          rw [setT_va h1, if_pos rfl]
        · cases hu
      · obtain ⟨p, n, rfl, f, hs⟩ := (addP_iff h).1 hu
        refine ⟨t.length, (resO_iff hvu).2 ⟨by simp, ?_⟩, by rw [va, app_last]⟩
        rw [app_np_last f.p0 f.p1, hs]; rfl
    · cases hu
end Go.Proofs.Ythlfcfcfipahiaa
