/- The abstract step of an operation is what the model does: all operations. Conditions: none. -/
import Derived.Test.YtghdgncfcfdlfaaGreatDoorTLk
namespace Go.Proofs.YtghdgncfcfdlfaaGreatDoor
open Go

section
variable {E : Env} {Γ : Ctx} {θ : List Loc} {st : St} {a : Act} {w : World}

/-- what an operation leaves -/
def Left (E : Env) (Γ : Ctx) (θ : List Loc) (st : St) (r : Result Next) (v : AV) (H' : List Blk) : Prop :=
 ∃ θ' x w', r = .ok (.value x) w' ∧ v.R (θ ++ θ') H' x ∧ HRel E Γ.w0 Γ.X Γ.θ0 (θ ++ θ') H' w' ∧ HLe st.H H'

theorem left_pure (hr : Rel E Γ θ st a w) {s : Sem Value} {v : AV} {H' : List Blk} (h : H' = st.H ∧ ∃ z, s.run E.P w = .ok z w ∧ v.R θ st.H z) :
  Left E Γ θ st ((do pure (Next.value (← s)) : Sem Next).run E.P w) v H' := by
 obtain ⟨rfl, z, hz, hv⟩ := h
 refine ⟨[], z, w, ?_, ?_, ?_, HLe.refl _⟩
 ·simp only [Sem.run_bind, hz, Result.andThen_ok, Sem.run_pure]
 ·simpa using hv
 ·simpa using hr.h

theorem left_new {s : Sem Value} {v : AV} {H' : List Blk} (h : ∃ l z w', s.run E.P w = .ok z w' ∧ v.R (θ ++ [l]) H' z ∧ HRel E Γ.w0 Γ.X Γ.θ0 (θ ++ [l]) H' w' ∧ HLe st.H H') :
  Left E Γ θ st ((do pure (Next.value (← s)) : Sem Next).run E.P w) v H' := by
 obtain ⟨l, z, w', hz, hv, hR, hle⟩ := h
 refine ⟨[l], z, w', ?_, hv, hR, hle⟩
 simp only [Sem.run_bind, hz, Result.andThen_ok, Sem.run_pure]

theorem left_same {s : Sem Value} {v : AV} {H' : List Blk} (h : ∃ z w', s.run E.P w = .ok z w' ∧ v.R θ H' z ∧ HRel E Γ.w0 Γ.X Γ.θ0 θ H' w' ∧ HLe st.H H') :
  Left E Γ θ st ((do pure (Next.value (← s)) : Sem Next).run E.P w) v H' := by
 obtain ⟨z, w', hz, hv, hR, hle⟩ := h
 refine ⟨[], z, w', ?_, by simpa using hv, by simpa using hR, hle⟩
 simp only [Sem.run_bind, hz, Result.andThen_ok, Sem.run_pure]

theorem parts_R (hr : Rel E Γ θ st a w) (ps : List (Nat × Operand)) : PartsR θ st.H (ps.map fun p => (p.1, ev st p.2)) (ps.map fun p => (p.1, a.eval p.2)) := by
 induction ps with
 | nil => trivial
 | cons p ps ih => exact ⟨⟨rfl, fun v hv => ev_R hr hv⟩, ih⟩

theorem capS_R (hr : Rel E Γ θ st a w) : ∀ {xs : List Operand} {l : List CE}, capS (xs.map (ev st)) = some l → All2 (CE.R θ st.H) l (xs.map a.eval)
 | [], l, h => by cases h; trivial
 | x :: xs, l, h => by
  rw [List.map_cons] at h
  unfold capS at h
  split at h
  ·rename_i heq; cases heq
  ·rename_i c l' heq
   obtain ⟨h1, rfl⟩ := List.cons.inj heq
   split at h
   ·rename_i ys hys
    cases h
    exact ⟨ev_R hr h1, capS_R hr hys⟩
   ·cases h
  ·cases h

theorem und_getD {t : TypeId} {d : TypeDesc} (h : E.P.underlying t = some d) : (underlying t).run E.P w = .ok ((E.P.underlying t).getD .invalid) w := by
 rw [h]; exact run_underlying h w

theorem opt_R (hr : Rel E Γ θ st a w) (x : Option Operand) : OptR θ st.H (x.map (ev st)) (x.map a.eval) := by
 cases x with
 | none => trivial
 | some x =>
  show OptR θ st.H (some (ev st x)) (some (a.eval x))
  cases h : ev st x with
  | none => trivial
  | some v => exact ev_R hr h

theorem map_one {xs : List Operand} {v : AV} (h : xs.map (ev st) = [some v]) : ∃ x, xs = [x] ∧ ev st x = some v := by
 cases xs with
 | nil => simp at h
 | cons x xs => cases xs with
  | nil => exact ⟨x, rfl, by simpa using h⟩
  | cons y ys => simp at h

theorem map_two {xs : List Operand} {u v : AV} (h : xs.map (ev st) = [some u, some v]) : ∃ x y, xs = [x, y] ∧ ev st x = some u ∧ ev st y = some v := by
 cases xs with
 | nil => simp at h
 | cons x xs => cases xs with
  | nil => simp at h
  | cons y ys => cases ys with
   | nil => exact ⟨x, y, rfl, by simpa using h⟩
   | cons z zs => simp at h

theorem opS_good (hr : Rel E Γ θ st a w) {o : Oper} {φ : Prop} {v : AV} {H' : List Blk} (h : opS E st o = some (φ, v, H')) (hφ : φ) : Left E Γ θ st ((execOp a.eval o).run E.P w) v H' := by
 have hh := hr.h
 have mv : ∀ {x : Operand}, (match ev st x with | some v => some (True, v, st.H) | none => none : Out) = some (φ, v, H') → Left E Γ θ st ((pure (Next.value (a.eval x)) : Sem Next).run E.P w) v H' := by
  intro x h
  split at h
  ·rename_i u hu
   cases h
   exact left_pure hr (s := pure (a.eval x)) ⟨rfl, _, rfl, ev_R hr hu⟩
  ·cases h
 unfold opS at h
 unfold execOp
 split at h
 ·rename_i ho; rw [ho]; exact mv h
 ·rename_i ho; rw [ho]; exact mv h
 ·rename_i c x y ho
  rw [ho]
  simp only
  split at h
  ·rename_i hc
   have hcv := bool_R (ev_R hr hc)
   simp only [asBool, hcv, Sem.run_bind, Sem.run_pure, Result.andThen_ok, if_true]
   exact mv h
  ·rename_i hc
   have hcv := bool_R (ev_R hr hc)
   simp only [asBool, hcv, Sem.run_bind, Sem.run_pure, Result.andThen_ok, Bool.false_eq_true, if_false]
   exact mv h
  ·cases h
 ·rename_i x i ho
  rw [ho]
  simp only
  split at h
  ·rename_i l hl
   split at h
   ·rename_i u hu
    cases h
    obtain ⟨vs, hvs, hall⟩ := ev_R hr hl
    obtain ⟨z, hz, hR⟩ := All2.get hall i u hu
    refine left_pure hr ⟨rfl, z, ?_, hR⟩
    rw [hvs]
    simp [Instr.extract, hz]
   ·cases h
  ·cases h
 ·rename_i op t x y _ ho
  rw [ho]
  simp only
  split at h
  ·rename_i u v' hu hv'
   split at h
   ·rename_i r hr'
    cases h
    exact left_pure hr (binNil_good (xo := x) hr' (ev_R hr hu))
   ·exact left_pure hr (binS_good (xo := x) (yo := y) h hφ (ev_R hr hu) (ev_R hr hv'))
  ·cases h
 ·rename_i op _ x ho
  rw [ho]
  simp only
  split at h
  ·rename_i u hu; exact left_pure hr (unS_good h (ev_R hr hu))
  ·cases h
 ·rename_i s d x ho
  rw [ho]
  simp only
  split at h
  ·rename_i u ds hu hs
   exact left_pure hr (convS_good hh h (ev_R hr hu) (und_getD hs))
  ·cases h
 ·rename_i x ho
  rw [ho]
  simp only
  split at h
  ·rename_i r q hu
   cases h
   obtain ⟨l, hl, hx⟩ := ev_R hr hu
   refine ⟨[], _, w, ?_, by simpa using ev_R hr hu, by simpa using hh, HLe.refl _⟩
   rw [hx]; rfl
  ·rename_i r k q hu
   split at h
   ·rename_i R xs own hH
    cases h
    obtain ⟨l, hl, _, hx⟩ := rp_R (θ := θ) (ev_R hr hu) hH
    refine ⟨[], _, w, ?_, by simpa using ev_R hr hu, by simpa using hh, HLe.refl _⟩
    rw [hx]; rfl
   ·cases h
  ·cases h
 ·rename_i t x f ho
  rw [ho]
  simp only
  split at h
  ·rename_i u hu; exact left_pure hr (fieldAddrS_good h (ev_R hr hu))
  ·cases h
 ·rename_i t x f ho
  rw [ho]
  simp only
  split at h
  ·rename_i u hu; exact left_pure hr (fieldS_good h (ev_R hr hu))
  ·cases h
 ·rename_i t x i ho
  rw [ho]
  simp only
  split at h
  ·rename_i u u' hu hu'; exact left_pure hr (indexAddrS_good hh h hφ (ev_R hr hu) (ev_R hr hu'))
  ·cases h
 ·rename_i t x i ho
  rw [ho]
  simp only
  split at h
  ·rename_i u u' hu hu'; exact left_pure hr (indexS_good h hφ (ev_R hr hu) (ev_R hr hu'))
  ·cases h
 ·rename_i t x ho
  rw [ho]
  simp only
  split at h
  ·rename_i u hu; exact left_pure hr (loadS_good hh h hφ (ev_R hr hu))
  ·cases h
 ·rename_i t ho
  rw [ho]
  simp only
  split at h
  ·rename_i z hz
   obtain ⟨x, hx, hxr⟩ := zeroS_good (w := w) (θ := θ) (H := st.H) hz
   obtain ⟨l, w', h1, h2, h3, h4⟩ := newS_good hh h hφ hxr
   refine left_new ⟨l, _, w', ?_, h2, h3, h4⟩
   simp only [Instr.alloc, Sem.run_bind, hx, Result.andThen_ok, h1, Sem.run_pure]
  ·cases h
 ·rename_i t x ho
  rw [ho]
  simp only
  split at h
  ·rename_i u hu
   obtain ⟨l, w', h1, h2, h3, h4⟩ := newS_good hh h hφ (ev_R hr hu)
   refine left_new ⟨l, _, w', ?_, h2, h3, h4⟩
   simp only [Instr.box, Sem.run_bind, h1, Result.andThen_ok, Sem.run_pure]
  ·cases h
 ·rename_i t parts ho
  rw [ho]
  simp only
  have hp := parts_R hr parts.toList
  have e1 : (parts.map fun (i, x) => (i, a.eval x)) = ⟨parts.toList.map fun p => (p.1, a.eval p.2)⟩ := by apply Array.ext'; simp
  rw [e1]
  exact left_pure hr (buildS_good h hp)
 ·rename_i t n parts ho
  rw [ho]
  simp only
  have hp := parts_R hr parts.toList
  have e1 : (parts.map fun (i, x) => (i, a.eval x)) = ⟨parts.toList.map fun p => (p.1, a.eval p.2)⟩ := by apply Array.ext'; simp
  rw [e1]
  exact left_new (buildSliceS_good hh h hp)
 ·rename_i t x lo hi ho
  rw [ho]
  simp only [Option.map_none]
  split at h
  ·rename_i u hu; exact left_pure hr (sliceS_good hh h hφ (ev_R hr hu) (opt_R hr lo) (opt_R hr hi))
  ·cases h
 ·rename_i t l c ho
  rw [ho]
  simp only
  split at h
  ·rename_i u u' hu hu'; exact left_new (makeSliceS_good hh h hφ (ev_R hr hu) (ev_R hr hu'))
  ·cases h
 ·rename_i f first cap ho
  rw [ho]
  simp only
  split at h
  ·rename_i hf
   have hf' : first = #[] := by apply Array.ext'; simpa using hf
   subst hf'
   split at h
   ·rename_i l hl
    simp only [outG, Option.some.injEq, Prod.mk.injEq] at h
    obtain ⟨rfl, rfl, rfl⟩ := h
    refine left_pure hr ⟨rfl, .func (.func f) #[] ⟨cap.toList.map a.eval⟩, ?_, _, rfl, capS_R hr hl⟩
    have e1 : cap.map a.eval = ⟨cap.toList.map a.eval⟩ := by apply Array.ext'; simp
    rw [e1]; simp [Instr.makeFunc]
   ·cases h
  ·cases h
 ·rename_i c ho
  rw [ho]
  simp only
  split at h
  ·rename_i b hc
   simp only [resolve, hc, Sem.run_bind, Sem.run_pure, Result.andThen_ok, invoke, builtin]
   unfold builtS at h
   have e1 : c.args.map a.eval = ⟨c.args.toList.map a.eval⟩ := by apply Array.ext'; simp
   split at h
   ·rename_i x hx
    obtain ⟨xo, hxo, hxe⟩ := map_one hx
    rw [e1, hxo]
    split at h
    ·rename_i t ht
     have ht' : c.argTypes = #[t] := by apply Array.ext'; simpa using ht
     rw [ht']
     exact left_pure hr (lenS_good h (ev_R hr hxe))
    ·cases h
   ·rename_i s x hx
    obtain ⟨so, xo, hxo, hse, hxe⟩ := map_two hx
    rw [e1, hxo]
    exact left_new (appendB_good hh h hφ (ev_R hr hse) (ev_R hr hxe))
   ·rename_i k x k' y hx
    obtain ⟨so, xo, hxo, hse, hxe⟩ := map_two hx
    rw [e1, hxo]
    simp only [outC, Option.some.injEq, Prod.mk.injEq] at h
    obtain ⟨rfl, rfl, rfl⟩ := h
    refine left_pure hr ⟨rfl, .int k (if y < x then y else x), ?_, rfl⟩
    have h1 := int_R (ev_R hr hse)
    have h2 := int_R (ev_R hr hxe)
    simp only [List.map_cons, List.map_nil, h1, h2]
    rfl
   ·rename_i k x k' y hx
    obtain ⟨so, xo, hxo, hse, hxe⟩ := map_two hx
    rw [e1, hxo]
    simp only [outC, Option.some.injEq, Prod.mk.injEq] at h
    obtain ⟨rfl, rfl, rfl⟩ := h
    refine left_pure hr ⟨rfl, .int k (if y > x then y else x), ?_, rfl⟩
    have h1 := int_R (ev_R hr hse)
    have h2 := int_R (ev_R hr hxe)
    simp only [List.map_cons, List.map_nil, h1, h2]
    rfl
   ·rename_i x hx
    obtain ⟨xo, hxo, hxe⟩ := map_one hx
    rw [e1, hxo]
    exact left_same (sdS_good hh h (ev_R hr hxe))
   ·rename_i x y hx
    obtain ⟨so, xo, hxo, hse, hxe⟩ := map_two hx
    rw [e1, hxo]
    exact left_same (usS_good hh h hφ (ev_R hr hse) (ev_R hr hxe))
   ·cases h
  ·cases h
 ·cases h

end
end Go.Proofs.YtghdgncfcfdlfaaGreatDoor
