/- Statements that draw the order of their operations. Conditions: none. -/
import Derived.Test.YtghdgncfcfdlfaaGreatDoorTLu
import Derived.OrdersHeld
namespace Go.Proofs.YtghdgncfcfdlfaaGreatDoor
open Go

/-- operations that leave the world as it is -/
def stillK (o : Oper) : Bool :=
 match o.op with
 | .move _ => true
 | .assign _ => true
 | .pick _ _ _ => true
 | .extract _ _ => true
 | .binOp _ _ _ _ _ => true
 | .unOp _ _ _ => true
 | .convert _ _ _ => true
 | .nilCheck _ => true
 | .fieldAddr _ _ _ => true
 | .field _ _ _ => true
 | .indexAddr _ _ _ => true
 | .index _ _ _ => true
 | .load _ _ => true
 | .build _ _ => true
 | .slice _ _ _ _ none => true
 | .call c => match c.callee with
  | .builtin .len => true
  | .builtin .min => true
  | .builtin .max => true
  | _ => false
 | _ => false

/-- operations whose value does not hang on the world at all -/
def moveK (o : Oper) : Bool :=
 match o.op with
 | .move _ => true
 | .assign _ => true
 | .pick _ _ _ => true
 | .extract _ _ => true
 | _ => false

section
variable {E : Env} {Γ : Ctx} {θ : List Loc} {st : St} {a : Act} {w : World}

theorem still_pure {s : Sem Value} {v : AV} {H' : List Blk} (h : H' = st.H ∧ ∃ z, s.run E.P w = .ok z w ∧ v.R θ st.H z) :
  H' = st.H ∧ ∃ x, ((do pure (Next.value (← s)) : Sem Next).run E.P w) = .ok (.value x) w ∧ v.R θ st.H x := by
 obtain ⟨rfl, z, hz, hv⟩ := h
 exact ⟨rfl, z, by simp only [Sem.run_bind, hz, Result.andThen_ok, Sem.run_pure], hv⟩

theorem opS_still (hr : Rel E Γ θ st a w) {o : Oper} {φ : Prop} {v : AV} {H' : List Blk} (h : opS E st o = some (φ, v, H')) (hφ : φ) (hk : stillK o = true) :
  H' = st.H ∧ ∃ x, (execOp a.eval o).run E.P w = .ok (.value x) w ∧ v.R θ st.H x := by
 have hh := hr.h
 have mv : ∀ {x : Operand}, (match ev st x with | some v => some (True, v, st.H) | none => none : Out) = some (φ, v, H') → H' = st.H ∧ ∃ y, ((pure (Next.value (a.eval x)) : Sem Next).run E.P w) = .ok (.value y) w ∧ v.R θ st.H y := by
  intro x h
  split at h
  ·rename_i u hu
   cases h
   exact ⟨rfl, _, rfl, ev_R hr hu⟩
  ·cases h
 unfold opS at h
 unfold execOp
 unfold stillK at hk
 split at h
 ·rename_i ho; rw [ho]; exact mv h
 ·rename_i ho; rw [ho]; exact mv h
 ·rename_i c x y ho
  rw [ho]
  simp only
  split at h
  ·rename_i hc
   have hcv := bool_R (ev_R hr hc)
   simp only [asBool, hcv, Sem.run_bind, Sem.run_pure, Result.andThen_ok, if_true]
   exact mv h
  ·rename_i hc
   have hcv := bool_R (ev_R hr hc)
   simp only [asBool, hcv, Sem.run_bind, Sem.run_pure, Result.andThen_ok, Bool.false_eq_true, if_false]
   exact mv h
  ·cases h
 ·rename_i x i ho
  rw [ho]
  simp only
  split at h
  ·rename_i l hl
   split at h
   ·rename_i u hu
    cases h
    obtain ⟨vs, hvs, hall⟩ := ev_R hr hl
    obtain ⟨z, hz, hR⟩ := All2.get hall i u hu
    refine still_pure ⟨rfl, z, ?_, hR⟩
    rw [hvs]
    simp [Instr.extract, hz]
   ·cases h
  ·cases h
 ·rename_i op t x y _ ho
  rw [ho]
  simp only
  split at h
  ·rename_i u v' hu hv'
   split at h
   ·rename_i r hr'
    cases h
    exact still_pure (binNil_good (xo := x) hr' (ev_R hr hu))
   ·exact still_pure (binS_good (xo := x) (yo := y) h hφ (ev_R hr hu) (ev_R hr hv'))
  ·cases h
 ·rename_i op _ x ho
  rw [ho]
  simp only
  split at h
  ·rename_i u hu; exact still_pure (unS_good h (ev_R hr hu))
  ·cases h
 ·rename_i s d x ho
  rw [ho]
  simp only
  split at h
  ·rename_i u ds hu hs
   exact still_pure (convS_good hh h (ev_R hr hu) (und_getD hs))
  ·cases h
 ·rename_i x ho
  rw [ho]
  simp only
  split at h
  ·rename_i r q hu
   cases h
   obtain ⟨l, hl, hx⟩ := ev_R hr hu
   refine ⟨rfl, _, ?_, ev_R hr hu⟩
   rw [hx]; rfl
  ·rename_i r k q hu
   split at h
   ·rename_i R xs own hH
    cases h
    obtain ⟨l, hl, _, hx⟩ := rp_R (θ := θ) (ev_R hr hu) hH
    refine ⟨rfl, _, ?_, ev_R hr hu⟩
    rw [hx]; rfl
   ·cases h
  ·cases h
 ·rename_i t x f ho
  rw [ho]
  simp only
  split at h
  ·rename_i u hu; exact still_pure (fieldAddrS_good h (ev_R hr hu))
  ·cases h
 ·rename_i t x f ho
  rw [ho]
  simp only
  split at h
  ·rename_i u hu; exact still_pure (fieldS_good h (ev_R hr hu))
  ·cases h
 ·rename_i t x i ho
  rw [ho]
  simp only
  split at h
  ·rename_i u u' hu hu'; exact still_pure (indexAddrS_good hh h hφ (ev_R hr hu) (ev_R hr hu'))
  ·cases h
 ·rename_i t x i ho
  rw [ho]
  simp only
  split at h
  ·rename_i u u' hu hu'; exact still_pure (indexS_good h hφ (ev_R hr hu) (ev_R hr hu'))
  ·cases h
 ·rename_i t x ho
  rw [ho]
  simp only
  split at h
  ·rename_i u hu; exact still_pure (loadS_good hh h hφ (ev_R hr hu))
  ·cases h
 ·rename_i t ho
  rw [ho] at hk; cases hk
 ·rename_i t x ho
  rw [ho] at hk; cases hk
 ·rename_i t parts ho
  rw [ho]
  simp only
  have hp := parts_R hr parts.toList
  have e1 : (parts.map fun (i, x) => (i, a.eval x)) = ⟨parts.toList.map fun p => (p.1, a.eval p.2)⟩ := by apply Array.ext'; simp
  rw [e1]
  exact still_pure (buildS_good h hp)
 ·rename_i t n parts ho
  rw [ho] at hk; cases hk
 ·rename_i t x lo hi ho
  rw [ho]
  simp only [Option.map_none]
  split at h
  ·rename_i u hu; exact still_pure (sliceS_good hh h hφ (ev_R hr hu) (opt_R hr lo) (opt_R hr hi))
  ·cases h
 ·rename_i t l c ho
  rw [ho] at hk; cases hk
 ·rename_i f first cap ho
  rw [ho] at hk; cases hk
 ·rename_i c ho
  rw [ho] at hk ⊢
  simp only at hk ⊢
  split at h
  ·rename_i b hc
   rw [hc] at hk
   simp only [resolve, hc, Sem.run_bind, Sem.run_pure, Result.andThen_ok, invoke, builtin]
   unfold builtS at h
   have e1 : c.args.map a.eval = ⟨c.args.toList.map a.eval⟩ := by apply Array.ext'; simp
   split at h
   ·rename_i x hx
    obtain ⟨xo, hxo, hxe⟩ := map_one hx
    rw [e1, hxo]
    split at h
    ·rename_i t ht
     have ht' : c.argTypes = #[t] := by apply Array.ext'; simpa using ht
     rw [ht']
     exact still_pure (lenS_good h (ev_R hr hxe))
    ·cases h
   ·cases hk
   ·rename_i k x k' y hx
    obtain ⟨so, xo, hxo, hse, hxe⟩ := map_two hx
    rw [e1, hxo]
    simp only [outC, Option.some.injEq, Prod.mk.injEq] at h
    obtain ⟨rfl, rfl, rfl⟩ := h
    refine still_pure ⟨rfl, .int k (if y < x then y else x), ?_, rfl⟩
    have h1 := int_R (ev_R hr hse)
    have h2 := int_R (ev_R hr hxe)
    simp only [List.map_cons, List.map_nil, h1, h2]
    rfl
   ·rename_i k x k' y hx
    obtain ⟨so, xo, hxo, hse, hxe⟩ := map_two hx
    rw [e1, hxo]
    simp only [outC, Option.some.injEq, Prod.mk.injEq] at h
    obtain ⟨rfl, rfl, rfl⟩ := h
    refine still_pure ⟨rfl, .int k (if y > x then y else x), ?_, rfl⟩
    have h1 := int_R (ev_R hr hse)
    have h2 := int_R (ev_R hr hxe)
    simp only [List.map_cons, List.map_nil, h1, h2]
    rfl
   ·cases hk
   ·cases hk
   ·cases h
  ·cases h
 ·cases h

end

/-- values of which there is one alone -/
def CE.uq (H : List Blk) : CE → Bool
 | .c _ => true
 | .p _ _ => true
 | .rp r _ _ => match H[r]? with
  | some (.row _ _ _) => true
  | _ => false
 | .nsl => true
 | .nilp => true
 | .nif => true
 | .gp _ _ => true
 | _ => false
def AG.uq (H : List Blk) : AG → Bool
 | .e x => x.uq H
 | .agg l => l.all (CE.uq H)
 | .arr _ _ => true
 | .fn _ cap => cap.all (CE.uq H)
def AV.uq (H : List Blk) : AV → Bool
 | .one x => x.uq H
 | .tup l => l.all (AG.uq H)

theorem CE.uq_eq {θ : List Loc} {H : List Blk} {x : CE} {u v : Value} (h : x.uq H = true) (hu : x.R θ H u) (hv : x.R θ H v) : u = v := by
 cases x with
 | c x => rw [hu, hv]
 | p r o => obtain ⟨l, h1, h2⟩ := hu; obtain ⟨l', h3, h4⟩ := hv; rw [h1] at h3; cases h3; rw [h2, h4]
 | rp r k o =>
  simp only [CE.uq] at h
  split at h
  ·rename_i R xs own hH
   obtain ⟨l, h1, h2⟩ := hu; obtain ⟨l', h3, h4⟩ := hv; rw [h1] at h3; cases h3
   rw [(h2 R xs own hH).2, (h4 R xs own hH).2]
  ·cases h
 | nsl => rw [hu, hv]
 | nilp => rw [hu, hv]
 | nif => rw [hu, hv]
 | gp g k => rw [hu, hv]
 | sl _ _ _ => cases h
 | err b => cases h
 | sp r T => cases h
 | sd r => cases h
 | bsl _ _ => cases h
 | junk => cases h
theorem all2_uq {α : Type} {f : α → Bool} {R : α → Value → Prop} (hf : ∀ x u v, f x = true → R x u → R x v → u = v) : ∀ {l : List α} {us vs : List Value}, l.all f = true → All2 R l us → All2 R l vs → us = vs
 | [], [], [], _, _, _ => rfl
 | x :: l, u :: us, v :: vs, h, h1, h2 => by
  simp only [List.all_cons, Bool.and_eq_true] at h
  rw [hf x u v h.1 h1.1 h2.1, all2_uq hf h.2 h1.2 h2.2]
 | [], _ :: _, _, _, h, _ => h.elim
 | [], [], _ :: _, _, _, h => h.elim
 | _ :: _, [], _, _, h, _ => h.elim
 | _ :: _, _ :: _, [], _, _, h => h.elim
theorem AG.uq_eq {θ : List Loc} {H : List Blk} {x : AG} {u v : Value} (h : x.uq H = true) (hu : x.R θ H u) (hv : x.R θ H v) : u = v := by
 cases x with
 | e x => exact CE.uq_eq h hu hv
 | agg l => obtain ⟨us, rfl, h1⟩ := hu; obtain ⟨vs, rfl, h2⟩ := hv; rw [all2_uq (fun x u v => CE.uq_eq) h h1 h2]
 | arr R xs => rw [hu, hv]
 | fn f cap => obtain ⟨us, rfl, h1⟩ := hu; obtain ⟨vs, rfl, h2⟩ := hv; rw [all2_uq (fun x u v => CE.uq_eq) h h1 h2]
theorem AV.uq_eq {θ : List Loc} {H : List Blk} {x : AV} {u v : Value} (h : x.uq H = true) (hu : x.R θ H u) (hv : x.R θ H v) : u = v := by
 cases x with
 | one x => exact AG.uq_eq h hu hv
 | tup l => obtain ⟨us, rfl, h1⟩ := hu; obtain ⟨vs, rfl, h2⟩ := hv; rw [all2_uq (fun x u v => AG.uq_eq) h h1 h2]

end Go.Proofs.YtghdgncfcfdlfaaGreatDoor
