/- A function does what its body does. Conditions: none. -/
import Derived.Test.YtghdgncfcfdlfaaGreatDoorTLr
namespace Go.Proofs.YtghdgncfcfdlfaaGreatDoor
open Go

section
variable {E : Env} {Γ : Ctx} {θ : List Loc} {st : St} {a : Act} {w : World}

theorem loadS_p {H H' : List Blk} {ty r o : Nat} {φ : Prop} {v : AV} (h : loadS E H ty (.one (.e (.p r o))) = some (φ, v, H')) : φ := by
 unfold loadS outG at h
 simp only at h
 repeat' split at h
 all_goals first | (cases h; trivial) | cases h

def resV (tmps : Array Value) : ResultVar → Sem Value
 | .tmp t => pure (tmps.getD t undef)
 | .cell a t => do loadVar t (← asAddr (tmps.getD a undef))

theorem results_resV (fn : Func) (tmps : Array Value) : results fn tmps = (do let vs ← fn.results.mapM (resV tmps); pure (if h : vs.size = 1 then vs[0] else .tuple vs)) := rfl

theorem resS1_good (hr : Rel E Γ θ st a w) {x : ResultVar} {g : AG} {p : Option Prop} (h : resS1 E st x = some (p, g)) (hp : ∀ φ, p = some φ → φ) :
  ∃ v, (resV a.tmps x).run E.P w = .ok v w ∧ g.R θ st.H v := by
 unfold resS1 at h
 split at h
 ·rename_i t
  split at h
  ·rename_i g' hl
   cases h
   exact ⟨_, rfl, hr.tm t _ hl⟩
  ·cases h
 ·rename_i t ty
  split at h
  ·rename_i r o hl
   split at h
   ·rename_i φ g' H' hld
    cases h
    have hv := hr.tm t _ hl
    obtain ⟨hH, z, hz, hR⟩ := loadS_good hr.h hld (loadS_p hld) hv
    refine ⟨z, ?_, hR⟩
    obtain ⟨l, _, hp⟩ := hv
    rw [hp] at hz
    simp only [Instr.loadAt, Instr.sureAddr, Sem.run_bind, Sem.run_pure, Result.andThen_ok] at hz
    simp only [resV, hp, asAddr, Sem.run_bind, Sem.run_pure, Result.andThen_ok, hz]
   ·cases h
  ·rename_i r k o hl
   split at h
   ·rename_i φ g' H' hld
    cases h
    have hv := hr.tm t _ hl
    obtain ⟨hH, z, hz, hR⟩ := loadS_good hr.h hld (hp _ rfl) hv
    refine ⟨z, ?_, hR⟩
    have hrow : ∃ R xs own, st.H[r]? = some (.row R xs own) := by
     unfold loadS at hld
     simp only at hld
     split at hld
     ·rename_i R xs own hH
      exact ⟨R, xs, own, hH⟩
     ·cases hld
    obtain ⟨R, xs, own, hH2⟩ := hrow
    obtain ⟨l, _, _, hp⟩ := rp_R (θ := θ) hv hH2
    rw [hp] at hz
    simp only [Instr.loadAt, Instr.sureAddr, Sem.run_bind, Sem.run_pure, Result.andThen_ok] at hz
    simp only [resV, hp, asAddr, Sem.run_bind, Sem.run_pure, Result.andThen_ok, hz]
   ·cases h
  ·cases h

theorem resS_good (hr : Rel E Γ θ st a w) : ∀ {xs : List ResultVar} {φ : Prop} {gs : List AG}, resS E st xs = some (φ, gs) → φ →
  ∃ vs, (xs.mapM (resV a.tmps)).run E.P w = .ok vs w ∧ All2 (AG.R θ st.H) gs vs
 | [], φ, gs, h, _ => by cases h; exact ⟨[], by simp, trivial⟩
 | x :: l, φ, gs, h, hφ => by
  unfold resS at h
  split at h
  ·rename_i g ψ gs' h1 h2
   cases h
   obtain ⟨v, hv, hR⟩ := resS1_good hr h1 (fun _ e => by cases e)
   obtain ⟨vs, hvs, hRs⟩ := resS_good hr h2 hφ
   refine ⟨v :: vs, ?_, hR, hRs⟩
   simp only [List.mapM_cons, Sem.run_bind, hv, Result.andThen_ok, hvs, Sem.run_pure]
  ·rename_i g ψ gs' χ h1 h2
   cases h
   obtain ⟨v, hv, hR⟩ := resS1_good hr h1 (fun _ e => by cases e; exact hφ.1)
   obtain ⟨vs, hvs, hRs⟩ := resS_good hr h2 hφ.2
   refine ⟨v :: vs, ?_, hR, hRs⟩
   simp only [List.mapM_cons, Sem.run_bind, hv, Result.andThen_ok, hvs, Sem.run_pure]
  ·cases h

theorem results_good (hr : Rel E Γ θ st a w) {fn : Func} {φ : Prop} {gs : List AG} (h : resS E st fn.results.toList = some (φ, gs)) (hφ : φ) : ∃ v, (results fn a.tmps).run E.P w = .ok v w ∧ (oneOrTup gs).R θ st.H v := by
 obtain ⟨vs, hvs, hR⟩ := resS_good hr h hφ
 have hma : (fn.results.mapM (resV a.tmps)).run E.P w = .ok ⟨vs⟩ w := by
  rw [Array.mapM_eq_mapM_toList]
  simp only [map_eq_pure_bind, Sem.run_bind, hvs, Result.andThen_ok, Sem.run_pure]
 rw [results_resV]
 simp only [Sem.run_bind, hma, Result.andThen_ok, Sem.run_pure]
 refine ⟨_, rfl, ?_⟩
 have hlen := hR.length
 match gs, vs, hR with
 | [], [], _ => exact ⟨[], by simp, trivial⟩
 | [g], [v], hR => exact hR.1
 | g :: g' :: gs, v :: v' :: vs, hR => exact ⟨v :: v' :: vs, by simp, hR⟩

theorem retS0_good {fn : Func} {ρ : List Nat} {φ : Prop} {res : AV} {ext' : List Blk} (hr : Rel E Γ θ st a w) (h : retS0 E fn Γ.m ρ st = some (φ, res, ext')) (hφ : φ) :
  ∃ v θ', (results fn a.tmps).run E.P w = .ok v w ∧ res.R θ' ext' v ∧ HRel E Γ.w0 Γ.X Γ.θ0 θ' ext' w := by
 unfold retS0 at h
 split at h
 case isFalse => cases h
 rename_i hc
 split at h
 case h_2 => cases h
 rename_i φ' gs H' hg hH
 cases h
 obtain ⟨v, hv, hR⟩ := results_good hr hg hφ
 -- the same state, with the value in a slot of its own
 have hr2 : Rel E { Γ with nt := a.tmps.size + 1 } θ ⟨[(a.tmps.size, oneOrTup gs)], st.H⟩ { a with tmps := a.tmps.push v } w := by
  refine ⟨hr.h, by simp, hr.df, hr.ml, fun s u hu => ?_⟩
  simp only [look] at hu
  split at hu
  ·rename_i e
   cases hu
   have : a.tmps.size = s := by simpa [Nat.beq_eq] using e
   subst this
   simpa [Array.getD] using hR
  ·cases hu
 have hsub : subS Γ.m ρ [a.tmps.size] ⟨[(a.tmps.size, oneOrTup gs)], st.H⟩ = some ⟨[(a.tmps.size, (oneOrTup gs).ren (idx ρ))], ext'⟩ := by
  unfold subS
  rw [if_pos hc]
  simp [subT, look, hH]
 obtain ⟨θ', hr3⟩ := subS_good hr2 hsub
 refine ⟨v, θ', hv, ?_, hr3.h⟩
 have := hr3.tm a.tmps.size ((oneOrTup gs).ren (idx ρ)) (by simp [look])
 simpa [Array.getD] using this

theorem retS_good {fn : Func} {ρ : List Nat} {φ : Prop} {res : AV} {ext' : List Blk} (hr : Rel E Γ θ st a w) (h : retS E fn Γ.m ρ st = some (φ, res, ext')) (hφ : φ) :
  ∃ v θ', (results fn a.tmps).run E.P w = .ok v w ∧ res.R θ' ext' v ∧ HRel E Γ.w0 Γ.X Γ.θ0 θ' ext' w := by
 unfold retS at h
 split at h
 ·rename_i h1
  obtain ⟨θ1, hr1⟩ := prepS_good hr h1
  exact retS0_good hr1 h hφ
 ·cases h

end

theorem argT_look {args : List AV} : ∀ {k s : Nat} {v : AV}, look (argT k args) s = some v → k ≤ s ∧ args[s - k]? = some v := by
 induction args with
 | nil => intro k s v h; cases h
 | cons x l ih =>
  intro k s v h
  simp only [argT, look] at h
  split at h
  ·rename_i e
   cases h
   have : k = s := by simpa [Nat.beq_eq] using e
   subst this
   simp
  ·obtain ⟨h1, h2⟩ := ih h
   refine ⟨by omega, ?_⟩
   rw [show s - k = (s - (k + 1)) + 1 by omega]
   simpa using h2

theorem FOk_of_W {E : Env} {f : FuncId} {fn : Func} {c : Code} {args : List AV} {ext : List Blk} {res : AV} {ext' : List Blk} (nt n : Nat) (hf : E.P.funcs[f]? = some fn) (hb : fn.body = some c) (hnt : fn.ntmps = nt) (hn : args.length ≤ nt) (hm : ext.length = n)
  (h : ∀ w X θ, W E ⟨w, X, θ, nt, n⟩ c (RetQ E fn n res ext') ⟨argT 0 args, ext⟩) : FOk E f args ext res ext' := by
 subst hm; subst hnt
 intro w X θ vs hh hv
 refine calls_of_wp hf hb ?_
 have hlen := hv.length
 have hr : Rel E ⟨w, X, θ, fn.ntmps, ext.length⟩ θ ⟨argT 0 args, ext⟩ { tmps := ⟨vs⟩ ++ Array.replicate (fn.ntmps - (Array.mk vs).size) undef, defers := [] } w := by
  refine ⟨hh, by simp; omega, rfl, hh.len, fun s v hs => ?_⟩
  obtain ⟨_, h2⟩ := argT_look hs
  rw [Nat.sub_zero] at h2
  obtain ⟨u, hu, hR⟩ := hv.get s v h2
  have hlt := lt_of_getElem? hu
  have : (({ toList := vs } : Array Value) ++ Array.replicate (fn.ntmps - (Array.mk vs).size) undef).getD s undef = u := by
   rw [Array.getD_eq_getD_getElem?, Array.getElem?_append_left (by simpa using hlt)]
   simp [hu]
  rw [this]
  exact hR
 refine wp_mono (h w X θ θ _ w hr) ?_
 rintro e a' w' ⟨θ', st', hq, hr'⟩
 cases e with
 | normal =>
  obtain ⟨ρ, φ, hρ, hφ⟩ := hq
  obtain ⟨v, θ2, h1, h2, h3⟩ := retS_good hr' hρ hφ
  exact ⟨hr'.df, v, h1, v, θ2, rfl, h2, h3⟩
 | ret =>
  obtain ⟨ρ, φ, hρ, hφ⟩ := hq
  obtain ⟨v, θ2, h1, h2, h3⟩ := retS_good hr' hρ hφ
  exact ⟨hr'.df, v, h1, v, θ2, rfl, h2, h3⟩
 | exit id => exact hq.elim
 | goto l => exact hq.elim
 | panic ch => exact hq.elim
 | outgrown => exact hq.elim

end Go.Proofs.YtghdgncfcfdlfaaGreatDoor
