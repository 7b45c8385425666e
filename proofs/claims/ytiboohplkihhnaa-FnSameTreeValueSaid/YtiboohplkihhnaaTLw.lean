/- Statements that draw the order of their operations: the rules. Conditions: none. -/
import Derived.Test.YtiboohplkihhnaaTLv
namespace Go.Proofs.Ytiboohplkihhnaa
open Go

def NP (Q : Exit → Act → World → Prop) : Exit → Act → World → Prop
  | .panic _, _, _ => False
  | e, a, w => Q e a w
theorem NP.imp {Q : Exit → Act → World → Prop} : ∀ (e : Exit) (a : Act) (w : World), NP Q e a w → Q e a w := fun e a w h => by
  cases e <;> first | exact h | exact (h : False).elim

/-- the worlds that may stand between two operations -/
def SW (E : Env) (Γ : Ctx) (θs : List Loc) (Hd : List Blk) (one : Bool) (w1 : World) : World → Prop := fun w' => HRel E Γ.w0 Γ.X Γ.θ0 θs Hd w' ∧ (one = true → w' = w1)

structure DRel (E : Env) (Γ : Ctx) (ops : Array Oper) (Hd : List Blk) (one : Bool) (θs : List Loc) (w1 : World) (Ts : Tm) (θ : List Loc) (st : St) (a : Act) (w : World) : Prop where
  ns : Region.noSelect ops = true
  cur : Rel E Γ θ st a w
  pre : θs <+: θ
  stb : ∀ s v, look Ts s = some v → v.R θs Hd (a.tmps.getD s undef)
  sw : SW E Γ θs Hd one w1 w

def WD (E : Env) (Γ : Ctx) (ops : Array Oper) (Q : Exit → St → Prop) (Hd : List Blk) (one : Bool) (n : Nat) (ls : Array Bool) (Ts : Tm) (st : St) : Prop :=
  ∀ θs w1 θ a w, DRel E Γ ops Hd one θs w1 Ts θ st a w → wpAnyH E.P .any ops (NP (lift E Γ Q)) (SW E Γ θs Hd one w1) n ls a w

theorem move_run {o : Oper} (hk : moveK o = true) {ρ : Operand → Value} {P : Program} {w w' v v' : World} {x x' : Next} (h : (execOp ρ o).run P w = .ok x v) (h' : (execOp ρ o).run P w' = .ok x' v') : x = x' := by
  unfold moveK at hk
  unfold execOp at h h'
  split at hk
  · rename_i y ho; rw [ho] at h h'; cases h; cases h'; rfl
  · rename_i y ho; rw [ho] at h h'; cases h; cases h'; rfl
  · rename_i c y z ho
    rw [ho] at h h'
    simp only at h h'
    cases hc : ρ c <;> simp only [hc, asBool, Sem.run_bind, Sem.run_pure, Result.andThen_ok] at h h' <;> first | (cases h; cases h'; rfl) | (split at h <;> cases h <;> cases h' <;> rfl) | cases h
  · rename_i y i ho
    rw [ho] at h h'
    simp only at h h'
    unfold Instr.extract at h h'
    cases hc : ρ y <;> simp only [hc] at h h' <;> first | (cases h; done) | (split at h <;> simp_all [Sem.run_pure] <;> first | (cases h; cases h'; rfl) | (cases h) | skip)
  · cases hk


def takeD (E : Env) (nt : Nat) (Hd : List Blk) (one : Bool) (ops : Array Oper) : List Nat → Array Bool → Tm → St → Option (Prop × Array Bool × Tm × St)
  | [], ls, Ts, st => some (True, ls, Ts, st)
  | i :: l, ls, Ts, st => match ops[i]? with
    | none => none
    | some o => if Region.free .any ops ls i && (Region.ready .any ops ls).contains i && dstOk nt o.dst then
        match guardS ops st o with
        | none => none
        | some false => takeD E nt Hd one ops l (ls.setIfInBounds i true) (putT Ts o.dst (.tup [])) ⟨putT st.T o.dst (.tup []), st.H⟩
        | some true => if stillK o then
            match opS E ⟨Ts, Hd⟩ o, opS E st o with
            | some (φ, v, _), some (ψ, u, _) => if moveK o || one || v.uq Hd then
                match takeD E nt Hd one ops l (ls.setIfInBounds i true) (putT Ts o.dst v) ⟨putT st.T o.dst u, st.H⟩ with
                | some (χ, r) => some (if quietS o = true then χ else φ ∧ ψ ∧ χ, r)
                | none => none
              else none
            | _, _ => none
          else none
      else none

section
variable {E : Env} {Γ : Ctx} {θ θs : List Loc} {st : St} {a : Act} {w w1 : World} {ops : Array Oper} {Q : Exit → St → Prop} {Hd : List Blk} {one : Bool} {Ts : Tm}

theorem DRel.old (h : DRel E Γ ops Hd one θs w1 Ts θ st a w) {w' : World} (hw : SW E Γ θs Hd one w1 w') : Rel E Γ θs ⟨Ts, Hd⟩ a w' :=
  ⟨hw.1, h.cur.nt, h.cur.df, h.cur.ml, h.stb⟩

theorem stb_put (h : DRel E Γ ops Hd one θs w1 Ts θ st a w) {d : Option Tmp} {v : AV} {x : Value} (hd : dstOk Γ.nt d = true) (hv : v.R θs Hd x) :
    ∀ s u, look (putT Ts d v) s = some u → u.R θs Hd ((a.put d x).tmps.getD s undef) := by
  have := (h.old h.sw).put (d := d) (v := v) (θ' := []) (x := x) (w' := w) (dstOk_lt hd) (by simpa using hv) (by simpa using h.sw.1) (HLe.refl _)
  simpa using this.tm

theorem DRel.still (h : DRel E Γ ops Hd one θs w1 Ts θ st a w) {d : Option Tmp} {v u : AV} {x : Value} (hd : dstOk Γ.nt d = true) (hv : v.R θs Hd x) (hu : u.R θ st.H x) :
    DRel E Γ ops Hd one θs w1 (putT Ts d v) θ ⟨putT st.T d u, st.H⟩ (a.put d x) w := by
  refine ⟨h.ns, ?_, h.pre, stb_put h hd hv, h.sw⟩
  have := h.cur.put (d := d) (v := u) (θ' := []) (x := x) (w' := w) (dstOk_lt hd) (by simpa using hu) (by simpa using h.cur.h) (HLe.refl _)
  simpa using this

theorem undef_R {θ : List Loc} {H : List Blk} : (AV.tup []).R θ H undef := ⟨[], rfl, trivial⟩

theorem takeD_good : ∀ {l : List Nat} {n : Nat} {ls : Array Bool} {Ts : Tm} {st : St} {a : Act} {φ : Prop} {ls' : Array Bool} {Ts' : Tm} {st' : St}, takeD E Γ.nt Hd one ops l ls Ts st = some (φ, ls', Ts', st') → φ →
    DRel E Γ ops Hd one θs w1 Ts θ st a w → WD E Γ ops Q Hd one n ls' Ts' st' → wpAnyH E.P .any ops (NP (lift E Γ Q)) (SW E Γ θs Hd one w1) (l.length + n) ls a w
  | [], n, ls, Ts, st, a, φ, ls', Ts', st', h, hφ, hr, k => by
    cases h
    simpa using k θs w1 θ a w hr
  | i :: l, n, ls, Ts, st, a, φ, ls', Ts', st', h, hφ, hr, k => by
    unfold takeD at h
    split at h
    · cases h
    rename_i o ho
    split at h
    case isFalse => cases h
    rename_i hb
    simp only [Bool.and_eq_true] at hb
    obtain ⟨⟨hfree, hready⟩, hdst⟩ := hb
    have hlen : (i :: l).length + n = (l.length + n) + 1 := by simp only [List.length_cons]; omega
    rw [hlen]
    have hQ : ∀ (x : Value) c a w, NP (lift E Γ Q) (.panic c) (Act.put a o.dst x) w → NP (lift E Γ Q) (.panic c) a w := fun _ _ _ _ h => (h : False).elim
    split at h
    · cases h
    · rename_i hg
      refine wpAnyH_take ho hr.ns hfree hready (hQ undef) (.inr ⟨guardS_good hr.cur hg, rfl⟩) hr.sw ?_
      exact takeD_good h hφ (hr.still hdst undef_R undef_R) k
    · rename_i hg
      split at h
      case isFalse => cases h
      rename_i hst
      split at h
      case h_2 => cases h
      rename_i φ1 v Hx ψ1 u Hy h1 h2
      split at h
      case isFalse => cases h
      rename_i hex
      split at h
      case h_2 => cases h
      rename_i χ r h3
      have hcond : φ1 ∧ ψ1 ∧ χ := by
        cases hq : quietS o with
        | true =>
          rw [hq] at h
          cases h
          exact ⟨quietS_good hq h1, quietS_good hq h2, hφ⟩
        | false =>
          rw [hq] at h
          cases h
          exact hφ
      have h' : takeD E Γ.nt Hd one ops l (ls.setIfInBounds i true) (putT Ts o.dst v) ⟨putT st.T o.dst u, st.H⟩ = some (χ, ls', Ts', st') := by
        rw [h3]
        cases hq : quietS o <;> rw [hq] at h <;> cases h <;> rfl
      obtain ⟨_, x, hx, hxv⟩ := opS_still (hr.old hr.sw) h1 hcond.1 hst
      obtain ⟨_, x2, hx2, hxu⟩ := opS_still hr.cur h2 hcond.2.1 hst
      have e : x2 = x := by rw [hx] at hx2; cases hx2; rfl
      subst e
      refine wpAnyH_take ho hr.ns hfree hready (hQ x2) (.inl ⟨guardS_good hr.cur hg, fun w' hw' => ?_⟩) hr.sw ?_
      · obtain ⟨_, x', hx', hxv'⟩ := opS_still (hr.old hw') h1 hcond.1 hst
        have : x' = x2 := by
          simp only [Bool.or_eq_true] at hex
          rcases hex with (hm | hone) | huq
          · have := move_run hm hx' hx
            cases this; rfl
          · have e1 := hw'.2 hone
            have e2 := hr.sw.2 hone
            subst e1; subst e2
            rw [hx] at hx'; cases hx'; rfl
          · exact AV.uq_eq huq hxv' hxv
        rw [hx', this]
      · exact takeD_good h' hcond.2.2 (hr.still hdst hxv hxu) k

end
end Go.Proofs.Ytiboohplkihhnaa
