/- Runs of several operations, of statements, of calls: the rules. Conditions: none. -/
import Derived.Test.YtiboohplkihhnaaTLl
namespace Go.Proofs.Ytiboohplkihhnaa
open Go

def putT (T : Tm) (d : Option Tmp) (v : AV) : Tm :=
  match d with
  | some d => (d, v) :: T
  | none => T

def guardS (ops : Array Oper) (st : St) (o : Oper) : Option Bool :=
  match o.guard with
  | none => some true
  | some (j, want) => match (ops[j]?).bind (·.dst) with
    | some d => match look st.T d with
      | some (.one (.e (.c (.bool true)))) => some want
      | some (.one (.e (.c (.bool false)))) => some (!want)
      | some (.tup []) => some false
      | _ => none
    | none => none

/-- operations without a condition -/
def quietS (o : Oper) : Bool :=
  match o.op with
  | .move _ => true
  | .assign _ => true
  | .pick _ _ _ => true
  | .extract _ _ => true
  | .fieldAddr _ _ _ => true
  | .unOp _ _ _ => true
  | .build _ _ => true
  | .nilCheck _ => true
  | .buildSlice _ _ _ => true
  | _ => false

def storeOf : Op → Option (TypeId × Operand × Operand)
  | .store t x y => some (t, x, y)
  | _ => none

def dstOk (nt : Nat) : Option Tmp → Bool
  | some d => Nat.blt d nt
  | none => true

def stepS (E : Env) (nt : Nat) (st : St) (o : Oper) : Option (Prop × Bool × St) :=
  match storeOf o.op with
  | some (t, x, y) => match o.dst with
    | some _ => none
    | none => match ev st x, ev st y with
      | some a, some b => match storeS E st.H t a b with
        | some (φ, H') => some (φ, false, ⟨st.T, H'⟩)
        | none => none
      | _, _ => none
  | none => match opS E st o with
    | some (φ, v, H') => if dstOk nt o.dst = true then some (φ, quietS o, ⟨putT st.T o.dst v, H'⟩) else none
    | none => none

def popS (E : Env) (nt : Nat) (ops : Array Oper) : List Nat → St → Option (Prop × St)
  | [], st => some (True, st)
  | i :: l, st => match ops[i]? with
    | none => none
    | some o => match guardS ops st o with
      | none => none
      | some false => match o.dst with
        | some d => if dstOk nt o.dst = true then popS E nt ops l ⟨(d, .tup []) :: st.T, st.H⟩ else none
        | none => popS E nt ops l st
      | some true => match stepS E nt st o with
        | none => none
        | some (φ, q, st1) => match popS E nt ops l st1 with
          | none => none
          | some (ψ, st2) => some (if q = true then ψ else φ ∧ ψ, st2)

theorem dstOk_lt {nt : Nat} {d : Option Tmp} (h : dstOk nt d = true) : ∀ i, d = some i → i < nt := by
  rintro i rfl
  exact Nat.le_of_ble_eq_true h

section
variable {E : Env} {H H' : List Blk} {φ : Prop} {v : AV}
theorem fieldAddrS_q {t : TypeId} {f : Nat} {a : AV} (h : fieldAddrS E H t f a = some (φ, v, H')) : φ := by
  unfold fieldAddrS outG at h
  repeat' split at h
  all_goals first | (cases h; trivial) | cases h
theorem unS_q {op : UnOp} {a : AV} (h : unS H op a = some (φ, v, H')) : φ := by
  unfold unS outC at h
  repeat' split at h
  all_goals first | (cases h; trivial) | cases h
theorem buildS_q {t : TypeId} {ps : List (Nat × Option AV)} (h : buildS E H t ps = some (φ, v, H')) : φ := by
  unfold buildS outG at h
  repeat' split at h
  all_goals first | (cases h; trivial) | cases h
theorem buildSliceS_q {t : TypeId} {n : Nat} {ps : List (Nat × Option AV)} (h : buildSliceS E H t n ps = some (φ, v, H')) : φ := by
  unfold buildSliceS at h
  repeat' split at h
  all_goals first | (cases h; trivial) | cases h

theorem quietS_good {st : St} {o : Oper} (hq : quietS o = true) (h : opS E st o = some (φ, v, H')) : φ := by
  cases ho : o.op <;> simp only [quietS, ho, Bool.false_eq_true] at hq <;> simp only [opS, ho] at h
  case move => split at h <;> first | (cases h; trivial) | cases h
  case assign => split at h <;> first | (cases h; trivial) | cases h
  case pick => (repeat' split at h) <;> first | (cases h; trivial) | cases h
  case extract => (repeat' split at h) <;> first | (cases h; trivial) | cases h
  case fieldAddr => split at h <;> first | exact fieldAddrS_q h | cases h
  case unOp => split at h <;> first | exact unS_q h | cases h
  case build => exact buildS_q h
  case nilCheck => (repeat' split at h) <;> first | (cases h; trivial) | cases h
  case buildSlice => exact buildSliceS_q h
end

section
variable {E : Env} {Γ : Ctx} {θ : List Loc} {st : St} {a : Act} {w : World}

/-- a state that stands for what is there -/
def lift (E : Env) (Γ : Ctx) (Q : Exit → St → Prop) : Exit → Act → World → Prop := fun e a w => ∃ θ st, Q e st ∧ Rel E Γ θ st a w

def WO (E : Env) (Γ : Ctx) (ops : Array Oper) (l : List Nat) (Q : Exit → St → Prop) (st : St) : Prop := ∀ θ a w, Rel E Γ θ st a w → wpOps E.P ops (lift E Γ Q) l a w

theorem getD_set {α : Type} (xs : Array α) (d s : Nat) (x u : α) (hd : d < xs.size) : (xs.setIfInBounds d x).getD s u = if d = s then x else xs.getD s u := by
  by_cases h : d = s
  · subst h; simp [hd]
  · simp [h]

theorem Rel.put (hr : Rel E Γ θ st a w) {d : Option Tmp} {v : AV} {H' : List Blk} {θ' : List Loc} {x : Value} {w' : World} (hd : ∀ i, d = some i → i < Γ.nt) (hv : v.R (θ ++ θ') H' x)
    (hh : HRel E Γ.w0 Γ.X Γ.θ0 (θ ++ θ') H' w') (hle : HLe st.H H') : Rel E Γ (θ ++ θ') ⟨putT st.T d v, H'⟩ (a.put d x) w' := by
  cases d with
  | none => exact ⟨hh, hr.nt, hr.df, hr.ml, fun s u hu => AV.R_mono hr.h.len hle (hr.tm s u hu)⟩
  | some d =>
    have hd' := hd d rfl
    refine ⟨hh, by simp [Act.put, hr.nt], hr.df, hr.ml, fun s u hu => ?_⟩
    show u.R (θ ++ θ') H' ((a.tmps.setIfInBounds d x).getD s undef)
    rw [getD_set _ _ _ _ _ (by rw [hr.nt]; exact hd')]
    simp only [putT, look] at hu
    by_cases e : d = s
    · subst e
      simp only [Nat.beq_refl, if_true] at hu
      cases hu
      rw [if_pos rfl]; exact hv
    · rw [if_neg (by simp [Nat.beq_eq, e])] at hu
      rw [if_neg e]
      exact AV.R_mono hr.h.len hle (hr.tm s u hu)

theorem guardS_good (hr : Rel E Γ θ st a w) {ops : Array Oper} {o : Oper} {b : Bool} (h : guardS ops st o = some b) : Region.wanted o (yielded ops a.tmps) = b := by
  unfold guardS at h
  unfold Region.wanted
  split at h
  · rename_i hg
    cases h
    rw [hg]
  · rename_i j want hg
    rw [hg]
    simp only
    split at h
    · rename_i d hd
      have key : ∀ b', look st.T d = some (.one (.e (.c (.bool b')))) → yielded ops a.tmps j = some b' := by
        intro b' hl
        have := hr.tm d _ hl
        have hv := bool_R this
        have hsz : d < a.tmps.size := by
          rcases Nat.lt_or_ge d a.tmps.size with h | h
          · exact h
          · simp [Array.getD, Nat.not_lt.2 h, undef] at hv
        have : a.tmps[d]? = some (.bool b') := by
          rw [Array.getElem?_eq_getElem hsz]
          simp [Array.getD, hsz] at hv
          rw [hv]
        simp [yielded, hd, this]
      split at h
      · rename_i hl
        rw [key true hl]
        cases want <;> cases h <;> rfl
      · rename_i hl
        rw [key false hl]
        cases want <;> cases h <;> rfl
      · rename_i hl
        cases h
        obtain ⟨vs, hv, hall⟩ := hr.tm d _ hl
        cases vs with
        | cons _ _ => exact hall.elim
        | nil =>
          have : yielded ops a.tmps j = none := by
            simp only [yielded, hd, Option.bind_some]
            rcases Nat.lt_or_ge d a.tmps.size with h | h
            · have : a.tmps[d]? = some (.tuple ⟨[]⟩) := by
                rw [Array.getElem?_eq_getElem h]
                simp [Array.getD, h] at hv
                rw [hv]
              rw [this]
            · rw [Array.getElem?_eq_none h]
          rw [this]; rfl
      · cases h
    · cases h

theorem upon_left {o : Oper} {K : Act → World → Prop} {Q : Exit → Act → World → Prop} {r : Result Next} {v : AV} {H' : List Blk} (h : Left E Γ θ st r v H') (hr : Rel E Γ θ st a w) (hd : ∀ i, o.dst = some i → i < Γ.nt)
    (hk : ∀ θ' a' w', Rel E Γ θ' ⟨putT st.T o.dst v, H'⟩ a' w' → K a' w') : o.upon E.P a K Q r := by
  obtain ⟨θ', x, w', rfl, hv, hh, hle⟩ := h
  exact hk _ _ _ (hr.put hd hv hh hle)

theorem stepS_good {o : Oper} {Q : Exit → Act → World → Prop} {K : Act → World → Prop} {φ : Prop} {q : Bool} {st1 : St} (h : stepS E Γ.nt st o = some (φ, q, st1)) (hφ : q = false → φ) (hr : Rel E Γ θ st a w)
    (k : ∀ θ a w, Rel E Γ θ st1 a w → K a w) : o.wp E.P a w K Q := by
  unfold stepS at h
  unfold Oper.wp
  split at h
  · rename_i t x y hop
    split at h
    · cases h
    · rename_i hdst
      split at h
      · rename_i u v hu hv
        split at h
        · rename_i φ1 H' hs
          cases h
          obtain ⟨w', h1, h2, h3⟩ := storeS_good hr.h hs (hφ rfl) (ev_R hr hu) (ev_R hr hv)
          have hop' : o.op = .store t x y := by
            unfold storeOf at hop
            split at hop
            · cases hop; assumption
            · cases hop
          have hx : (execOp a.eval o).run E.P w = .ok .skip w' := by
            unfold execOp
            rw [hop']
            simp only [Sem.run_bind, h1, Result.andThen_ok, Sem.run_pure]
          rw [hx]
          show K (a.put o.dst undef) w'
          rw [hdst]
          refine k θ _ _ ?_
          have := hr.put (d := none) (v := .tup []) (θ' := []) (x := undef) (fun i hi => by cases hi) ⟨[], rfl, trivial⟩ (by simpa using h2) h3
          simpa [putT] using this
        · cases h
      · cases h
  · split at h
    · rename_i φ1 v H' hs
      split at h
      · rename_i hd
        cases h
        have hφ' : φ := by
          cases hq : quietS o with
          | true => exact quietS_good hq hs
          | false => exact hφ hq
        exact upon_left (opS_good hr hs hφ') hr (dstOk_lt hd) (fun θ' a' w' hr' => k _ _ _ hr')
      · cases h
    · cases h

theorem popS_good {ops : Array Oper} {Q : Exit → Act → World → Prop} : ∀ {l : List Nat} {l2 : List Nat} {st : St} {φ : Prop} {st' : St} {θ : List Loc} {a : Act} {w : World}, popS E Γ.nt ops l st = some (φ, st') → φ → Rel E Γ θ st a w →
    (∀ θ a w, Rel E Γ θ st' a w → wpOps E.P ops Q l2 a w) → wpOps E.P ops Q (l ++ l2) a w
  | [], l2, st, φ, st', θ, a, w, h, hφ, hr, k => by cases h; exact k θ a w hr
  | i :: l, l2, st, φ, st', θ, a, w, h, hφ, hr, k => by
    unfold popS at h
    rw [List.cons_append]
    simp only [wpOps]
    split at h
    · cases h
    · rename_i o ho
      rw [ho]
      simp only
      split at h
      · cases h
      · rename_i hg
        rw [guardS_good hr hg]
        simp only [Bool.false_eq_true, if_false]
        split at h
        · rename_i d hd
          split at h
          · rename_i hlt
            have := hr.put (d := some d) (v := .tup []) (θ' := []) (x := undef) (by rw [← hd]; exact dstOk_lt hlt) ⟨[], rfl, trivial⟩ (by simpa using hr.h) (HLe.refl _)
            rw [hd]
            exact popS_good h hφ this k
          · cases h
        · rename_i hd
          rw [hd]
          exact popS_good h hφ hr k
      · rename_i hg
        rw [guardS_good hr hg]
        simp only [if_true]
        left
        split at h
        · cases h
        · rename_i φ1 q st1 hs
          split at h
          · cases h
          · rename_i ψ st2 hp
            cases h
            refine stepS_good hs (fun hq => ?_) hr (fun θ' a' w' hr' => popS_good hp ?_ hr' k)
            · subst hq; exact hφ.1
            · cases q with
              | true => exact hφ
              | false => exact hφ.2

theorem WO_seg {ops : Array Oper} {Q : Exit → St → Prop} {l : List Nat} (n : Nat) (φ : Prop) (st' : St) (h : popS E Γ.nt ops (l.take n) st = some (φ, st')) (hφ : φ) (k : WO E Γ ops (l.drop n) Q st') : WO E Γ ops l Q st := by
  intro θ a w hr
  have := popS_good (Q := lift E Γ Q) (l2 := l.drop n) h hφ hr k
  rwa [List.take_append_drop] at this

theorem WO_nil {ops : Array Oper} {Q : Exit → St → Prop} {l : List Nat} (hl : l = []) (h : Q .normal st) : WO E Γ ops l Q st := by
  subst hl
  exact fun θ a w hr => ⟨θ, st, h, hr⟩

end
end Go.Proofs.Ytiboohplkihhnaa
