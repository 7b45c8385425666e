/- Statements that draw the order of their operations: the rules, second part. Conditions: none. -/
import Derived.Test.YtiboohplkihhnaaTLw
namespace Go.Proofs.Ytiboohplkihhnaa
open Go

def keepT : List Nat → Tm → Tm
  | [], _ => []
  | s :: l, T => match look T s with
    | some v => (s, v) :: keepT l T
    | none => keepT l T
theorem keepT_look : ∀ {l : List Nat} {T : Tm} {s : Nat} {v : AV}, look (keepT l T) s = some v → look T s = some v
  | [], T, s, v, h => by cases h
  | q :: l, T, s, v, h => by
    unfold keepT at h
    split at h
    · rename_i u hu
      simp only [look] at h
      split at h
      · rename_i e
        cases h
        have : q = s := by simpa [Nat.beq_eq] using e
        subst this; exact hu
      · exact keepT_look h
    · exact keepT_look h

def delT (d : Option Tmp) : Tm → Tm
  | [] => []
  | (s, v) :: T => match d with
    | some d => if Nat.beq s d then delT (some d) T else (s, v) :: delT (some d) T
    | none => (s, v) :: T
theorem delT_look : ∀ {T : Tm} {d : Option Tmp} {s : Nat} {v : AV}, look (delT d T) s = some v → look T s = some v ∧ d ≠ some s
  | [], d, s, v, h => by cases h
  | (q, u) :: T, none, s, v, h => ⟨h, by simp⟩
  | (q, u) :: T, some d, s, v, h => by
    simp only [delT] at h
    split at h
    · rename_i e
      obtain ⟨h1, h2⟩ := delT_look h
      have : q = d := by simpa [Nat.beq_eq] using e
      subst this
      refine ⟨?_, h2⟩
      simp only [look]
      split
      · rename_i e2
        have : q = s := by simpa [Nat.beq_eq] using e2
        exact absurd (by rw [this]) h2
      · exact h1
    · rename_i e
      simp only [look] at h ⊢
      split at h
      · rename_i e2
        rw [if_pos e2]
        refine ⟨h, ?_⟩
        rintro hq
        cases hq
        have : q = d := by simpa [Nat.beq_eq] using e2
        exact e (by simp [this])
      · rename_i e2
        rw [if_neg e2]
        exact delT_look h

/-- values without addresses -/
def CE.isC : CE → Bool
  | .c _ => true
  | _ => false
def AG.isC : AG → Bool
  | .e x => x.isC
  | .agg l => l.all CE.isC
  | _ => false
def AV.isC : AV → Bool
  | .one x => x.isC
  | .tup l => l.all AG.isC
theorem all2_isC {α : Type} {f : α → Bool} {R S : α → Value → Prop} (hf : ∀ x u, f x = true → R x u → S x u) : ∀ {l : List α} {us : List Value}, l.all f = true → All2 R l us → All2 S l us
  | [], [], _, _ => trivial
  | x :: l, u :: us, h, h1 => by
    simp only [List.all_cons, Bool.and_eq_true] at h
    exact ⟨hf x u h.1 h1.1, all2_isC hf h.2 h1.2⟩
  | [], _ :: _, _, h => h.elim
  | _ :: _, [], _, h => h.elim
theorem CE.isC_R {θ θ' : List Loc} {H H' : List Blk} {x : CE} {v : Value} (h : x.isC = true) (hv : x.R θ H v) : x.R θ' H' v := by
  cases x <;> first | exact hv | cases h
theorem AG.isC_R {θ θ' : List Loc} {H H' : List Blk} {x : AG} {v : Value} (h : x.isC = true) (hv : x.R θ H v) : x.R θ' H' v := by
  cases x with
  | e x => exact CE.isC_R h hv
  | agg l => obtain ⟨us, rfl, h1⟩ := hv; exact ⟨us, rfl, all2_isC (fun x u => CE.isC_R) h h1⟩
  | arr _ _ => cases h
  | fn _ _ => cases h
theorem AV.isC_R {θ θ' : List Loc} {H H' : List Blk} {x : AV} {v : Value} (h : x.isC = true) (hv : x.R θ H v) : x.R θ' H' v := by
  cases x with
  | one x => exact AG.isC_R h hv
  | tup l => obtain ⟨us, rfl, h1⟩ := hv; exact ⟨us, rfl, all2_isC (fun x u => AG.isC_R) h h1⟩

def moveT (Ts : Tm) (d : Option Tmp) (v : AV) : Tm := if v.isC = true then putT (delT d Ts) d v else delT d Ts

/-- blocks that speak of earlier ones alone, and are still as they were -/
def CE.lt (n : Nat) : CE → Bool
  | .p r _ => Nat.blt r n
  | .rp r _ _ => Nat.blt r n
  | .sl r _ _ => Nat.blt r n
  | .sp r _ => Nat.blt r n
  | .sd r => Nat.blt r n
  | .bsl r _ => Nat.blt r n
  | _ => true
def Blk.lt (n : Nat) : Blk → Bool
  | .cells l => l.all (CE.lt n)
  | _ => true
def keeps (n : Nat) : List Blk → List Blk → Prop
  | [], _ => True
  | .dead :: l, _ :: m => keeps n l m
  | .cells x :: l, b :: m => (Blk.cells x = b ∧ (Blk.cells x).lt n = true) ∧ keeps n l m
  | .row R xs o :: l, b :: m => Blk.row R xs o = b ∧ keeps n l m
  | _ :: _, [] => False
theorem keeps_get {n : Nat} : ∀ {Hd H : List Blk}, keeps n Hd H → ∀ (r : Nat) (b : Blk), Hd[r]? = some b → b = .dead ∨ (H[r]? = some b ∧ b.lt n = true)
  | [], _, _, r, b, h => by simp at h
  | c :: l, [], hk, r, b, h => by cases c <;> exact hk.elim
  | c :: l, d :: m, hk, r, b, h => by
    cases r with
    | zero =>
      simp at h; subst h
      cases c with
      | dead => exact .inl rfl
      | cells x => exact .inr ⟨by simp [hk.1.1], hk.1.2⟩
      | row R xs o => exact .inr ⟨by simp [hk.1], rfl⟩
    | succ r =>
      have hk' : keeps n l m := by cases c <;> first | exact hk | exact hk.2
      simpa using keeps_get hk' r b (by simpa using h)

theorem prefix_get {α : Type} {l m : List α} (h : l <+: m) {r : Nat} {x : α} (hx : l[r]? = some x) : m[r]? = some x := by
  obtain ⟨t, rfl⟩ := h
  rw [List.getElem?_append_left (lt_of_getElem? hx)]; exact hx
theorem prefix_get' {α : Type} {l m : List α} (h : l <+: m) {r : Nat} (hr : r < l.length) {x : α} (hx : m[r]? = some x) : l[r]? = some x := by
  obtain ⟨t, rfl⟩ := h
  rw [List.getElem?_append_left hr] at hx; exact hx

theorem CE.R_older {θs θ : List Loc} {Hd H : List Blk} (hpre : θs <+: θ) (hlen : θs.length = Hd.length) (hk : ∀ (r : Nat) (b : Blk), Hd[r]? = some b → b = .dead ∨ (H[r]? = some b ∧ b.lt Hd.length = true)) {x : CE} {v : Value} (hx : x.lt Hd.length = true) (h : x.R θ H v) : x.R θs Hd v := by
  have row : ∀ {r : Nat} {R : RC} {xs : List R.A} {own : Bool}, Hd[r]? = some (.row R xs own) → H[r]? = some (.row R xs own) := by
    intro r R xs own hr
    rcases hk r _ hr with e | ⟨e, _⟩
    · cases e
    · exact e
  cases x with
  | p r o =>
    obtain ⟨l, h1, h2⟩ := h
    exact ⟨l, prefix_get' hpre (by rw [hlen]; exact Nat.le_of_ble_eq_true hx) h1, h2⟩
  | rp r k o =>
    obtain ⟨l, h1, h2⟩ := h
    exact ⟨l, prefix_get' hpre (by rw [hlen]; exact Nat.le_of_ble_eq_true hx) h1, fun R xs own hr => h2 R xs own (row hr)⟩
  | sl r off len =>
    obtain ⟨l, h1, h2⟩ := h
    exact ⟨l, prefix_get' hpre (by rw [hlen]; exact Nat.le_of_ble_eq_true hx) h1, fun R xs own hr => h2 R xs own (row hr)⟩
  | sp r T =>
    obtain ⟨l, h1, h2⟩ := h
    exact ⟨l, prefix_get' hpre (by rw [hlen]; exact Nat.le_of_ble_eq_true hx) h1, h2⟩
  | sd r =>
    obtain ⟨l, h1, h3, h2⟩ := h
    exact ⟨l, prefix_get' hpre (by rw [hlen]; exact Nat.le_of_ble_eq_true hx) h1, h3, fun R xs own hr => h2 R xs own (row hr)⟩
  | bsl r len =>
    obtain ⟨h0, l, h1, h2⟩ := h
    exact ⟨h0, l, prefix_get' hpre (by rw [hlen]; exact Nat.le_of_ble_eq_true hx) h1, fun R xs own hr => h2 R xs own (row hr)⟩
  | _ => exact h

theorem HRel.older {E : Env} {w0 : World} {X : Nat → Prop} {θ0 θs θ : List Loc} {Hd H : List Blk} {w : World} (h : HRel E w0 X θ0 θ H w) (hpre : θs <+: θ) (hlen : θs.length = Hd.length) (h0 : θ0 <+: θs) (hk : keeps Hd.length Hd H) : HRel E w0 X θ0 θs Hd w := by
  have hk := keeps_get hk
  refine ⟨hlen, h0, fun r l b hl hb => ?_, fun r l b hl hb ho => ?_, fun r l R xs hl hb hx => ?_, fun r r' l l' b b' hne hl hl' hb hb' ho ho' => ?_, h.fr, h.gl⟩
  · rcases hk r b hb with rfl | ⟨hb', hlt⟩
    · trivial
    · have := h.bl r l b (prefix_get hpre hl) hb'
      cases b with
      | cells cs =>
        obtain ⟨vs, e, h1, h2⟩ := this
        exact ⟨vs, e, h1, all2_isC (f := CE.lt Hd.length) (fun x u hx hu => CE.R_older hpre hlen hk hx hu) hlt h2.1, h2.2⟩
      | row R xs o => exact this
      | dead => trivial
  · rcases hk r b hb with rfl | ⟨hb', _⟩
    · exact ho.elim
    · exact h.own r l b (prefix_get hpre hl) hb' ho
  · rcases hk r _ hb with e | ⟨hb', _⟩
    · cases e
    · exact h.giv r l R xs (prefix_get hpre hl) hb' hx
  · rcases hk r b hb with rfl | ⟨hb1, _⟩
    · exact ho.elim
    rcases hk r' b' hb' with rfl | ⟨hb2, _⟩
    · exact ho'.elim
    exact h.dis r r' l l' b b' hne (prefix_get hpre hl) (prefix_get hpre hl') hb1 hb2 ho ho'


section
variable {E : Env} {Γ : Ctx} {st : St} {ops : Array Oper} {Q : Exit → St → Prop} {Hd : List Blk} {one : Bool} {Ts : Tm} {n : Nat} {ls : Array Bool}

theorem WD_take {n2 : Nat} {ls' : Array Bool} {Ts' : Tm} {st' : St} {φ : Prop} (l : List Nat) (h : takeD E Γ.nt Hd one ops l ls Ts st = some (φ, ls', Ts', st')) (hφ : φ) (hn : n = l.length + n2) (k : WD E Γ ops Q Hd one n2 ls' Ts' st') : WD E Γ ops Q Hd one n ls Ts st := by
  subst hn
  intro θs w1 θ a w hr
  exact takeD_good h hφ hr k

/-- some operations first, and what is kept of their values -/
def takeK (E : Env) (nt : Nat) (Hd : List Blk) (one : Bool) (ops : Array Oper) (l : List Nat) (l1 l2 : List Nat) (ls : Array Bool) (Ts : Tm) (st : St) : Option (Prop × Array Bool × Tm × St) :=
  match takeD E nt Hd one ops l ls Ts st with
  | some (φ, ls', Ts', st') => some (φ, ls', keepT l1 Ts', ⟨keepT l2 st'.T, st'.H⟩)
  | none => none
theorem WD_keep (l1 l2 : List Nat) (k : WD E Γ ops Q Hd one n ls (keepT l1 Ts) ⟨keepT l2 st.T, st.H⟩) : WD E Γ ops Q Hd one n ls Ts st := by
  intro θs w1 θ a w hr
  exact k θs w1 θ a w ⟨hr.ns, ⟨hr.cur.h, hr.cur.nt, hr.cur.df, hr.cur.ml, fun s v hv => hr.cur.tm s v (keepT_look hv)⟩, hr.pre, fun s v hv => hr.stb s v (keepT_look hv), hr.sw⟩
theorem WD_takeK {n2 : Nat} {ls' : Array Bool} {Ts' : Tm} {st' : St} {φ : Prop} (l l1 l2 : List Nat) (h : takeK E Γ.nt Hd one ops l l1 l2 ls Ts st = some (φ, ls', Ts', st')) (hφ : φ) (hn : n = l.length + n2) (k : WD E Γ ops Q Hd one n2 ls' Ts' st') : WD E Γ ops Q Hd one n ls Ts st := by
  unfold takeK at h
  split at h
  · rename_i φ1 ls1 Ts1 st1 h1
    cases h
    exact WD_take l h1 hφ hn (WD_keep l1 l2 k)
  · cases h

/-- a bool whose value is known -/
theorem WD_known (t : Nat) {b : Bool} (b' : Bool) (h1 : look Ts t = some (.one (.e (.c (.bool b))))) (h2 : look st.T t = some (.one (.e (.c (.bool b))))) (hb : b = b')
    (k : WD E Γ ops Q Hd one n ls ((t, .one (.e (.c (.bool b')))) :: Ts) ⟨(t, .one (.e (.c (.bool b')))) :: st.T, st.H⟩) : WD E Γ ops Q Hd one n ls Ts st := by
  subst hb
  have key : ∀ {T : Tm}, look T t = some (.one (.e (.c (.bool b)))) → ∀ s v, look ((t, .one (.e (.c (.bool b)))) :: T) s = some v → look T s = some v := by
    intro T hT s v hv
    simp only [look] at hv
    split at hv
    · rename_i e
      cases hv
      have : t = s := by simpa [Nat.beq_eq] using e
      subst this; exact hT
    · exact hv
  intro θs w1 θ a w hr
  exact k θs w1 θ a w ⟨hr.ns, ⟨hr.cur.h, hr.cur.nt, hr.cur.df, hr.cur.ml, fun s v hv => hr.cur.tm s v (key h2 s v hv)⟩, hr.pre, fun s v hv => hr.stb s v (key h1 s v hv), hr.sw⟩

theorem bool_e {b : Bool} {G : Prop} (h1 : b = true → G) (h2 : b = false → G) : G := by
  cases b with
  | true => exact h1 rfl
  | false => exact h2 rfl

/-- all have come up -/
theorem WD_done {st' : St} (ρ live : List Nat) (hr : Region.ready .any ops ls = []) (h : subS Γ.m ρ live st = some st') (k : Q .normal st') : WD E Γ ops Q Hd one n ls Ts st := by
  intro θs w1 θ a w hd
  refine wpAnyH_done hr ?_ n
  obtain ⟨θ', hr'⟩ := subS_good hd.cur h
  exact ⟨θ', st', k, hr'⟩

/-- an operation that may change the world -/
def WM (E : Env) (Γ : Ctx) (ops : Array Oper) (Q : Exit → St → Prop) (Hd : List Blk) (one : Bool) (n : Nat) (ls : Array Bool) (i : Nat) (Ts : Tm) (st : St) : Prop :=
  ∀ θs w1 θ a w, DRel E Γ ops Hd one θs w1 Ts θ st a w → wpOp E.P ops (NP (lift E Γ Q)) i (fun a' w' => SW E Γ θs Hd one w1 w' ∧ wpAnyH E.P .any ops (NP (lift E Γ Q)) (SW E Γ θs Hd one w1) n (ls.setIfInBounds i true) a' w') a w

def AllN (l : List Nat) (p : Nat → Prop) : Prop := match l with
  | [] => True
  | [x] => p x
  | x :: y :: l => p x ∧ AllN (y :: l) p
theorem AllN_mem : ∀ {l : List Nat} {p : Nat → Prop}, AllN l p → ∀ i ∈ l, p i
  | [], _, _, i, hi => by cases hi
  | [x], _, h, i, hi => by simp at hi; subst hi; exact h
  | x :: y :: l, p, h, i, hi => by
    rcases List.mem_cons.1 hi with rfl | hi
    · exact h.1
    · exact AllN_mem h.2 i hi

theorem WD_all (rs : List Nat) (hr : Region.ready .any ops ls = rs) (hne : (rs.isEmpty) = false) (h : AllN rs fun i => WM E Γ ops Q Hd one n ls i Ts st) : WD E Γ ops Q Hd one (n + 1) ls Ts st := by
  intro θs w1 θ a w hd
  refine wpAnyH_all hr (by rintro rfl; cases hne) fun i hi => ?_
  exact AllN_mem h i hi θs w1 θ a w hd

theorem DRel.moved {θs : List Loc} {w1 : World} {θ : List Loc} {a : Act} {w : World} (hd : DRel E Γ ops Hd false θs w1 Ts θ st a w) {d : Option Tmp} {v : AV} {θ' : List Loc} {x : Value} {w' : World} {H' : List Blk} (hdst : dstOk Γ.nt d = true) (hv : v.R (θ ++ θ') H' x)
    (hh : HRel E Γ.w0 Γ.X Γ.θ0 (θ ++ θ') H' w') (hle : HLe st.H H') (hk : keeps Hd.length Hd H') : DRel E Γ ops Hd false θs w1 (moveT Ts d v) (θ ++ θ') ⟨putT st.T d v, H'⟩ (a.put d x) w' := by
  have hpre : θs <+: θ ++ θ' := hd.pre.trans (List.prefix_append _ _)
  have hsw : HRel E Γ.w0 Γ.X Γ.θ0 θs Hd w' := hh.older hpre hd.sw.1.len hd.sw.1.pre hk
  have hdel : ∀ s u, look (delT d Ts) s = some u → u.R θs Hd ((a.put d x).tmps.getD s undef) := by
    intro s u hu
    obtain ⟨h1, h2⟩ := delT_look hu
    have := hd.stb s u h1
    cases d with
    | none => exact this
    | some d =>
      have hlt := dstOk_lt hdst d rfl
      show u.R θs Hd ((a.tmps.setIfInBounds d x).getD s undef)
      rw [getD_set _ _ _ _ _ (by rw [hd.cur.nt]; exact hlt), if_neg (by rintro rfl; exact h2 rfl)]
      exact this
  refine ⟨hd.ns, hd.cur.put (dstOk_lt hdst) hv hh hle, hpre, ?_, hsw, fun h => by cases h⟩
  intro s u hu
  unfold moveT at hu
  split at hu
  · rename_i hc
    cases d with
    | none => exact hdel s u hu
    | some d =>
      simp only [putT, look] at hu
      split at hu
      · rename_i e
        cases hu
        have : d = s := by simpa [Nat.beq_eq] using e
        subst this
        have hlt := dstOk_lt hdst d rfl
        show v.R θs Hd ((a.tmps.setIfInBounds d x).getD d undef)
        rw [getD_set _ _ _ _ _ (by rw [hd.cur.nt]; exact hlt), if_pos rfl]
        exact AV.isC_R hc hv
      · exact hdel s u hu
  · exact hdel s u hu

/-- an operation with a value, or a store -/
theorem WM_op {i : Nat} {o : Oper} {φ : Prop} {v : AV} {H' : List Blk} (ho : ops[i]? = some o) (hg : guardS ops st o = some true) (h : opS E st o = some (φ, v, H')) (hφ : φ) (hdst : dstOk Γ.nt o.dst = true) (hk : keeps Hd.length Hd H')
    (k : WD E Γ ops Q Hd false n (ls.setIfInBounds i true) (moveT Ts o.dst v) ⟨putT st.T o.dst v, H'⟩) : WM E Γ ops Q Hd false n ls i Ts st := by
  intro θs w1 θ a w hd
  unfold wpOp
  rw [ho]
  simp only
  rw [guardS_good hd.cur hg]
  simp only [if_true]
  left
  unfold Oper.wp
  obtain ⟨θ', x, w', hx, hv, hh, hle⟩ := opS_good hd.cur h hφ
  rw [hx]
  have hm := hd.moved hdst hv hh hle hk
  exact ⟨hm.sw, k _ _ _ _ _ hm⟩

theorem WM_store {i : Nat} {o : Oper} {t : TypeId} {x y : Operand} {u v : AV} {φ : Prop} {H' : List Blk} (ho : ops[i]? = some o) (hg : guardS ops st o = some true) (hop : o.op = .store t x y) (hx : ev st x = some u) (hy : ev st y = some v)
    (h : storeS E st.H t u v = some (φ, H')) (hφ : φ) (hdst : o.dst = none) (hk : keeps Hd.length Hd H')
    (k : WD E Γ ops Q Hd false n (ls.setIfInBounds i true) Ts ⟨st.T, H'⟩) : WM E Γ ops Q Hd false n ls i Ts st := by
  intro θs w1 θ a w hd
  unfold wpOp
  rw [ho]
  simp only
  rw [guardS_good hd.cur hg]
  simp only [if_true]
  left
  unfold Oper.wp
  obtain ⟨w', h1, h2, h3⟩ := storeS_good hd.cur.h h hφ (ev_R hd.cur hx) (ev_R hd.cur hy)
  have hrun : (execOp a.eval o).run E.P w = .ok .skip w' := by
    unfold execOp
    rw [hop]
    simp only [Sem.run_bind, h1, Result.andThen_ok, Sem.run_pure]
  rw [hrun]
  have hm := hd.moved (d := none) (v := .tup []) (θ' := []) (x := undef) rfl ⟨[], rfl, trivial⟩ (by simpa using h2) h3 hk
  have e : moveT Ts none (.tup []) = Ts := by
    have : ∀ T : Tm, delT none T = T := fun T => by cases T <;> rfl
    show (if (AV.tup []).isC = true then putT (delT none Ts) none (.tup []) else delT none Ts) = Ts
    rw [this]; split <;> rfl
  rw [e] at hm
  simp only [Oper.upon, hdst]
  exact ⟨hm.sw, k _ _ _ _ _ hm⟩

theorem WM_callN {i : Nat} {o : Oper} {g : Nat} {args : List AV} {ext H1 : List Blk} {res : AV} {ext' : List Blk} (js : List (Nat × RC)) (its : List It) (fn : Func)
    (ho : ops[i]? = some o) (hg : guardS ops st o = some true) (hc : callS st o js its = some (g, H1, args, ext)) (hf : E.P.funcs[g]? = some fn) (hb : fn.body.isSome = true) (hn : (fn.name == "runtime.NumGoroutine") = false)
    (hF : FOk E g args ext res ext') (hok : itOk H1 its ext') (hlt : (itsLt H1.length its && dstOk Γ.nt o.dst) = true) (hk : keeps Hd.length Hd (takeS H1 its res ext').2)
    (k : WD E Γ ops Q Hd false n (ls.setIfInBounds i true) (moveT Ts o.dst (takeS H1 its res ext').1) ⟨putT st.T o.dst (takeS H1 its res ext').1, (takeS H1 its res ext').2⟩) : WM E Γ ops Q Hd false n ls i Ts st := by
  intro θs w1 θ a w hd
  have hr := hd.cur
  simp only [Bool.and_eq_true] at hlt
  unfold wpOp
  rw [ho]
  simp only
  rw [guardS_good hd.cur hg]
  simp only [if_true]
  left
  unfold Oper.wp
  unfold callS at hc
  split at hc
  case h_2 => cases hc
  rename_i c hop
  split at hc
  case h_2 => cases hc
  rename_i f hcal
  split at hc
  case h_2 => cases hc
  rename_i g' cap as hev has
  split at hc
  case h_2 => cases hc
  rename_i H1' as1 hnil
  split at hc
  case h_2 => cases hc
  rename_i a' e' hgive
  cases hc
  obtain ⟨cvs, hfv, hcap⟩ := ev_R hr hev
  have hall := All2.append (argsS_R hr has) (cap_R hcap)
  obtain ⟨τ1, hr1, hall1, hle1⟩ := nilsS_good hnil hr.h hall
  obtain ⟨hcal1, hcal2, hnd, hap⟩ := give_good hr1 hgive hall1
  have hrun : (execOp a.eval o).run E.P w = .ok (.enter g ⟨c.args.toList.map a.eval ++ cvs⟩) w := by
    unfold execOp
    rw [hop]
    have e1 : c.args.map a.eval = ⟨c.args.toList.map a.eval⟩ := by apply Array.ext'; simp
    obtain ⟨body, hbody⟩ := Option.isSome_iff_exists.1 hb
    have e2 : fn.body.isNone = false := by rw [hbody]; rfl
    simp only [resolve, hcal, hfv, Sem.run_bind, Sem.run_pure, Result.andThen_ok, Deferred.ofValue, invoke, callFunc, run_program, hf, hn, e2, e1]
    simp
  rw [hrun]
  rw [Oper.upon_enter]
  refine (hF w _ _ _ hcal1 hcal2).mono ?_
  rintro e w' ⟨v, θ', rfl, hres, hR⟩
  simp only
  obtain ⟨τ, h1, h2, h3⟩ := take_good (args := as1) hr1 hnd hap (itsLt_get hlt.1) hR hres hok
  rw [List.append_assoc] at h1 h2
  have hm := hd.moved hlt.2 h2 h1 (hle1.trans h3) hk
  exact ⟨hm.sw, k _ _ _ _ _ hm⟩

theorem WM_call {i : Nat} {o : Oper} {g : Nat} {args : List AV} {ext : List Blk} {res : AV} {ext' : List Blk} (its : List It) (fn : Func)
    (ho : ops[i]? = some o) (hg : guardS ops st o = some true) (hc : callS st o [] its = some (g, st.H, args, ext)) (hf : E.P.funcs[g]? = some fn) (hb : fn.body.isSome = true) (hn : (fn.name == "runtime.NumGoroutine") = false)
    (hF : FOk E g args ext res ext') (hok : itOk st.H its ext') (hlt : (itsLt st.H.length its && dstOk Γ.nt o.dst) = true) (hk : keeps Hd.length Hd (takeS st.H its res ext').2)
    (k : WD E Γ ops Q Hd false n (ls.setIfInBounds i true) (moveT Ts o.dst (takeS st.H its res ext').1) ⟨putT st.T o.dst (takeS st.H its res ext').1, (takeS st.H its res ext').2⟩) : WM E Γ ops Q Hd false n ls i Ts st := WM_callN [] its fn ho hg hc hf hb hn hF hok hlt hk k

/-- blocks that a statement may write -/
def killS : List Nat → List Blk → List Blk
  | [], H => H
  | r :: l, H => killS l (H.set r .dead)

theorem HRel.killD {w0 : World} {X : Nat → Prop} {θ0 θ : List Loc} {H : List Blk} {w : World} (h : HRel E w0 X θ0 θ H w) (r : Nat) : HRel E w0 X θ0 θ (H.set r .dead) w := by
  have split : ∀ {q : Nat} {b : Blk}, (H.set r .dead)[q]? = some b → b = .dead ∨ H[q]? = some b := by
    intro q b hq
    rw [List.getElem?_set] at hq
    split at hq
    · split at hq
      · cases hq; exact .inl rfl
      · cases hq
    · exact .inr hq
  have cer : ∀ {x : CE} {v : Value}, x.R θ H v → x.R θ (H.set r .dead) v := by
    intro x v hx
    have row : ∀ {q : Nat} {R : RC} {xs : List R.A} {own : Bool}, (H.set r .dead)[q]? = some (.row R xs own) → H[q]? = some (.row R xs own) := by
      intro q R xs own hq
      rcases split hq with e | e
      · cases e
      · exact e
    cases x with
    | rp q k o => obtain ⟨l, h1, h2⟩ := hx; exact ⟨l, h1, fun R xs own hq => h2 R xs own (row hq)⟩
    | sl q off len => obtain ⟨l, h1, h2⟩ := hx; exact ⟨l, h1, fun R xs own hq => h2 R xs own (row hq)⟩
    | sd q => obtain ⟨l, h1, h3, h2⟩ := hx; exact ⟨l, h1, h3, fun R xs own hq => h2 R xs own (row hq)⟩
    | bsl q len => obtain ⟨h0, l, h1, h2⟩ := hx; exact ⟨h0, l, h1, fun R xs own hq => h2 R xs own (row hq)⟩
    | _ => exact hx
  refine ⟨by simpa using h.len, h.pre, fun q l b hl hb => ?_, fun q l b hl hb ho => ?_, fun q l R xs hl hb hx => ?_, fun q q' l l' b b' hne hl hl' hb hb' ho ho' => ?_, h.fr, h.gl⟩
  · rcases split hb with rfl | hb
    · trivial
    · have := h.bl q l b hl hb
      cases b with
      | cells cs => obtain ⟨vs, e, h1, h2⟩ := this; exact ⟨vs, e, h1, h2.1.mono fun _ _ => cer, h2.2⟩
      | row R xs o => exact this
      | dead => trivial
  · rcases split hb with rfl | hb
    · exact ho.elim
    · exact h.own q l b hl hb ho
  · rcases split hb with e | hb
    · cases e
    · exact h.giv q l R xs hl hb hx
  · rcases split hb with rfl | hb
    · exact ho.elim
    rcases split hb' with rfl | hb'
    · exact ho'.elim
    exact h.dis q q' l l' b b' hne hl hl' hb hb' ho ho'

theorem AV.R_kill {θ : List Loc} {H : List Blk} (r : Nat) {x : AV} {v : Value} (h : x.R θ H v) : x.R θ (H.set r .dead) v := by
  have cer : ∀ {x : CE} {v : Value}, x.R θ H v → x.R θ (H.set r .dead) v := by
    intro x v hx
    have row : ∀ {q : Nat} {R : RC} {xs : List R.A} {own : Bool}, (H.set r .dead)[q]? = some (.row R xs own) → H[q]? = some (.row R xs own) := by
      intro q R xs own hq
      rw [List.getElem?_set] at hq
      split at hq
      · split at hq <;> cases hq
      · exact hq
    cases x with
    | rp q k o => obtain ⟨l, h1, h2⟩ := hx; exact ⟨l, h1, fun R xs own hq => h2 R xs own (row hq)⟩
    | sl q off len => obtain ⟨l, h1, h2⟩ := hx; exact ⟨l, h1, fun R xs own hq => h2 R xs own (row hq)⟩
    | sd q => obtain ⟨l, h1, h3, h2⟩ := hx; exact ⟨l, h1, h3, fun R xs own hq => h2 R xs own (row hq)⟩
    | bsl q len => obtain ⟨h0, l, h1, h2⟩ := hx; exact ⟨h0, l, h1, fun R xs own hq => h2 R xs own (row hq)⟩
    | _ => exact hx
  have agr : ∀ {x : AG} {v : Value}, x.R θ H v → x.R θ (H.set r .dead) v := by
    intro x v hx
    cases x with
    | e x => exact cer hx
    | agg l => obtain ⟨us, e, h1⟩ := hx; exact ⟨us, e, h1.mono fun _ _ => cer⟩
    | arr R xs => exact hx
    | fn f cap => obtain ⟨us, e, h1⟩ := hx; exact ⟨us, e, h1.mono fun _ _ => cer⟩
  cases x with
  | one x => exact agr h
  | tup l => obtain ⟨us, e, h1⟩ := h; exact ⟨us, e, h1.mono fun _ _ => agr⟩

theorem kills_good {w0 : World} {X : Nat → Prop} {θ0 θ : List Loc} {w : World} : ∀ (ys : List Nat) {H : List Blk}, HRel E w0 X θ0 θ H w → HRel E w0 X θ0 θ (killS ys H) w ∧ ∀ {x : AV} {v : Value}, x.R θ H v → x.R θ (killS ys H) v
  | [], _, h => ⟨h, fun hx => hx⟩
  | r :: l, _, h => ⟨(kills_good l (h.killD r)).1, fun hx => (kills_good l (h.killD r)).2 (AV.R_kill r hx)⟩

/-- a statement that draws -/
theorem W_draw {id : Nat} (ys : List Nat) (one : Bool) (hm : E.P.follows .mixedOrders = true) (hn : Region.noSelect ops = true)
    (k : WD E Γ ops Q (killS ys st.H) one ops.size (Array.replicate ops.size false) st.T st) : W E Γ (.region id ops true) Q st := by
  intro θ a w hr
  refine wp_mono (Q := NP (lift E Γ Q)) ?_ NP.imp
  refine wp_region_held (S := SW E Γ θ (killS ys st.H) one { w with drawn := w.drawn + 1 }) hm ?_
  have hh : HRel E Γ.w0 Γ.X Γ.θ0 θ st.H { w with drawn := w.drawn + 1 } := hr.h.world rfl rfl rfl (Nat.le_refl _) (fun _ _ => rfl)
  obtain ⟨h1, h2⟩ := kills_good (E := E) ys hh
  exact k θ _ θ a _ ⟨hn, ⟨hh, hr.nt, hr.df, hr.ml, hr.tm⟩, List.prefix_refl _, fun s v hv => h2 (hr.tm s v hv), h1, fun _ => rfl⟩
end
end Go.Proofs.Ytiboohplkihhnaa
