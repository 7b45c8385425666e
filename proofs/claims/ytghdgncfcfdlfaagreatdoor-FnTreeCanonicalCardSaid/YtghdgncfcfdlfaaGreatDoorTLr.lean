/- Statements and functions: the rules. Conditions: none. -/
import Derived.Test.YtghdgncfcfdlfaaGreatDoorTLq
namespace Go.Proofs.YtghdgncfcfdlfaaGreatDoor
open Go

/-- from every state that st stands for, the statement ends as Q says -/
def W (E : Env) (Γ : Ctx) (c : Code) (Q : Exit → St → Prop) (st : St) : Prop := ∀ θ a w, Rel E Γ θ st a w → c.wp E.P (lift E Γ Q) a w

/-- the rounds of a loop -/
def LW (P : Program) (c : Code) (Q : Exit → Act → World → Prop) (a : Act) (w : World) : Prop :=
 ∀ (b : Frame) (k : List Item) (cs : List Frame), ∃ e a' w', Q e a' w' ∧ Arrives P (lone (b.at a (.code c :: .inLoop c :: k)) cs w) b k cs e a' w'

theorem loop_of_LW {P : Program} {c : Code} {Q : Exit → Act → World → Prop} {a : Act} {w : World} (h : LW P c Q a w) : (Code.loop c).wp P Q a w :=
 fun b k cs => let ⟨e, a', w', q, r⟩ := h b k cs; ⟨e, a', w', q, .of_steps (.one step_loop) r⟩

theorem LW_round {P : Program} {c : Code} {Q : Exit → Act → World → Prop} {a : Act} {w : World} (h : c.wp P (Exit.then (fun a w => LW P c Q a w) Q) a w) : LW P c Q a w := by
 intro b k cs
 obtain ⟨e, a₁, w₁, hq, harr⟩ := h b (.inLoop c :: k) cs
 cases e with
 | normal =>
  obtain ⟨e₂, a₂, w₂, hq₂, harr₂⟩ := hq b k cs
  exact ⟨e₂, a₂, w₂, hq₂, .of_steps (Steps.trans harr (.one step_inLoop)) harr₂⟩
 | exit id => exact ⟨_, a₁, w₁, hq, .pass (x := .inLoop c) rfl (fun _ _ => .inl (by simp)) harr⟩
 | goto l => exact ⟨_, a₁, w₁, hq, .pass (x := .inLoop c) rfl (fun _ _ => .inl (by simp)) harr⟩
 | ret => exact ⟨_, a₁, w₁, hq, .pass (x := .inLoop c) rfl (fun _ _ => .inl (by simp)) harr⟩
 | panic ch => exact ⟨_, a₁, w₁, hq, .pass (x := .inLoop c) rfl (fun _ _ => .inl (by simp)) harr⟩
 | outgrown => exact ⟨_, a₁, w₁, hq, .pass (x := .inLoop c) rfl (fun _ _ => .inl (by simp)) harr⟩

/-- the ways out of a first statement -/
def thenS (K : St → Prop) (Q : Exit → St → Prop) : Exit → St → Prop
 | .normal, st => K st
 | e, st => Q e st
def blockS (id : Nat) (Q : Exit → St → Prop) : Exit → St → Prop
 | .exit id', st => if id' = id then Q .normal st else Q (.exit id') st
 | e, st => Q e st

theorem upon_mono {P : Program} {o : Oper} {a : Act} {K K' : Act → World → Prop} {Q Q' : Exit → Act → World → Prop} (hk : ∀ a w, K a w → K' a w) (hq : ∀ e a w, Q e a w → Q' e a w) {r : Result Next} (h : o.upon P a K Q r) : o.upon P a K' Q' r := by
 unfold Oper.upon at h ⊢
 split at h
 ·exact hk _ _ h
 ·exact hk _ _ h
 ·exact hk _ _ h
 ·refine h.mono ?_
  intro e w' he
  cases e with
  | returned v => exact hk _ _ he
  | panicked ch => exact hq _ _ _ he
  | outgrown => obtain ⟨a, w, h⟩ := he; exact ⟨a, w, hq _ _ _ h⟩
 ·exact h.mono fun v w' he => hk _ _ he
 ·exact hq _ _ _ h
 ·exact h.elim

theorem wpOps_mono {P : Program} {ops : Array Oper} {Q Q' : Exit → Act → World → Prop} (hq : ∀ e a w, Q e a w → Q' e a w) : ∀ {l : List Nat} {a : Act} {w : World}, wpOps P ops Q l a w → wpOps P ops Q' l a w
 | [], a, w, h => hq _ _ _ h
 | i :: l, a, w, h => by
  simp only [wpOps] at h ⊢
  split at h
  ·exact wpOps_mono hq h
  ·split at h
   ·rename_i hw
    rw [if_pos hw]
    rcases h with h | ⟨h1, a', w', h2⟩
    ·exact .inl (upon_mono (fun _ _ h => wpOps_mono hq h) hq h)
    ·exact .inr ⟨h1, a', w', hq _ _ _ h2⟩
   ·rename_i hw
    rw [if_neg hw]
    exact wpOps_mono hq h

section
variable {E : Env} {Γ : Ctx} {st : St} {Q : Exit → St → Prop}

/-- rounds from a state -/
def WL (E : Env) (Γ : Ctx) (c : Code) (Q : Exit → St → Prop) (st : St) : Prop := ∀ θ a w, Rel E Γ θ st a w → LW E.P c (lift E Γ Q) a w

theorem W_loop {c : Code} (h : WL E Γ c Q st) : W E Γ (.loop c) Q st := fun θ a w hr => loop_of_LW (h θ a w hr)
theorem WL_round {c : Code} (h : W E Γ c (thenS (WL E Γ c Q) Q) st) : WL E Γ c Q st := by
 intro θ a w hr
 refine LW_round (wp_mono (h θ a w hr) ?_)
 rintro e a w ⟨θ, st, hq, hr⟩
 cases e with
 | normal => exact hq θ a w hr
 | _ => exact ⟨θ, st, hq, hr⟩

theorem W_seq {c d : Code} (h : W E Γ c (thenS (W E Γ d Q) Q) st) : W E Γ (.seq c d) Q st := by
 intro θ a w hr
 refine wp_seq (wp_mono (h θ a w hr) ?_)
 rintro e a w ⟨θ, st, hq, hr⟩
 cases e with
 | normal => exact hq θ a w hr
 | _ => exact ⟨θ, st, hq, hr⟩

theorem W_skip (h : Q .normal st) : W E Γ .skip Q st := fun θ _ _ hr => wp_skip ⟨θ, st, h, hr⟩
theorem W_ret (h : Q .ret st) : W E Γ .ret Q st := fun θ _ _ hr => wp_ret ⟨θ, st, h, hr⟩
theorem W_exit {id : Nat} (h : Q (.exit id) st) : W E Γ (.exit id) Q st := fun θ _ _ hr => wp_exit ⟨θ, st, h, hr⟩
theorem W_block {id : Nat} {c : Code} (h : W E Γ c (blockS id Q) st) : W E Γ (.block id c) Q st := by
 intro θ a w hr
 refine wp_block (wp_mono (h θ a w hr) ?_)
 rintro e a w ⟨θ, st, hq, hr⟩
 cases e with
 | exit id' =>
  simp only [Exit.inBlock]
  simp only [blockS] at hq
  split
  ·rename_i he; rw [if_pos he] at hq; exact ⟨θ, st, hq, hr⟩
  ·rename_i he; rw [if_neg he] at hq; exact ⟨θ, st, hq, hr⟩
 | _ => exact ⟨θ, st, hq, hr⟩

theorem W_region {id : Nat} {ops : Array Oper} (h : WO E Γ ops (List.range ops.size) Q st) : W E Γ (.region id ops false) Q st := fun θ a w hr => wp_region (h θ a w hr)

def condS (st : St) (c : Operand) : Option Bool :=
 match ev st c with
 | some (.one (.e (.c (.bool b)))) => some b
 | _ => none
theorem condS_R {c : Operand} {b : Bool} {θ : List Loc} {a : Act} {w : World} (h : condS st c = some b) (hr : Rel E Γ θ st a w) : a.eval c = .bool b := by
 unfold condS at h
 split at h
 ·rename_i b' hb
  cases h
  exact bool_R (ev_R hr hb)
 ·cases h
theorem W_true {c : Operand} {x y : Code} {b : Bool} (hc : condS st c = some b) (hb : b = true) (h : W E Γ x Q st) : W E Γ (.cond c x y) Q st := by
 subst hb
 exact fun θ a w hr => wp_cond_true (condS_R hc hr) (h θ a w hr)
theorem W_false {c : Operand} {x y : Code} {b : Bool} (hc : condS st c = some b) (hb : b = false) (h : W E Γ y Q st) : W E Γ (.cond c x y) Q st := by
 subst hb
 exact fun θ a w hr => wp_cond_false (condS_R hc hr) (h θ a w hr)

theorem W_sub {c : Code} {st' : St} (ρ live : List Nat) (h : subS Γ.m ρ live st = some st') (k : W E Γ c Q st') : W E Γ c Q st := by
 intro θ a w hr
 obtain ⟨θ', hr'⟩ := subS_good hr h
 exact k θ' a w hr'
theorem WL_sub {c : Code} {st' : St} (ρ live : List Nat) (h : subS Γ.m ρ live st = some st') (k : WL E Γ c Q st') : WL E Γ c Q st := by
 intro θ a w hr
 obtain ⟨θ', hr'⟩ := subS_good hr h
 exact k θ' a w hr'
theorem WO_sub {ops : Array Oper} {l : List Nat} {st' : St} (ρ live : List Nat) (h : subS Γ.m ρ live st = some st') (k : WO E Γ ops l Q st') : WO E Γ ops l Q st := by
 intro θ a w hr
 obtain ⟨θ', hr'⟩ := subS_good hr h
 exact k θ' a w hr'

/-- some operations, and what is kept of what they leave -/
def segS (E : Env) (nt m : Nat) (ops : Array Oper) (l : List Nat) (ρ live : List Nat) (st : St) : Option (Prop × St) :=
 match popS E nt ops l st with
 | some (φ, st1) => match subS m ρ live st1 with
  | some st2 => some (φ, st2)
  | none => none
 | none => none
theorem WO_step {ops : Array Oper} {l : List Nat} (n : Nat) (ρ live : List Nat) (φ : Prop) (st' : St) (h : segS E Γ.nt Γ.m ops (l.take n) ρ live st = some (φ, st')) (hφ : φ) (k : WO E Γ ops (l.drop n) Q st') : WO E Γ ops l Q st := by
 unfold segS at h
 split at h
 ·rename_i φ1 st1 h1
  split at h
  ·rename_i st2 h2
   cases h
   exact WO_seg n φ st1 h1 hφ (WO_sub ρ live h2 k)
  ·cases h
 ·cases h

/-- a bool whose value is known -/
theorem WO_known {ops : Array Oper} {l : List Nat} (t : Nat) {b : Bool} (b' : Bool) (h : look st.T t = some (.one (.e (.c (.bool b))))) (hb : b = b') (k : WO E Γ ops l Q ⟨(t, .one (.e (.c (.bool b')))) :: st.T, st.H⟩) : WO E Γ ops l Q st := by
 subst hb
 intro θ a w hr
 refine k θ a w ⟨hr.h, hr.nt, hr.df, hr.ml, fun s v hv => ?_⟩
 simp only [look] at hv
 split at hv
 ·rename_i e
  cases hv
  have : t = s := by simpa [Nat.beq_eq] using e
  subst this
  exact hr.tm t _ h
 ·exact hr.tm s v hv

/-- a bool that is not known: both ways -/
theorem WO_if {ops : Array Oper} {l : List Nat} (t : Nat) {b : Bool} (h : look st.T t = some (.one (.e (.c (.bool b))))) (k1 : b = true → WO E Γ ops l Q ⟨(t, .one (.e (.c (.bool true)))) :: st.T, st.H⟩)
  (k2 : b = false → WO E Γ ops l Q ⟨(t, .one (.e (.c (.bool false)))) :: st.T, st.H⟩) : WO E Γ ops l Q st := by
 cases b with
 | true => exact WO_known t true h rfl (k1 rfl)
 | false => exact WO_known t false h rfl (k2 rfl)

/-- all ways lead to one state -/
theorem WO_thru {ops : Array Oper} {l : List Nat} (st' : St) (h : WO E Γ ops l (fun e s => e = .normal ∧ s = st') st) (k : Q .normal st') : WO E Γ ops l Q st := by
 intro θ a w hr
 refine wpOps_mono ?_ (h θ a w hr)
 rintro e a w ⟨θ, s, ⟨rfl, rfl⟩, hr⟩
 exact ⟨θ, s, k, hr⟩

theorem W_if {c : Operand} {x y : Code} {b : Bool} (hc : condS st c = some b) (h1 : b = true → W E Γ x Q st) (h2 : b = false → W E Γ y Q st) : W E Γ (.cond c x y) Q st := by
 cases b with
 | true => exact W_true hc rfl (h1 rfl)
 | false => exact W_false hc rfl (h2 rfl)

/-- two states that read alike -/
theorem WO_eq {ops : Array Oper} {l : List Nat} {st' : St} (h : st = st') (k : WO E Γ ops l Q st') : WO E Γ ops l Q st := h ▸ k
theorem W_eq {c : Code} {st' : St} (h : st = st') (k : W E Γ c Q st') : W E Γ c Q st := h ▸ k

/-- a nil slice as a row without elements -/
def nilS (s : Nat) (R : RC) (st : St) : Option St :=
 match look st.T s with
 | some (.one (.e .nsl)) => some ⟨(s, .one (.e (.sl st.H.length 0 0))) :: st.T, st.H ++ [.row R [] true]⟩
 | _ => none
theorem nilS_good {s : Nat} {R : RC} {st' : St} {θ : List Loc} {a : Act} {w : World} (h : nilS s R st = some st') (hr : Rel E Γ θ st a w) : ∃ θ', Rel E Γ θ' st' a w := by
 unfold nilS at h
 split at h
 ·rename_i hs
  cases h
  have hv := hr.tm s _ hs
  obtain ⟨n1, n2⟩ := append_none hr.h R none
  refine ⟨θ ++ [⟨0, 0, 0⟩], n1, hr.nt, hr.df, hr.ml, fun q v hq => ?_⟩
  simp only [look] at hq
  split at hq
  ·rename_i e
   cases hq
   have : s = q := by simpa [Nat.beq_eq] using e
   subst this
   have hv' : a.tmps.getD s undef = .slice none 0 0 := hv
   rw [hv']
   exact n2
  ·exact AV.R_mono hr.h.len (HLe.snoc _ _) (hr.tm q v hq)
 ·cases h
theorem W_nil {c : Code} {st' : St} (s : Nat) (R : RC) (h : nilS s R st = some st') (k : W E Γ c Q st') : W E Γ c Q st := by
 intro θ a w hr
 obtain ⟨θ', hr'⟩ := nilS_good h hr
 exact k θ' a w hr'
theorem WO_nilrow {ops : Array Oper} {l : List Nat} {st' : St} (s : Nat) (R : RC) (h : nilS s R st = some st') (k : WO E Γ ops l Q st') : WO E Γ ops l Q st := by
 intro θ a w hr
 obtain ⟨θ', hr'⟩ := nilS_good h hr
 exact k θ' a w hr'

/-- a nil slice in a block as a row without elements -/
def nilC (b i : Nat) (R : RC) (st : St) : Option St :=
 match st.H[b]? with
 | some (.cells cs) => match cs[i]? with
  | some .nsl => some ⟨st.T, (st.H.set b (.cells (cs.set i (.sl st.H.length 0 0)))) ++ [.row R [] true]⟩
  | _ => none
 | _ => none
theorem CE_ren_some (x : CE) : x.ren some = x := by cases x <;> rfl
theorem AG_ren_some (x : AG) : x.ren some = x := by
 cases x with
 | e x => show AG.e (x.ren some) = _; rw [CE_ren_some]
 | agg l => show AG.agg (l.map (CE.ren some)) = _; rw [show CE.ren some = id from funext CE_ren_some, List.map_id]
 | arr R xs => rfl
 | fn g cap => show AG.fn g (cap.map (CE.ren some)) = _; rw [show CE.ren some = id from funext CE_ren_some, List.map_id]
theorem AV_ren_some (x : AV) : x.ren some = x := by
 cases x with
 | one x => show AV.one (x.ren some) = _; rw [AG_ren_some]
 | tup l => show AV.tup (l.map (AG.ren some)) = _; rw [show AG.ren some = id from funext AG_ren_some, List.map_id]
theorem Blk_ren_some (x : Blk) : x.ren some = x := by
 cases x with
 | cells l => show Blk.cells (l.map (CE.ren some)) = _; rw [show CE.ren some = id from funext CE_ren_some, List.map_id]
 | row R xs own => rfl
 | dead => rfl
theorem nilC_good {b i : Nat} {R : RC} {st' : St} {θ : List Loc} {a : Act} {w : World} (h : nilC b i R st = some st') (hr : Rel E Γ θ st a w) : ∃ θ', Rel E Γ θ' st' a w := by
 unfold nilC at h
 split at h
 case h_2 => cases h
 rename_i cs hb
 split at h
 case h_2 => cases h
 rename_i hi
 cases h
 obtain ⟨n1, n2⟩ := append_none hr.h R none
 have hlt : b < st.H.length := lt_of_getElem? hb
 have e1 : st.H.set b (.cells (cs.set i (.sl st.H.length 0 0))) ++ [.row R [] true] = (st.H ++ [Blk.row R [] true]).set b (.cells (cs.set i (.sl st.H.length 0 0))) := by
  rw [List.set_append_left _ _ hlt]
 have hb1 : (st.H ++ [Blk.row R [] true])[b]? = some (.cells cs) := by rw [List.getElem?_append_left hlt]; exact hb
 have hT : ∀ s v, look st.T s = some v → v.R (θ ++ [⟨0, 0, 0⟩]) (st.H ++ [.row R [] true]) (a.tmps.getD s undef) := fun s v hs => AV.R_mono hr.h.len (HLe.snoc _ _) (hr.tm s v hs)
 rw [e1]
 have hl : (st.H ++ [Blk.row R [] true]).length = st.H.length + 1 := by simp
 generalize hH : st.H ++ [Blk.row R [] true] = H at *
 generalize hθ : θ ++ [(⟨0, 0, 0⟩ : Loc)] = θ1 at *
 generalize st.H.length = m at *
 have hget : ∀ (q : Nat) (x : Blk), (H.set b (.cells (cs.set i (.sl m 0 0))))[q]? = some x → (q = b ∧ x = .cells (cs.set i (.sl m 0 0))) ∨ H[q]? = some x := by
  intro q x hx
  rw [List.getElem?_set] at hx
  split at hx
  ·rename_i e
   split at hx
   ·cases hx; exact .inl ⟨e.symm, rfl⟩
   ·cases hx
  ·exact .inr hx
 have hren : Ren some θ1 H θ1 (H.set b (.cells (cs.set i (.sl m 0 0)))) := by
  intro r q hq
  cases hq
  refine ⟨fun l hl => hl, fun R ys own' hx => ?_⟩
  rcases hget _ _ hx with ⟨_, e⟩ | h0
  ·cases e
  ·exact ⟨ys, own', h0, rfl⟩
 refine ⟨θ1, ⟨by simp [n1.len], n1.pre, fun q l x hl hx => ?_, fun q l x hl hx ho => ?_, fun q l R' ys hl hx hne => ?_, fun q q' l l' x x' hne hl hl' hx hx' ho ho' => ?_, n1.fr, n1.gl, n1.kw⟩, hr.nt, hr.df, hr.ml, fun s v hv => ?_⟩
 ·rcases hget _ _ hx with ⟨rfl, rfl⟩ | h0
  ·obtain ⟨vs, e, k1, k2, k3⟩ := n1.bl q l _ hl hb1
   refine ⟨vs, e, k1, ?_, ?_⟩
   ·have k4 : All2 (CE.R θ1 (H.set q (.cells (cs.set i (.sl m 0 0))))) cs vs := k2.mono fun x v hx => by
     have := CE.R_ren hren hx
     rwa [CE_ren_some] at this
    obtain ⟨v, hv, hR⟩ := k2.get i _ hi
    have hv' : v = .slice none 0 0 := hR
    have n3 : (CE.sl m 0 0).R θ1 (H.set q (.cells (cs.set i (.sl m 0 0)))) v := by
     rw [hv']
     have := CE.R_ren hren (x := .sl m 0 0) n2
     rwa [CE_ren_some] at this
    have k5 := k4.set i (.sl m 0 0) v n3
    have e3 : vs.set i v = vs := by
     apply List.ext_getElem?
     intro j
     rw [List.getElem?_set]
     by_cases hij : i = j
     ·subst hij
      rw [if_pos rfl, if_pos (lt_of_getElem? hv), hv]
     ·simp [hij]
    rwa [e3] at k5
   ·cases i with
    | zero =>
     cases cs with
     | nil => trivial
     | cons c cs => trivial
    | succ i =>
     cases cs with
     | nil => trivial
     | cons c cs => cases c <;> exact k3
  ·have := (n1.bl q l x hl h0).ren hren
   rwa [Blk_ren_some] at this
 ·rcases hget _ _ hx with ⟨rfl, rfl⟩ | h0
  ·exact n1.own q l _ hl hb1 trivial
  ·exact n1.own q l x hl h0 ho
 ·rcases hget _ _ hx with ⟨_, e⟩ | h0
  ·cases e
  ·exact n1.giv q l R' ys hl h0 hne
 ·have key : ∀ (q : Nat) (l : Loc) (x : Blk), (H.set b (.cells (cs.set i (.sl m 0 0))))[q]? = some x → x.owns l → ∃ x0, H[q]? = some x0 ∧ x0.owns l := by
   intro q l x hx ho
   rcases hget _ _ hx with ⟨rfl, rfl⟩ | h0
   ·exact ⟨_, hb1, trivial⟩
   ·exact ⟨x, h0, ho⟩
  obtain ⟨y, y1, y2⟩ := key q l x hx ho
  obtain ⟨y', y1', y2'⟩ := key q' l' x' hx' ho'
  exact n1.dis q q' l l' y y' hne hl hl' y1 y1' y2 y2'
 ·have := AV.R_ren hren (hT s v hv)
  rwa [AV_ren_some] at this
theorem WO_nilcell {ops : Array Oper} {l : List Nat} {st' : St} (b i : Nat) (R : RC) (h : nilC b i R st = some st') (k : WO E Γ ops l Q st') : WO E Γ ops l Q st := by
 intro θ a w hr
 obtain ⟨θ', hr'⟩ := nilC_good h hr
 exact k θ' a w hr'

theorem thenS_n {K : St → Prop} (h : K st) : thenS K Q .normal st := h
theorem thenS_r {K : St → Prop} (h : Q .ret st) : thenS K Q .ret st := h
theorem thenS_e {K : St → Prop} {id : Nat} (h : Q (.exit id) st) : thenS K Q (.exit id) st := h
theorem blockS_n {id : Nat} (h : Q .normal st) : blockS id Q .normal st := h
theorem blockS_r {id : Nat} (h : Q .ret st) : blockS id Q .ret st := h
theorem blockS_y {id : Nat} (h : Q .normal st) : blockS id Q (.exit id) st := by simp only [blockS, if_true]; exact h
theorem blockS_e {id id' : Nat} (hne : Nat.beq id' id = false) (h : Q (.exit id') st) : blockS id Q (.exit id') st := by
 have : id' ≠ id := by rintro rfl; simp at hne
 simp only [blockS, if_neg this]; exact h
end

/-- the results of a function, with what must hold for them to be read -/
def resS1 (E : Env) (st : St) : ResultVar → Option (Option Prop × AG)
 | .tmp t => match look st.T t with
  | some (.one g) => some (none, g)
  | _ => none
 | .cell t ty => match look st.T t with
  | some (.one (.e (.p r o))) => match loadS E st.H ty (.one (.e (.p r o))) with
   | some (_, .one g, _) => some (none, g)
   | _ => none
  | some (.one (.e (.rp r k o))) => match loadS E st.H ty (.one (.e (.rp r k o))) with
   | some (φ, .one g, _) => some (some φ, g)
   | _ => none
  | _ => none

def resS (E : Env) (st : St) : List ResultVar → Option (Prop × List AG)
 | [] => some (True, [])
 | x :: l => match resS1 E st x, resS E st l with
  | some (none, v), some (ψ, vs) => some (ψ, v :: vs)
  | some (some φ, v), some (ψ, vs) => some (φ ∧ ψ, v :: vs)
  | _, _ => none

def oneOrTup : List AG → AV
 | [x] => .one x
 | l => .tup l

/-- what a function hands back: its results, the blocks that it was given and the new ones that the results name -/
def retS0 (E : Env) (fn : Func) (m : Nat) (ρ : List Nat) (st : St) : Option (Prop × AV × List Blk) :=
 if nodupN ρ && startsN 0 m ρ then
  match resS E st fn.results.toList, subH (idx ρ) st.H ρ with
  | some (φ, l), some H' => some (φ, (oneOrTup l).ren (idx ρ), H')
  | _, _ => none
 else none

def retS (E : Env) (fn : Func) (m : Nat) (ρ : List Nat) (st : St) : Option (Prop × AV × List Blk) :=
 match prepS m ρ st with
 | some (ρ', st') => retS0 E fn m ρ' st'
 | none => none

def argT : Nat → List AV → Tm
 | _, [] => []
 | k, v :: l => (k, v) :: argT (k + 1) l

def RetQ (E : Env) (fn : Func) (m : Nat) (res : AV) (ext' : List Blk) : Exit → St → Prop
 | .ret, st => ∃ ρ φ, retS E fn m ρ st = some (φ, res, ext') ∧ φ
 | .normal, st => ∃ ρ φ, retS E fn m ρ st = some (φ, res, ext') ∧ φ
 | _, _ => False

end Go.Proofs.YtghdgncfcfdlfaaGreatDoor
