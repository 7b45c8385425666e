/- Renaming of blocks; letting go of what is no longer named. Conditions: none. -/
import Derived.Test.YtghdgncfcfdlfaaGreatDoorTLm
namespace Go.Proofs.YtghdgncfcfdlfaaGreatDoor
open Go

def CE.ren (f : Nat → Option Nat) : CE → CE
 | .p r o => match f r with
  | some q => .p q o
  | none => .junk
 | .rp r k o => match f r with
  | some q => .rp q k o
  | none => .junk
 | .sl r off len => match f r with
  | some q => .sl q off len
  | none => .junk
 | .sp r T => match f r with
  | some q => .sp q T
  | none => .junk
 | .sd r => match f r with
  | some q => .sd q
  | none => .junk
 | .bsl r len => match f r with
  | some q => .bsl q len
  | none => .junk
 | x => x

def AG.ren (f : Nat → Option Nat) : AG → AG
 | .e x => .e (x.ren f)
 | .agg l => .agg (l.map (CE.ren f))
 | .arr R xs => .arr R xs
 | .fn g cap => .fn g (cap.map (CE.ren f))

def AV.ren (f : Nat → Option Nat) : AV → AV
 | .one x => .one (x.ren f)
 | .tup l => .tup (l.map (AG.ren f))

def Blk.ren (f : Nat → Option Nat) : Blk → Blk
 | .cells l => .cells (l.map (CE.ren f))
 | b => b

/-- what a renaming must keep -/
def Ren (f : Nat → Option Nat) (θ : List Loc) (H : List Blk) (θ' : List Loc) (H' : List Blk) : Prop :=
 ∀ r q, f r = some q → (∀ l, θ[r]? = some l → θ'[q]? = some l) ∧
  ∀ R ys own', H'[q]? = some (.row R ys own') → ∃ xs own, H[r]? = some (.row R xs own) ∧ xs.length = ys.length

section
variable {f : Nat → Option Nat} {θ θ' : List Loc} {H H' : List Blk}

theorem CE.R_ren (hf : Ren f θ H θ' H') {x : CE} {v : Value} (h : x.R θ H v) : (x.ren f).R θ' H' v := by
 cases x with
 | c x => exact h
 | p r o =>
  simp only [CE.ren]
  cases hq : f r with
  | none => trivial
  | some q => obtain ⟨l, hl, hv⟩ := h; exact ⟨l, (hf r q hq).1 l hl, hv⟩
 | rp r k o =>
  simp only [CE.ren]
  cases hq : f r with
  | none => trivial
  | some q =>
   obtain ⟨l, hl, hv⟩ := h
   refine ⟨l, (hf r q hq).1 l hl, fun R ys own' hr => ?_⟩
   obtain ⟨xs, own, hx, e⟩ := (hf r q hq).2 R ys own' hr
   rw [← e]; exact hv R xs own hx
 | sl r off len =>
  simp only [CE.ren]
  cases hq : f r with
  | none => trivial
  | some q =>
   obtain ⟨l, hl, hv⟩ := h
   refine ⟨l, (hf r q hq).1 l hl, fun R ys own' hr => ?_⟩
   obtain ⟨xs, own, hx, e⟩ := (hf r q hq).2 R ys own' hr
   rw [← e]; exact hv R xs own hx
 | nsl => exact h
 | nilp => exact h
 | nif => exact h
 | err b => exact h
 | gp g k => exact h
 | sp r T =>
  simp only [CE.ren]
  cases hq : f r with
  | none => trivial
  | some q => obtain ⟨l, hl, hv⟩ := h; exact ⟨l, (hf r q hq).1 l hl, hv⟩
 | sd r =>
  simp only [CE.ren]
  cases hq : f r with
  | none => trivial
  | some q =>
   obtain ⟨l, hl, h1, hv⟩ := h
   refine ⟨l, (hf r q hq).1 l hl, h1, fun R ys own' hr h0 => ?_⟩
   obtain ⟨xs, own, hx, e⟩ := (hf r q hq).2 R ys own' hr
   exact hv R xs own hx (by omega)
 | bsl r len =>
  simp only [CE.ren]
  cases hq : f r with
  | none => trivial
  | some q =>
   obtain ⟨h0, l, hl, hv⟩ := h
   refine ⟨h0, l, (hf r q hq).1 l hl, fun R ys own' hr => ?_⟩
   obtain ⟨xs, own, hx, e⟩ := (hf r q hq).2 R ys own' hr
   rw [← e]; exact hv R xs own hx
 | junk => trivial

theorem AG.R_ren (hf : Ren f θ H θ' H') {x : AG} {v : Value} (h : x.R θ H v) : (x.ren f).R θ' H' v := by
 cases x with
 | e x => exact CE.R_ren hf (x := x) h
 | agg l => obtain ⟨vs, hv, ha⟩ := h; exact ⟨vs, hv, All2.map (CE.ren f) (fun _ _ => CE.R_ren hf) ha⟩
 | arr R xs => exact h
 | fn g cap => obtain ⟨vs, hv, ha⟩ := h; exact ⟨vs, hv, All2.map (CE.ren f) (fun _ _ => CE.R_ren hf) ha⟩

theorem AV.R_ren (hf : Ren f θ H θ' H') {x : AV} {v : Value} (h : x.R θ H v) : (x.ren f).R θ' H' v := by
 cases x with
 | one x => exact AG.R_ren hf (x := x) h
 | tup l => obtain ⟨vs, hv, ha⟩ := h; exact ⟨vs, hv, All2.map (AG.ren f) (fun _ _ => AG.R_ren hf) ha⟩

theorem spT_ren {f : Nat → Option Nat} {e : TypeId} : ∀ {l : List CE}, spT l e → spT (l.map (CE.ren f)) e
 | [], _ => trivial
 | .sp r T :: l, h => by
  simp only [List.map_cons, CE.ren]
  cases f r with
  | none => trivial
  | some q => exact h
 | .c _ :: _, _ => trivial
 | .p r o :: _, _ => by simp only [List.map_cons, CE.ren]; cases f r <;> trivial
 | .rp r _ _ :: _, _ => by simp only [List.map_cons, CE.ren]; cases f r <;> trivial
 | .sl r _ _ :: _, _ => by simp only [List.map_cons, CE.ren]; cases f r <;> trivial
 | .nsl :: _, _ => trivial
 | .nilp :: _, _ => trivial
 | .nif :: _, _ => trivial
 | .err _ :: _, _ => trivial
 | .gp _ _ :: _, _ => trivial
 | .sd r :: _, _ => by simp only [List.map_cons, CE.ren]; cases f r <;> trivial
 | .bsl r _ :: _, _ => by simp only [List.map_cons, CE.ren]; cases f r <;> trivial
 | .junk :: _, _ => trivial

theorem BlkR.ren (hf : Ren f θ H θ' H') {w : World} {l : Loc} {b : Blk} (h : BlkR θ H w l b) : BlkR θ' H' w l (b.ren f) := by
 cases b with
 | cells cs => obtain ⟨vs, e, h1, h2⟩ := h; exact ⟨vs, e, h1, All2.map (CE.ren f) (fun _ _ => CE.R_ren hf) h2.1, spT_ren h2.2⟩
 | row R xs own => exact h
 | dead => trivial

theorem Blk.owns_ren {l : Loc} {b : Blk} : (b.ren f).owns l ↔ b.owns l := by
 cases b <;> rfl
theorem Blk.ren_row {b : Blk} {R : RC} {xs : List R.A} {own : Bool} (h : b.ren f = .row R xs own) : b = .row R xs own := by
 cases b with
 | cells l => cases h
 | row R' xs' own' => exact h
 | dead => cases h
end

/-- where a number stands in a list -/
def idxG : List Nat → Nat → Nat → Option Nat
 | [], _, _ => none
 | x :: l, k, r => if Nat.beq x r then some k else idxG l (k + 1) r
def idx (ρ : List Nat) (r : Nat) : Option Nat := idxG ρ 0 r

theorem idxG_some : ∀ {ρ : List Nat} {k r q : Nat}, idxG ρ k r = some q → k ≤ q ∧ ρ[q - k]? = some r
 | [], k, r, q, h => by cases h
 | x :: l, k, r, q, h => by
  simp only [idxG] at h
  split at h
  ·rename_i e
   cases h
   simp [Nat.beq_eq] at e
   simp [e]
  ·obtain ⟨h1, h2⟩ := idxG_some h
   refine ⟨by omega, ?_⟩
   rw [show q - k = (q - (k + 1)) + 1 by omega]
   simpa using h2
theorem idx_some {ρ : List Nat} {r q : Nat} (h : idx ρ r = some q) : ρ[q]? = some r := by
 have := (idxG_some h).2
 simpa using this

def memN (x : Nat) : List Nat → Bool
 | [] => false
 | y :: l => Nat.beq x y || memN x l
def nodupN : List Nat → Bool
 | [] => true
 | x :: l => !memN x l && nodupN l
theorem memN_iff {x : Nat} : ∀ {l : List Nat}, memN x l = true ↔ x ∈ l
 | [] => by simp [memN]
 | y :: l => by simp [memN, memN_iff (l := l), Nat.beq_eq]
theorem nodupN_get : ∀ {l : List Nat}, nodupN l = true → ∀ {i j x : Nat}, l[i]? = some x → l[j]? = some x → i = j
 | [], _, i, j, x, h, _ => by simp at h
 | y :: l, h, i, j, x, hi, hj => by
  simp only [nodupN, Bool.and_eq_true, Bool.not_eq_true'] at h
  have hm : y ∉ l := by
   intro hy
   have := memN_iff.2 hy
   rw [h.1] at this; cases this
  cases i with
  | zero => cases j with
   | zero => rfl
   | succ j =>
    simp at hi hj
    subst hi
    exact absurd (List.mem_of_getElem? hj) hm
  | succ i => cases j with
   | zero =>
    simp at hi hj
    subst hj
    exact absurd (List.mem_of_getElem? hi) hm
   | succ j =>
    simp at hi hj
    rw [nodupN_get h.2 hi hj]

/-- a list begins 0, 1, .. up to m -/
def startsN : Nat → Nat → List Nat → Bool
 | _, 0, _ => true
 | k, m + 1, x :: l => Nat.beq k x && startsN (k + 1) m l
 | _, _ + 1, [] => false
theorem startsN_get : ∀ {m k : Nat} {l : List Nat}, startsN k m l = true → ∀ i, i < m → l[i]? = some (k + i)
 | 0, _, _, _, i, h => by omega
 | m + 1, k, x :: l, h, i, hi => by
  simp only [startsN, Bool.and_eq_true] at h
  have hx : k = x := by simpa [Nat.beq_eq] using h.1
  subst hx
  cases i with
  | zero => simp
  | succ i =>
   have := startsN_get h.2 i (by omega)
   simp only [List.getElem?_cons_succ, this]
   congr 1; omega
 | m + 1, k, [], h, _, _ => by cases h

def subT (f : Nat → Option Nat) (T : Tm) : List Nat → Option Tm
 | [] => some []
 | s :: l => match look T s, subT f T l with
  | some v, some T' => some ((s, v.ren f) :: T')
  | _, _ => none
def subH (f : Nat → Option Nat) (H : List Blk) : List Nat → Option (List Blk)
 | [] => some []
 | r :: l => match H[r]?, subH f H l with
  | some b, some H' => some (b.ren f :: H')
  | _, _ => none

/-- the state with the slots 'live' and the blocks ρ alone -/
def subS (m : Nat) (ρ live : List Nat) (st : St) : Option St :=
 if nodupN ρ && startsN 0 m ρ then
  match subT (idx ρ) st.T live, subH (idx ρ) st.H ρ with
  | some T', some H' => some ⟨T', H'⟩
  | _, _ => none
 else none

theorem subH_get {f : Nat → Option Nat} {H : List Blk} : ∀ {ρ : List Nat} {H' : List Blk}, subH f H ρ = some H' → H'.length = ρ.length ∧ ∀ (q r : Nat), ρ[q]? = some r → ∃ b, H[r]? = some b ∧ H'[q]? = some (b.ren f)
 | [], H', h => by cases h; exact ⟨rfl, fun q r hq => by simp at hq⟩
 | r :: l, H', h => by
  unfold subH at h
  split at h
  ·rename_i b H2 hb h2
   cases h
   obtain ⟨h3, h4⟩ := subH_get h2
   refine ⟨by simp [h3], fun q r' hq => ?_⟩
   cases q with
   | zero => simp at hq; subst hq; exact ⟨b, hb, rfl⟩
   | succ q => simpa using h4 q r' (by simpa using hq)
  ·cases h

theorem subT_look {f : Nat → Option Nat} {T : Tm} : ∀ {live : List Nat} {T' : Tm}, subT f T live = some T' → ∀ s v, look T' s = some v → ∃ u, look T s = some u ∧ v = u.ren f
 | [], T', h, s, v, hv => by cases h; cases hv
 | x :: l, T', h, s, v, hv => by
  unfold subT at h
  split at h
  ·rename_i u T2 hu h2
   cases h
   simp only [look] at hv
   split at hv
   ·rename_i e
    cases hv
    have : x = s := by simpa [Nat.beq_eq] using e
    subst this
    exact ⟨u, hu, rfl⟩
   ·exact subT_look h2 s v hv
  ·cases h

section
variable {E : Env} {Γ : Ctx} {θ : List Loc} {st st' : St} {a : Act} {w : World}

theorem getElem?_mapD {α β : Type} (g : α → β) (l : List α) (i : Nat) : (l.map g)[i]? = (l[i]?).map g := List.getElem?_map

theorem subS_good {ρ live : List Nat} (hr : Rel E Γ θ st a w) (h : subS Γ.m ρ live st = some st') : ∃ θ', Rel E Γ θ' st' a w := by
 unfold subS at h
 split at h
 ·rename_i hc
  simp only [Bool.and_eq_true] at hc
  obtain ⟨hnd, hst⟩ := hc
  split at h
  ·rename_i T' H' hT hH
   cases h
   have hh := hr.h
   obtain ⟨hlen, hget⟩ := subH_get hH
   have hθ : ∀ (q r : Nat), ρ[q]? = some r → ∃ l, θ[r]? = some l := by
    intro q r hq
    obtain ⟨b, hb, _⟩ := hget q r hq
    have : r < θ.length := by rw [hh.len]; exact lt_of_getElem? hb
    exact ⟨_, List.getElem?_eq_getElem this⟩
   let θ' : List Loc := ρ.map fun r => (θ[r]?).getD ⟨0, 0, 0⟩
   have hθ' : ∀ (q r : Nat) (l : Loc), ρ[q]? = some r → θ[r]? = some l → θ'[q]? = some l := by
    intro q r l hq hl
    simp [θ', List.getElem?_map, hq, hl]
   have back : ∀ (q : Nat) (l : Loc) (b : Blk), θ'[q]? = some l → H'[q]? = some b → ∃ r b0, ρ[q]? = some r ∧ θ[r]? = some l ∧ st.H[r]? = some b0 ∧ b = b0.ren (idx ρ) := by
    intro q l b hl hb
    have hql : q < ρ.length := by rw [← hlen]; exact lt_of_getElem? hb
    have hq : ρ[q]? = some ρ[q] := List.getElem?_eq_getElem hql
    obtain ⟨b0, hb0, hb1⟩ := hget q _ hq
    obtain ⟨l0, hl0⟩ := hθ q _ hq
    rw [hθ' q _ l0 hq hl0] at hl
    cases hl
    rw [hb1] at hb; cases hb
    exact ⟨_, b0, hq, hl0, hb0, rfl⟩
   have hren : Ren (idx ρ) θ st.H θ' H' := by
    intro r q hq
    have hρ := idx_some hq
    refine ⟨fun l hl => hθ' q r l hρ hl, fun R ys own' hR => ?_⟩
    obtain ⟨b, hb, hb'⟩ := hget q r hρ
    rw [hb'] at hR
    injection hR with hR
    have := Blk.ren_row hR
    subst this
    exact ⟨ys, own', hb, rfl⟩
   refine ⟨θ', ⟨by simp [θ', hlen], ?_, fun q l b hl hb => ?_, fun q l b hl hb ho => ?_, fun q l R xs hl hb hx => ?_, fun q q' l l' b b' hne hl hl' hb hb' ho ho' => ?_, hh.fr, hh.gl, hh.kw⟩, hr.nt, hr.df, hr.ml, fun s v hv => ?_⟩
   ·have hml := hr.ml
    obtain ⟨tl, htl⟩ := hh.pre
    have : θ'.take Γ.m = Γ.θ0 := by
     apply List.ext_getElem?
     intro i
     rw [List.getElem?_take]
     by_cases hi : i < Γ.m
     ·rw [if_pos hi]
      have hρ := startsN_get hst i hi
      rw [Nat.zero_add] at hρ
      have hl : θ[i]? = some (Γ.θ0[i]'(by omega)) := by
       rw [← htl, List.getElem?_append_left (by omega), List.getElem?_eq_getElem]
      rw [hθ' i i _ hρ hl, List.getElem?_eq_getElem]
     ·rw [if_neg hi, List.getElem?_eq_none (by omega)]
    rw [← this]
    exact List.take_prefix _ _
   ·obtain ⟨r, b0, _, h2, h3, rfl⟩ := back q l b hl hb
    exact (hh.bl r l b0 h2 h3).ren hren
   ·obtain ⟨r, b0, _, h2, h3, rfl⟩ := back q l b hl hb
    exact hh.own r l b0 h2 h3 (Blk.owns_ren.1 ho)
   ·obtain ⟨r, b0, _, h2, h3, e⟩ := back q l _ hl hb
    have := Blk.ren_row e.symm
    subst this
    exact hh.giv r l R xs h2 h3 hx
   ·obtain ⟨r, b0, k1, k2, k3, rfl⟩ := back q l b hl hb
    obtain ⟨r', b0', k1', k2', k3', rfl⟩ := back q' l' b' hl' hb'
    refine hh.dis r r' l l' b0 b0' (fun e => ?_) k2 k2' k3 k3' (Blk.owns_ren.1 ho) (Blk.owns_ren.1 ho')
    subst e
    exact hne (nodupN_get hnd k1 k1')
   ·obtain ⟨u, hu, rfl⟩ := subT_look hT s v hv
    exact AV.R_ren hren (hr.tm s u hu)
  ·cases h
 ·cases h

end

/-! a row that is owned is moved to a number of its own; a block is let go -/
def mvF (r n : Nat) (i : Nat) : Option Nat := if Nat.beq i r then some n else if Nat.blt i n then some i else none
def mapT (f : Nat → Option Nat) : Tm → Tm
 | [] => []
 | (s, v) :: T => (s, v.ren f) :: mapT f T
def moveS (r : Nat) (st : St) : Option St :=
 match st.H[r]? with
 | some (.row R xs true) => some ⟨mapT (mvF r st.H.length) st.T, (st.H.set r .dead).map (Blk.ren (mvF r st.H.length)) ++ [.row R xs true]⟩
 | _ => none
def goneS (r : Nat) (st : St) : St := ⟨st.T, st.H.set r .dead⟩

theorem mapT_look {f : Nat → Option Nat} : ∀ {T : Tm} {s : Nat} {v : AV}, look (mapT f T) s = some v → ∃ u, look T s = some u ∧ v = u.ren f
 | [], s, v, h => by cases h
 | (x, u) :: T, s, v, h => by
  simp only [mapT, look] at h ⊢
  split at h
  ·rename_i e
   cases h
   rw [if_pos e]
   exact ⟨u, rfl, rfl⟩
  ·rename_i e
   rw [if_neg e]
   exact mapT_look h
theorem mvF_eq {r n i q : Nat} (h : mvF r n i = some q) : (i = r ∧ q = n) ∨ (i ≠ r ∧ i < n ∧ q = i) := by
 unfold mvF at h
 split at h
 ·rename_i e
  cases h
  exact .inl ⟨by simpa [Nat.beq_eq] using e, rfl⟩
 ·rename_i e
  split at h
  ·rename_i e2
   cases h
   exact .inr ⟨by simpa [Nat.beq_eq] using e, by simpa using e2, rfl⟩
  ·cases h

section
variable {E : Env} {Γ : Ctx} {θ : List Loc} {st st' : St} {a : Act} {w : World}
theorem moveS_good {r : Nat} (hr : Rel E Γ θ st a w) (h : moveS r st = some st') : ∃ θ', Rel E Γ θ' st' a w := by
 unfold moveS at h
 split at h
 case h_2 => cases h
 rename_i R xs hR
 cases h
 have hh := hr.h
 have hlt : r < st.H.length := lt_of_getElem? hR
 obtain ⟨l0, hl0⟩ : ∃ l, θ[r]? = some l := ⟨_, List.getElem?_eq_getElem (by rw [hh.len]; exact hlt)⟩
 have hlen := hh.len
 -- the blocks, one by one
 have hget : ∀ (q : Nat) (b : Blk), ((st.H.set r .dead).map (Blk.ren (mvF r st.H.length)) ++ [Blk.row R xs true])[q]? = some b →
   (q = st.H.length ∧ b = .row R xs true) ∨ (q = r ∧ b = .dead) ∨ (q ≠ r ∧ q < st.H.length ∧ ∃ b0, st.H[q]? = some b0 ∧ b = b0.ren (mvF r st.H.length)) := by
  intro q b hb
  by_cases hq : q < st.H.length
  ·rw [List.getElem?_append_left (by simpa using hq), List.getElem?_map, List.getElem?_set] at hb
   by_cases e : r = q
   ·subst e
    rw [if_pos rfl, if_pos (by simpa using hq)] at hb
    cases hb
    exact .inr (.inl ⟨rfl, rfl⟩)
   ·rw [if_neg e] at hb
    obtain ⟨b0, h0, h1⟩ := Option.map_eq_some_iff.1 hb
    exact .inr (.inr ⟨fun h => e h.symm, hq, b0, h0, h1.symm⟩)
  ·rw [List.getElem?_append_right (by simpa using hq)] at hb
   have : q = st.H.length := by
    have := lt_of_getElem? hb
    simp at this hq
    omega
   subst this
   simp at hb
   exact .inl ⟨rfl, hb.symm⟩
 have hth : ∀ (q : Nat) (l : Loc), (θ ++ [l0])[q]? = some l → (q = st.H.length ∧ l = l0) ∨ (q < st.H.length ∧ θ[q]? = some l) := by
  intro q l hl
  by_cases hq : q < θ.length
  ·rw [List.getElem?_append_left hq] at hl
   exact .inr ⟨by omega, hl⟩
  ·rw [List.getElem?_append_right (by omega)] at hl
   have := lt_of_getElem? hl
   have : q = θ.length := by simp at this; omega
   subst this
   simp at hl
   exact .inl ⟨hlen, hl.symm⟩
 have hren : Ren (mvF r st.H.length) θ st.H (θ ++ [l0]) ((st.H.set r .dead).map (Blk.ren (mvF r st.H.length)) ++ [Blk.row R xs true]) := by
  intro i q hq
  rcases mvF_eq hq with ⟨rfl, rfl⟩ | ⟨hne, hi, rfl⟩
  ·refine ⟨fun l hl => ?_, fun R' ys own' hb => ?_⟩
   ·rw [hl0] at hl; cases hl
    rw [← hlen, List.getElem?_append_right (Nat.le_refl _), Nat.sub_self]; rfl
   ·rcases hget _ _ hb with ⟨_, e⟩ | ⟨e, _⟩ | ⟨_, h2, _⟩
    ·cases e; exact ⟨xs, true, hR, rfl⟩
    ·omega
    ·omega
  ·refine ⟨fun l hl => by rw [List.getElem?_append_left (by omega)]; exact hl, fun R' ys own' hb => ?_⟩
   rcases hget _ _ hb with ⟨e, _⟩ | ⟨_, e⟩ | ⟨_, _, b0, h0, e⟩
   ·omega
   ·cases e
   ·have := Blk.ren_row e.symm
    subst this
    exact ⟨ys, own', h0, rfl⟩
 have hbr : BlkR θ st.H w l0 (.row R xs true) := hh.bl r l0 _ hl0 hR
 refine ⟨θ ++ [l0], ⟨by simp [hlen], ?_, fun q l b hl hb => ?_, fun q l b hl hb ho => ?_, fun q l R' ys hl hb hx => ?_, fun q q' l l' b b' hne hl hl' hb hb' ho ho' => ?_, hh.fr, hh.gl, hh.kw⟩, hr.nt, hr.df, hr.ml, fun s v hv => ?_⟩
 ·exact hh.pre.trans (List.prefix_append _ _)
 ·rcases hget _ _ hb with ⟨e, rfl⟩ | ⟨_, rfl⟩ | ⟨_, hq, b0, h0, rfl⟩
  ·rcases hth _ _ hl with ⟨_, rfl⟩ | ⟨h2, _⟩
   ·exact hbr.ren (b := .row R xs true) hren
   ·omega
  ·trivial
  ·rcases hth _ _ hl with ⟨h2, _⟩ | ⟨_, h2⟩
   ·omega
   ·exact (hh.bl q l b0 h2 h0).ren hren
 ·rcases hget _ _ hb with ⟨e, rfl⟩ | ⟨_, rfl⟩ | ⟨_, hq, b0, h0, rfl⟩
  ·rcases hth _ _ hl with ⟨_, rfl⟩ | ⟨h2, _⟩
   ·exact hh.own r l _ hl0 hR ho
   ·omega
  ·exact ho.elim
  ·rcases hth _ _ hl with ⟨h2, _⟩ | ⟨_, h2⟩
   ·omega
   ·exact hh.own q l b0 h2 h0 (Blk.owns_ren.1 ho)
 ·rcases hget _ _ hb with ⟨e, e2⟩ | ⟨_, e2⟩ | ⟨_, hq, b0, h0, e2⟩
  ·cases e2
  ·cases e2
  ·have := Blk.ren_row e2.symm
   subst this
   rcases hth _ _ hl with ⟨h2, _⟩ | ⟨_, h2⟩
   ·omega
   ·exact hh.giv q l R' ys h2 h0 hx
 ·have key : ∀ (q : Nat) (l : Loc) (b : Blk), (θ ++ [l0])[q]? = some l → ((st.H.set r .dead).map (Blk.ren (mvF r st.H.length)) ++ [Blk.row R xs true])[q]? = some b → b.owns l →
    ∃ i b0, θ[i]? = some l ∧ st.H[i]? = some b0 ∧ b0.owns l ∧ ((q = st.H.length ∧ i = r) ∨ (q < st.H.length ∧ q ≠ r ∧ i = q)) := by
   intro q l b hl hb ho
   rcases hget _ _ hb with ⟨e, rfl⟩ | ⟨_, rfl⟩ | ⟨hne, hq, b0, h0, rfl⟩
   ·rcases hth _ _ hl with ⟨_, rfl⟩ | ⟨h2, _⟩
    ·exact ⟨r, _, hl0, hR, ho, .inl ⟨e, rfl⟩⟩
    ·omega
   ·exact ho.elim
   ·rcases hth _ _ hl with ⟨h2, _⟩ | ⟨_, h2⟩
    ·omega
    ·exact ⟨q, b0, h2, h0, Blk.owns_ren.1 ho, .inr ⟨hq, hne, rfl⟩⟩
  obtain ⟨i, b0, k1, k2, k3, k4⟩ := key q l b hl hb ho
  obtain ⟨i', b0', k1', k2', k3', k4'⟩ := key q' l' b' hl' hb' ho'
  exact hh.dis i i' l l' b0 b0' (by rcases k4 with ⟨_, _⟩ | ⟨_, _, _⟩ <;> rcases k4' with ⟨_, _⟩ | ⟨_, _, _⟩ <;> omega) k1 k1' k2 k2' k3 k3'
 ·obtain ⟨u, hu, rfl⟩ := mapT_look hv
  exact AV.R_ren hren (hr.tm s u hu)
theorem goneS_good {r : Nat} (hr : Rel E Γ θ st a w) : Rel E Γ θ (goneS r st) a w := by
 have hh := hr.h
 have hget : ∀ (q : Nat) (b : Blk), (st.H.set r .dead)[q]? = some b → b = .dead ∨ st.H[q]? = some b := by
  intro q b hb
  rw [List.getElem?_set] at hb
  split at hb
  ·split at hb
   ·cases hb; exact .inl rfl
   ·cases hb
  ·exact .inr hb
 have hren : Ren some θ st.H θ (st.H.set r .dead) := by
  intro i q hq
  cases hq
  refine ⟨fun l hl => hl, fun R ys own' hb => ?_⟩
  rcases hget _ _ hb with e | h0
  ·cases e
  ·exact ⟨ys, own', h0, rfl⟩
 have rid : ∀ x : CE, x.ren some = x := fun x => by cases x <;> rfl
 have gid : ∀ x : AG, x.ren some = x := fun x => by
  cases x with
  | e x => show AG.e (x.ren some) = _; rw [rid]
  | agg l => show AG.agg (l.map (CE.ren some)) = _; rw [show CE.ren some = id from funext rid, List.map_id]
  | arr R xs => rfl
  | fn g cap => show AG.fn g (cap.map (CE.ren some)) = _; rw [show CE.ren some = id from funext rid, List.map_id]
 have vid : ∀ x : AV, x.ren some = x := fun x => by
  cases x with
  | one x => show AV.one (x.ren some) = _; rw [gid]
  | tup l => show AV.tup (l.map (AG.ren some)) = _; rw [show AG.ren some = id from funext gid, List.map_id]
 have bid : ∀ x : Blk, x.ren some = x := fun x => by
  cases x with
  | cells l => show Blk.cells (l.map (CE.ren some)) = _; rw [show CE.ren some = id from funext rid, List.map_id]
  | row R xs own => rfl
  | dead => rfl
 refine ⟨⟨by simp [goneS, hh.len], hh.pre, fun q l b hl hb => ?_, fun q l b hl hb ho => ?_, fun q l R' ys hl hb hx => ?_, fun q q' l l' b b' hne hl hl' hb hb' ho ho' => ?_, hh.fr, hh.gl, hh.kw⟩, hr.nt, hr.df, hr.ml, fun s v hv => ?_⟩
 ·rcases hget _ _ hb with rfl | h0
  ·trivial
  ·have := (hh.bl q l b hl h0).ren hren
   rwa [bid] at this
 ·rcases hget _ _ hb with rfl | h0
  ·exact ho.elim
  ·exact hh.own q l b hl h0 ho
 ·rcases hget _ _ hb with e | h0
  ·cases e
  ·exact hh.giv q l R' ys hl h0 hx
 ·rcases hget _ _ hb with rfl | h0
  ·exact ho.elim
  ·rcases hget _ _ hb' with rfl | h0'
   ·exact ho'.elim
   ·exact hh.dis q q' l l' b b' hne hl hl' h0 h0' ho ho'
 ·have := AV.R_ren hren (hr.tm s v hv)
  rwa [vid] at this
/-- moves and lettings go that a list of numbers asks for: a number below m beyond the first m is a move, a number that is not its own place among the first m is a letting go -/
def moves (m : Nat) : List Nat → St → Option (List Nat × St)
 | [], st => some ([], st)
 | r :: l, st => if Nat.blt r m then
   match moveS r st with
   | some st' => match moves m l st' with
    | some (l', st2) => some (st.H.length :: l', st2)
    | none => none
   | none => none
  else match moves m l st with
   | some (l', st2) => some (r :: l', st2)
   | none => none
def gones : Nat → List Nat → St → List Nat × St
 | _, [], st => ([], st)
 | k, r :: l, st => if Nat.beq r k then ((k :: (gones (k + 1) l st).1), (gones (k + 1) l st).2) else (k :: (gones (k + 1) l (goneS k st)).1, (gones (k + 1) l (goneS k st)).2)
def prepS (m : Nat) (ρ : List Nat) (st : St) : Option (List Nat × St) :=
 match moves m (ρ.drop m) st with
 | some (l, st1) => some ((gones 0 (ρ.take m) st1).1 ++ l, (gones 0 (ρ.take m) st1).2)
 | none => none
theorem moves_good : ∀ {ρ ρ' : List Nat} {θ : List Loc} {st st' : St} {m : Nat}, Rel E Γ θ st a w → moves m ρ st = some (ρ', st') → ∃ θ', Rel E Γ θ' st' a w
 | [], _, θ, st, st', m, hr, h => by cases h; exact ⟨θ, hr⟩
 | r :: l, _, θ, st, st', m, hr, h => by
  unfold moves at h
  split at h
  ·split at h
   ·rename_i st1 h1
    obtain ⟨θ1, hr1⟩ := moveS_good hr h1
    split at h
    ·rename_i h2
     cases h
     exact moves_good hr1 h2
    ·cases h
   ·cases h
  ·split at h
   ·rename_i h2
    cases h
    exact moves_good hr h2
   ·cases h
theorem gones_good : ∀ {ρ : List Nat} {k : Nat} {st : St}, Rel E Γ θ st a w → Rel E Γ θ (gones k ρ st).2 a w
 | [], k, st, hr => hr
 | r :: l, k, st, hr => by
  unfold gones
  split
  ·exact gones_good (ρ := l) hr
  ·exact gones_good (ρ := l) (goneS_good hr)
theorem prepS_good {m : Nat} {ρ ρ' : List Nat} (hr : Rel E Γ θ st a w) (h : prepS m ρ st = some (ρ', st')) : ∃ θ', Rel E Γ θ' st' a w := by
 unfold prepS at h
 split at h
 ·rename_i h1
  cases h
  obtain ⟨θ1, hr1⟩ := moves_good hr h1
  exact ⟨θ1, gones_good hr1⟩
 ·cases h
end
end Go.Proofs.YtghdgncfcfdlfaaGreatDoor
