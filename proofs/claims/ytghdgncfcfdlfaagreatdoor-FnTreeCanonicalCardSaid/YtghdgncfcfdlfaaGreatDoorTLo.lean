/- Calls: what a function does, and how its blocks are handed over and back. Conditions: none. -/
import Derived.Test.YtghdgncfcfdlfaaGreatDoorTLn
namespace Go.Proofs.YtghdgncfcfdlfaaGreatDoor
open Go

/-- a function, called with these arguments over these blocks, returns this over those -/
def FOk (E : Env) (f : FuncId) (args : List AV) (ext : List Blk) (res : AV) (ext' : List Blk) : Prop :=
 ∀ (w : World) (X : Nat → Prop) (θ : List Loc) (vs : List Value), HRel E w X θ θ ext w → All2 (AV.R θ ext) args vs →
  Calls E.P f ⟨vs⟩ w fun e w' => ∃ v θ', e = .returned v ∧ res.R θ' ext' v ∧ HRel E w X θ θ' ext' w'

/-- how a block is handed over: to be written; to be read; a slice's elements alone, to be read -/
inductive It where
 | own (r : Nat)
 | ro (r : Nat)
 | view (j : Nat)

def itBlk (H : List Blk) (args : List AV) : It → Option Blk
 | .own r => match H[r]? with
  | some (.cells l) => some (.cells l)
  | some (.row R xs true) => some (.row R xs true)
  | _ => none
 | .ro r => match H[r]? with
  | some (.row R xs _) => some (.row R xs false)
  | _ => none
 | .view j => match args[j]? with
  | some (.one (.e (.sl r off len))) => match H[r]? with
   | some (.row R xs _) => some (.row R ((xs.drop off).take len) false)
   | _ => none
  | _ => none

/-- the item that hands over a block -/
def itRef : List It → Nat → Nat → Option Nat
 | [], _, _ => none
 | .own q :: l, k, r => if Nat.beq q r then some k else itRef l (k + 1) r
 | .ro q :: l, k, r => if Nat.beq q r then some k else itRef l (k + 1) r
 | .view _ :: l, k, r => itRef l (k + 1) r
def itView : List It → Nat → Nat → Option Nat
 | [], _, _ => none
 | .view q :: l, k, j => if Nat.beq q j then some k else itView l (k + 1) j
 | .own _ :: l, k, j => itView l (k + 1) j
 | .ro _ :: l, k, j => itView l (k + 1) j

def convArg (H : List Blk) (its : List It) (j : Nat) (v : AV) : Option AV :=
 match itView its 0 j with
 | some i => match v with
  | .one (.e (.sl r off len)) => match H[r]? with
   | some (.row _ xs _) => some (.one (.e (.sl i 0 ((xs.drop off).take len).length)))
   | _ => none
  | _ => none
 | none => some (v.ren (itRef its 0))

def convArgs (H : List Blk) (its : List It) : Nat → List AV → Option (List AV)
 | _, [] => some []
 | j, v :: l => match convArg H its j v, convArgs H its (j + 1) l with
  | some v', some l' => some (v' :: l')
  | _, _ => none

def extS (H : List Blk) (args : List AV) (its0 : List It) : List It → Option (List Blk)
 | [] => some []
 | it :: l => match itBlk H args it, extS H args its0 l with
  | some b, some l' => some (b.ren (itRef its0 0) :: l')
  | _, _ => none

def ownRefs : List It → List Nat
 | [] => []
 | .own r :: l => r :: ownRefs l
 | _ :: l => ownRefs l
def roRefs (args : List AV) : List It → List Nat
 | [] => []
 | .ro r :: l => r :: roRefs args l
 | .view j :: l => match args[j]? with
  | some (.one (.e (.sl r _ _))) => r :: roRefs args l
  | _ => roRefs args l
 | .own _ :: l => roRefs args l
def apartN : List Nat → List Nat → Bool
 | [], _ => true
 | x :: l, m => !memN x m && apartN l m

/-- what a call is given -/
def giveS (H : List Blk) (args : List AV) (its : List It) : Option (List AV × List Blk) :=
 if nodupN (ownRefs its) && apartN (roRefs args its) (ownRefs its) then
  match convArgs H its 0 args, extS H args its its with
  | some a, some e => some (a, e)
  | _, _ => none
 else none

/-- the numbers of the blocks behind a call, as the caller has them -/
def backF (n : Nat) (its : List It) (i : Nat) : Option Nat :=
 match its[i]? with
 | some (.own r) => some r
 | some (.ro r) => some r
 | some (.view _) => none
 | none => some (n + (i - its.length))

def newOk : List Blk → Prop
 | [] => True
 | .row _ _ false :: _ => False
 | _ :: l => newOk l

def itOk (H : List Blk) : List It → List Blk → Prop
 | [], new => newOk new
 | .own r :: its, b :: ext' => (match H[r]?, b with
   | some (.row R xs _), .row R' ys o => o = true ∧ R = R' ∧ xs.length = ys.length
   | _, .cells _ => True
   | _, .dead => True
   | _, _ => False) ∧ itOk H its ext'
 | .ro r :: its, b :: ext' => (match H[r]?, b with
   | some (.row R xs _), .row R' ys _ => R = R' ∧ xs.length = ys.length
   | _, _ => False) ∧ itOk H its ext'
 | .view _ :: its, _ :: ext' => itOk H its ext'
 | _ :: _, [] => False

def setOwn (g : Nat → Option Nat) : List It → List Blk → List Blk → List Blk
 | [], new, H => H ++ new.map (Blk.ren g)
 | .own r :: its, b :: ext', H => setOwn g its ext' (H.set r (b.ren g))
 | .ro _ :: its, _ :: ext', H => setOwn g its ext' H
 | .view _ :: its, _ :: ext', H => setOwn g its ext' H
 | _ :: _, [], H => H

def takeS (H : List Blk) (its : List It) (res : AV) (ext' : List Blk) : AV × List Blk :=
 (res.ren (backF H.length its), setOwn (backF H.length its) its ext' H)

theorem itRef_some : ∀ {its : List It} {k r q : Nat}, itRef its k r = some q → k ≤ q ∧ (its[q - k]? = some (.own r) ∨ its[q - k]? = some (.ro r))
 | [], k, r, q, h => by cases h
 | .own x :: l, k, r, q, h => by
  simp only [itRef] at h
  split at h
  ·rename_i e
   cases h
   have : x = r := by simpa [Nat.beq_eq] using e
   subst this
   simp
  ·obtain ⟨h1, h2⟩ := itRef_some h
   refine ⟨by omega, ?_⟩
   rw [show q - k = (q - (k + 1)) + 1 by omega]
   simpa using h2
 | .ro x :: l, k, r, q, h => by
  simp only [itRef] at h
  split at h
  ·rename_i e
   cases h
   have : x = r := by simpa [Nat.beq_eq] using e
   subst this
   simp
  ·obtain ⟨h1, h2⟩ := itRef_some h
   refine ⟨by omega, ?_⟩
   rw [show q - k = (q - (k + 1)) + 1 by omega]
   simpa using h2
 | .view x :: l, k, r, q, h => by
  simp only [itRef] at h
  obtain ⟨h1, h2⟩ := itRef_some h
  refine ⟨by omega, ?_⟩
  rw [show q - k = (q - (k + 1)) + 1 by omega]
  simpa using h2

theorem itView_some : ∀ {its : List It} {k j q : Nat}, itView its k j = some q → k ≤ q ∧ its[q - k]? = some (.view j)
 | [], k, r, q, h => by cases h
 | .view x :: l, k, r, q, h => by
  simp only [itView] at h
  split at h
  ·rename_i e
   cases h
   have : x = r := by simpa [Nat.beq_eq] using e
   subst this
   simp
  ·obtain ⟨h1, h2⟩ := itView_some h
   refine ⟨by omega, ?_⟩
   rw [show q - k = (q - (k + 1)) + 1 by omega]
   simpa using h2
 | .own x :: l, k, r, q, h => by
  simp only [itView] at h
  obtain ⟨h1, h2⟩ := itView_some h
  refine ⟨by omega, ?_⟩
  rw [show q - k = (q - (k + 1)) + 1 by omega]
  simpa using h2
 | .ro x :: l, k, r, q, h => by
  simp only [itView] at h
  obtain ⟨h1, h2⟩ := itView_some h
  refine ⟨by omega, ?_⟩
  rw [show q - k = (q - (k + 1)) + 1 by omega]
  simpa using h2

theorem extS_get {H : List Blk} {args : List AV} {its0 : List It} : ∀ {its : List It} {ext : List Blk}, extS H args its0 its = some ext → ext.length = its.length ∧ ∀ (i : Nat) (it : It), its[i]? = some it → ∃ b, itBlk H args it = some b ∧ ext[i]? = some (b.ren (itRef its0 0))
 | [], ext, h => by cases h; exact ⟨rfl, fun i it hi => by simp at hi⟩
 | it :: l, ext, h => by
  unfold extS at h
  split at h
  ·rename_i b l' hb hl
   cases h
   obtain ⟨h1, h2⟩ := extS_get hl
   refine ⟨by simp [h1], fun i it' hi => ?_⟩
   cases i with
   | zero => simp at hi; subst hi; exact ⟨b, hb, rfl⟩
   | succ i => simpa using h2 i it' (by simpa using hi)
  ·cases h

theorem ownRefs_mem : ∀ {its : List It} {i r : Nat}, its[i]? = some (.own r) → r ∈ ownRefs its
 | [], i, r, h => by simp at h
 | it :: l, 0, r, h => by simp at h; subst h; simp [ownRefs]
 | it :: l, i + 1, r, h => by
  have := ownRefs_mem (its := l) (i := i) (r := r) (by simpa using h)
  cases it <;> simp [ownRefs, this]

theorem ownRefs_inj : ∀ {its : List It}, nodupN (ownRefs its) = true → ∀ {i j r : Nat}, its[i]? = some (.own r) → its[j]? = some (.own r) → i = j
 | [], _, i, j, r, h, _ => by simp at h
 | it :: l, hn, i, j, r, hi, hj => by
  have hl : nodupN (ownRefs l) = true := by
   cases it with
   | own x => simp only [ownRefs, nodupN, Bool.and_eq_true] at hn; exact hn.2
   | ro x => exact hn
   | view x => exact hn
  cases i with
  | zero =>
   cases j with
   | zero => rfl
   | succ j =>
    simp at hi hj
    subst hi
    simp only [ownRefs, nodupN, Bool.and_eq_true, Bool.not_eq_true'] at hn
    have := memN_iff.2 (ownRefs_mem hj)
    rw [hn.1] at this; cases this
  | succ i =>
   cases j with
   | zero =>
    simp at hi hj
    subst hj
    simp only [ownRefs, nodupN, Bool.and_eq_true, Bool.not_eq_true'] at hn
    have := memN_iff.2 (ownRefs_mem hi)
    rw [hn.1] at this; cases this
   | succ j => rw [ownRefs_inj hl (i := i) (j := j) (by simpa using hi) (by simpa using hj)]

theorem apartN_mem : ∀ {l m : List Nat}, apartN l m = true → ∀ x, x ∈ l → x ∉ m
 | [], _, _, x, h => by cases h
 | y :: l, m, h, x, hx => by
  simp only [apartN, Bool.and_eq_true, Bool.not_eq_true'] at h
  rcases List.mem_cons.1 hx with rfl | hx
  ·intro hm
   have := memN_iff.2 hm
   rw [h.1] at this; cases this
  ·exact apartN_mem h.2 x hx

theorem roRefs_ro {args : List AV} : ∀ {its : List It} {i r : Nat}, its[i]? = some (.ro r) → r ∈ roRefs args its
 | [], i, r, h => by simp at h
 | it :: l, 0, r, h => by simp at h; subst h; simp [roRefs]
 | it :: l, i + 1, r, h => by
  have := roRefs_ro (args := args) (its := l) (i := i) (r := r) (by simpa using h)
  cases it <;> simp only [roRefs] <;> first | (exact List.mem_cons_of_mem _ this) | (split <;> first | exact List.mem_cons_of_mem _ this | exact this) | exact this

theorem roRefs_view {args : List AV} : ∀ {its : List It} {i j r off len : Nat}, its[i]? = some (.view j) → args[j]? = some (.one (.e (.sl r off len))) → r ∈ roRefs args its
 | [], i, _, r, _, _, h, _ => by simp at h
 | it :: l, 0, j, r, off, len, h, ha => by simp at h; subst h; simp [roRefs, ha]
 | it :: l, i + 1, j, r, off, len, h, ha => by
  have := roRefs_view (args := args) (its := l) (i := i) (j := j) (by simpa using h) ha
  cases it <;> simp only [roRefs] <;> first | (exact List.mem_cons_of_mem _ this) | (split <;> first | exact List.mem_cons_of_mem _ this | exact this) | exact this

theorem setOwn_get {g : Nat → Option Nat} : ∀ {its : List It} {ext' H : List Blk}, its.length ≤ ext'.length → nodupN (ownRefs its) = true →
  (setOwn g its ext' H).length = H.length + (ext'.length - its.length) ∧
  (∀ r, r < H.length → r ∉ ownRefs its → (setOwn g its ext' H)[r]? = H[r]?) ∧
  (∀ (i r : Nat) (b : Blk), its[i]? = some (.own r) → r < H.length → ext'[i]? = some b → (setOwn g its ext' H)[r]? = some (b.ren g)) ∧
  (∀ i, its.length ≤ i → (setOwn g its ext' H)[H.length + (i - its.length)]? = (ext'[i]?).map (Blk.ren g))
 | [], ext', H, _, _ => by
  refine ⟨by simp [setOwn], fun r hr _ => by simp [setOwn, List.getElem?_append_left hr], fun i r b h => by simp at h, fun i _ => ?_⟩
  simp [setOwn, List.getElem?_append_right]
 | it :: l, [], H, h, _ => by simp at h
 | .ro x :: l, b0 :: ext', H, h, hn => by
  obtain ⟨h1, h2, h3, h4⟩ := setOwn_get (g := g) (its := l) (ext' := ext') (H := H) (by simpa using h) hn
  refine ⟨by simp only [setOwn, h1, List.length_cons]; omega, h2, fun i r b hi hr hb => ?_, fun i hi => ?_⟩
  ·cases i with
   | zero => simp at hi
   | succ i => exact h3 i r b (by simpa using hi) hr (by simpa using hb)
  ·cases i with
   | zero => simp at hi
   | succ i =>
    have := h4 i (by simpa using hi)
    simp only [setOwn, List.length_cons, List.getElem?_cons_succ]
    rw [← this]; congr 1; omega
 | .view x :: l, b0 :: ext', H, h, hn => by
  obtain ⟨h1, h2, h3, h4⟩ := setOwn_get (g := g) (its := l) (ext' := ext') (H := H) (by simpa using h) hn
  refine ⟨by simp only [setOwn, h1, List.length_cons]; omega, h2, fun i r b hi hr hb => ?_, fun i hi => ?_⟩
  ·cases i with
   | zero => simp at hi
   | succ i => exact h3 i r b (by simpa using hi) hr (by simpa using hb)
  ·cases i with
   | zero => simp at hi
   | succ i =>
    have := h4 i (by simpa using hi)
    simp only [setOwn, List.length_cons, List.getElem?_cons_succ]
    rw [← this]; congr 1; omega
 | .own x :: l, b0 :: ext', H, h, hn => by
  simp only [ownRefs, nodupN, Bool.and_eq_true, Bool.not_eq_true'] at hn
  have hx : x ∉ ownRefs l := by
   intro hm
   have := memN_iff.2 hm
   rw [hn.1] at this; cases this
  obtain ⟨h1, h2, h3, h4⟩ := setOwn_get (g := g) (its := l) (ext' := ext') (H := H.set x (b0.ren g)) (by simpa using h) hn.2
  simp only [List.length_set] at h1 h2 h3 h4
  refine ⟨by simp only [setOwn, h1, List.length_cons]; omega, fun r hr hno => ?_, fun i r b hi hr hb => ?_, fun i hi => ?_⟩
  ·simp only [ownRefs, List.mem_cons, not_or] at hno
   simp only [setOwn]
   rw [h2 r hr hno.2, List.getElem?_set_ne (Ne.symm hno.1)]
  ·cases i with
   | zero =>
    simp at hi hb
    subst hi; subst hb
    simp only [setOwn]
    rw [h2 x hr hx, List.getElem?_set_self hr]
   | succ i => exact h3 i r b (by simpa using hi) hr (by simpa using hb)
  ·cases i with
   | zero => simp at hi
   | succ i =>
    have := h4 i (by simpa using hi)
    simp only [setOwn, List.length_cons, List.getElem?_cons_succ]
    rw [← this]; congr 1; omega

theorem itOk_get {H : List Blk} : ∀ {its : List It} {ext' : List Blk}, itOk H its ext' → its.length ≤ ext'.length ∧
  (∀ (i r : Nat), its[i]? = some (.own r) → ∃ b, ext'[i]? = some b ∧ ∀ R ys o, b = .row R ys o → o = true ∧ ∃ xs own, H[r]? = some (.row R xs own) ∧ xs.length = ys.length) ∧
  (∀ (i r : Nat), its[i]? = some (.ro r) → ∃ R xs own ys o, H[r]? = some (.row R xs own) ∧ ext'[i]? = some (.row R ys o) ∧ xs.length = ys.length) ∧
  (∀ (i : Nat) (R : RC) (ys : List R.A), its.length ≤ i → ext'[i]? ≠ some (.row R ys false))
 | [], ext', h => by
  refine ⟨by simp, fun i r hi => by simp at hi, fun i r hi => by simp at hi, fun i R ys _ he => ?_⟩
  have key : ∀ (l : List Blk) (i : Nat), newOk l → l[i]? ≠ some (.row R ys false) := by
   intro l
   induction l with
   | nil => intro i _; simp
   | cons b l ih =>
    intro i hn
    cases i with
    | zero =>
     intro hb
     simp at hb
     subst hb
     exact hn
    | succ i =>
     rw [List.getElem?_cons_succ]
     refine ih i ?_
     cases b with
     | cells _ => exact hn
     | dead => exact hn
     | row R xs o => cases o with
      | true => exact hn
      | false => exact hn.elim
  exact key ext' i h he
 | .own r :: its, b :: ext', h => by
  obtain ⟨h1, h2, h3, h4⟩ := itOk_get h.2
  refine ⟨by simpa using h1, fun i r' hi => ?_, fun i r' hi => ?_, fun i R ys hi => ?_⟩
  ·cases i with
   | zero =>
    simp at hi
    subst hi
    refine ⟨b, rfl, fun R ys o hb => ?_⟩
    subst hb
    have h0 := h.1
    cases hr : H[r]? with
    | none => rw [hr] at h0; exact h0.elim
    | some c =>
     rw [hr] at h0
     cases c with
     | cells l => exact h0.elim
     | dead => exact h0.elim
     | row R' xs own =>
      obtain ⟨k1, k2, k3⟩ := h0
      subst k2
      exact ⟨k1, xs, own, rfl, k3⟩
   | succ i => simpa using h2 i r' (by simpa using hi)
  ·cases i with
   | zero => simp at hi
   | succ i => simpa using h3 i r' (by simpa using hi)
  ·cases i with
   | zero => simp at hi
   | succ i => simpa using h4 i R ys (by simpa using hi)
 | .ro r :: its, b :: ext', h => by
  obtain ⟨h1, h2, h3, h4⟩ := itOk_get h.2
  refine ⟨by simpa using h1, fun i r' hi => ?_, fun i r' hi => ?_, fun i R ys hi => ?_⟩
  ·cases i with
   | zero => simp at hi
   | succ i => simpa using h2 i r' (by simpa using hi)
  ·cases i with
   | zero =>
    simp at hi
    subst hi
    have h0 := h.1
    cases hr : H[r]? with
    | none => rw [hr] at h0; exact h0.elim
    | some c =>
     rw [hr] at h0
     cases c with
     | cells l => exact h0.elim
     | dead => exact h0.elim
     | row R' xs own =>
      cases b with
      | cells l => exact h0.elim
      | dead => exact h0.elim
      | row R2 ys o =>
       obtain ⟨k2, k3⟩ := h0
       subst k2
       exact ⟨R', xs, own, ys, o, rfl, rfl, k3⟩
   | succ i => simpa using h3 i r' (by simpa using hi)
  ·cases i with
   | zero => simp at hi
   | succ i => simpa using h4 i R ys (by simpa using hi)
 | .view r :: its, b :: ext', h => by
  obtain ⟨h1, h2, h3, h4⟩ := itOk_get (its := its) h
  refine ⟨by simpa using h1, fun i r' hi => ?_, fun i r' hi => ?_, fun i R ys hi => ?_⟩
  ·cases i with
   | zero => simp at hi
   | succ i => simpa using h2 i r' (by simpa using hi)
  ·cases i with
   | zero => simp at hi
   | succ i => simpa using h3 i r' (by simpa using hi)
  ·cases i with
   | zero => simp at hi
   | succ i => simpa using h4 i R ys (by simpa using hi)
 | .own _ :: _, [], h => h.elim
 | .ro _ :: _, [], h => h.elim
 | .view _ :: _, [], h => h.elim

end Go.Proofs.YtghdgncfcfdlfaaGreatDoor
