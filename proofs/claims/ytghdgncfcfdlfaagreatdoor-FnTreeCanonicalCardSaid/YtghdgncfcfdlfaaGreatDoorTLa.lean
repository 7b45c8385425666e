/- Abstract values, blocks and states for runs of the model, and their relation to the model's world. Conditions: none. -/
import Derived.RowKit3
import Derived.Below
import Derived.Laws.OwnMore
import Derived.Laws.Entries
import Derived.Laws.CopyRow
import Derived.Laws.Rows
import Derived.Control
namespace Go.Proofs.YtghdgncfcfdlfaaGreatDoor
open Go

/-- closed cell values -/
inductive CV where
 | int (k : IntKind) (n : Int)
 | bool (b : Bool)
 | str (s : List UInt8)

def CV.val : CV → Value
 | .int k n => .int k n
 | .bool b => .bool b
 | .str s => .string ⟨⟨s⟩⟩

structure Ver where
 node : Int
 value : Int
 tm : Int
 deriving DecidableEq
structure Acc where
 who : Int
 node : Int
 write : Bool
 deriving DecidableEq
structure Rcd where
 who : Int
 node : Int
 value : Int
 fin : Bool
 deriving DecidableEq
structure Nod where
 parent : Int
 name : List UInt8
 value : Int
 deriving DecidableEq
structure Lck where
 who : Int
 node : Int
 mode : Int
 deriving DecidableEq
structure Edt where
 kind : Int
 path : List UInt8
 value : Int
 deriving DecidableEq

/-- element codes of rows -/
inductive RC where
 | int | u8 | bool | str | ver | acc | rcd | nod | lck | edt
 deriving DecidableEq

abbrev RC.A : RC → Type
 | .int => Int
 | .u8 => Int
 | .bool => Bool
 | .str => List UInt8
 | .ver => Ver
 | .acc => Acc
 | .rcd => Rcd
 | .nod => Nod
 | .lck => Lck
 | .edt => Edt

def RC.sz : RC → Nat
 | .int => 1
 | .u8 => 1
 | .bool => 1
 | .str => 1
 | .ver => 3
 | .acc => 3
 | .rcd => 4
 | .nod => 3
 | .lck => 3
 | .edt => 3

def RC.enc : (R : RC) → R.A → List CV
 | .int, n => [.int .i64 n]
 | .u8, n => [.int .u8 n]
 | .bool, b => [.bool b]
 | .str, s => [.str s]
 | .ver, v => [.int .i64 v.node, .int .i64 v.value, .int .i64 v.tm]
 | .acc, v => [.int .i64 v.who, .int .i64 v.node, .bool v.write]
 | .rcd, v => [.int .i64 v.who, .int .i64 v.node, .int .i64 v.value, .bool v.fin]
 | .nod, v => [.int .i64 v.parent, .str v.name, .int .i64 v.value]
 | .lck, v => [.int .i64 v.who, .int .i64 v.node, .int .i64 v.mode]
 | .edt, v => [.int .i64 v.kind, .str v.path, .int .i64 v.value]

def RC.dec : (R : RC) → List CV → Option R.A
 | .int, [.int .i64 n] => some n
 | .u8, [.int .u8 n] => some n
 | .bool, [.bool b] => some b
 | .str, [.str s] => some s
 | .ver, [.int .i64 a, .int .i64 b, .int .i64 c] => some ⟨a, b, c⟩
 | .acc, [.int .i64 a, .int .i64 b, .bool c] => some ⟨a, b, c⟩
 | .rcd, [.int .i64 a, .int .i64 b, .int .i64 c, .bool d] => some ⟨a, b, c, d⟩
 | .nod, [.int .i64 a, .str b, .int .i64 c] => some ⟨a, b, c⟩
 | .lck, [.int .i64 a, .int .i64 b, .int .i64 c] => some ⟨a, b, c⟩
 | .edt, [.int .i64 a, .str b, .int .i64 c] => some ⟨a, b, c⟩
 | _, _ => none

def RC.dft : (R : RC) → R.A
 | .int => (0 : Int)
 | .u8 => (0 : Int)
 | .bool => false
 | .str => ([] : List UInt8)
 | .ver => (⟨0, 0, 0⟩ : Ver)
 | .acc => (⟨0, 0, false⟩ : Acc)
 | .rcd => (⟨0, 0, 0, false⟩ : Rcd)
 | .nod => (⟨0, [], 0⟩ : Nod)
 | .lck => (⟨0, 0, 0⟩ : Lck)
 | .edt => (⟨0, [], 0⟩ : Edt)

theorem RC.enc_len (R : RC) (x : R.A) : (R.enc x).length = R.sz := by cases R <;> rfl
theorem RC.sz_pos (R : RC) : 0 < R.sz := by cases R <;> decide
theorem RC.dec_enc (R : RC) (l : List CV) (x : R.A) (h : R.dec l = some x) : R.enc x = l := by
 unfold RC.dec at h
 split at h <;> first | (cases h; rfl) | (cases h)

/-- values of one cell -/
inductive CE where
 | c (x : CV)
 | p (r o : Nat)
 | rp (r k o : Nat)
 | sl (r off len : Nat)
 | nsl
 | nilp
 | nif
 | err (b : Bool)
 | gp (g k : Nat)
 | sp (r T : Nat)
 | sd (r : Nat)
 | bsl (r len : Nat)
 | junk

inductive AG where
 | e (x : CE)
 | agg (l : List CE)
 | arr (R : RC) (xs : List R.A)
 | fn (f : Nat) (cap : List CE)

inductive AV where
 | one (x : AG)
 | tup (l : List AG)

inductive Blk where
 | cells (l : List CE)
 | row (R : RC) (xs : List R.A) (own : Bool)
 | dead

abbrev Tm := List (Nat × AV)

structure St where
 T : Tm
 H : List Blk

structure Loc where
 b : Nat
 off : Nat
 cap : Nat

/-- two lists, element by element -/
def All2 {α β : Type} (R : α → β → Prop) : List α → List β → Prop
 | [], [] => True
 | a :: l, b :: m => R a b ∧ All2 R l m
 | _, _ => False

theorem All2.length {α β : Type} {R : α → β → Prop} : ∀ {l : List α} {m : List β}, All2 R l m → l.length = m.length
 | [], [], _ => rfl
 | _ :: _, _ :: _, h => by simp [All2.length h.2]
 | [], _ :: _, h => h.elim
 | _ :: _, [], h => h.elim

theorem All2.mono {α β : Type} {R S : α → β → Prop} (hrs : ∀ a b, R a b → S a b) : ∀ {l : List α} {m : List β}, All2 R l m → All2 S l m
 | [], [], _ => trivial
 | _ :: _, _ :: _, h => ⟨hrs _ _ h.1, All2.mono hrs h.2⟩
 | [], _ :: _, h => h.elim
 | _ :: _, [], h => h.elim

theorem All2.get {α β : Type} {R : α → β → Prop} : ∀ {l : List α} {m : List β}, All2 R l m → ∀ (i : Nat) (a : α), l[i]? = some a → ∃ b, m[i]? = some b ∧ R a b
 | _ :: _, b :: _, h, 0, a, ha => ⟨b, rfl, by simp at ha; subst ha; exact h.1⟩
 | _ :: _, _ :: _, h, i + 1, a, ha => by simpa using All2.get h.2 i a (by simpa using ha)
 | [], [], _, i, a, ha => by simp at ha
 | [], _ :: _, h, _, _, _ => h.elim
 | _ :: _, [], h, _, _, _ => h.elim

theorem All2.of_get {α β : Type} {R : α → β → Prop} : ∀ {l : List α} {m : List β}, l.length = m.length → (∀ (i : Nat) (a : α) (b : β), l[i]? = some a → m[i]? = some b → R a b) → All2 R l m
 | [], [], _, _ => trivial
 | a :: l, b :: m, hl, h => ⟨h 0 a b rfl rfl, All2.of_get (by simpa using hl) fun i x y hx hy => h (i + 1) x y (by simpa using hx) (by simpa using hy)⟩
 | [], _ :: _, hl, _ => by simp at hl
 | _ :: _, [], hl, _ => by simp at hl

theorem All2.append {α β : Type} {R : α → β → Prop} : ∀ {l l' : List α} {m m' : List β}, All2 R l m → All2 R l' m' → All2 R (l ++ l') (m ++ m')
 | [], _, [], _, _, h' => h'
 | _ :: _, _, _ :: _, _, h, h' => ⟨h.1, All2.append h.2 h'⟩
 | [], _, _ :: _, _, h, _ => h.elim
 | _ :: _, _, [], _, h, _ => h.elim

theorem All2.set {α β : Type} {R : α → β → Prop} {l : List α} {m : List β} (h : All2 R l m) (i : Nat) (a : α) (b : β) (hab : R a b) : All2 R (l.set i a) (m.set i b) := by
 refine All2.of_get (by simp [h.length]) fun j x y hx hy => ?_
 rw [List.getElem?_set] at hx hy
 by_cases hij : i = j
 ·subst hij
  by_cases hlt : i < l.length
  ·have hlt' : i < m.length := by rw [← h.length]; exact hlt
   simp [hlt] at hx; simp [hlt'] at hy
   subst hx; subst hy; exact hab
  ·simp [hlt] at hx
 ·simp [hij] at hx hy
  obtain ⟨y', hy', hr⟩ := h.get j x hx
  rw [hy] at hy'; injection hy' with e; subst e; exact hr

theorem All2.extract {α β : Type} {R : α → β → Prop} {l : List α} {m : List β} (h : All2 R l m) (i n : Nat) : All2 R ((l.drop i).take n) ((m.drop i).take n) := by
 refine All2.of_get (by simp [h.length]) fun j x y hx hy => ?_
 rw [List.getElem?_take] at hx hy
 by_cases hj : j < n
 ·simp [hj] at hx hy
  obtain ⟨y', hy', hr⟩ := h.get _ x hx
  rw [hy] at hy'; injection hy' with e; subst e; exact hr
 ·simp [hj] at hx

theorem All2.map {α β γ : Type} {R : α → β → Prop} {S : γ → β → Prop} (f : α → γ) (hf : ∀ a b, R a b → S (f a) b) : ∀ {l : List α} {m : List β}, All2 R l m → All2 S (l.map f) m
 | [], [], _ => trivial
 | _ :: _, _ :: _, h => ⟨hf _ _ h.1, All2.map f hf h.2⟩
 | [], _ :: _, h => h.elim
 | _ :: _, [], h => h.elim

/-- a slice without room is nil -/
def noB (v : Value) : Prop := ∀ a n, v = .slice a n 0 → a = none

/-- what a value of one cell stands for -/
def CE.R (θ : List Loc) (H : List Blk) : CE → Value → Prop
 | .c x, v => v = x.val
 | .p r o, v => ∃ l, θ[r]? = some l ∧ v = .pointer (some ⟨l.b, o, none⟩)
 | .rp r k o, v => ∃ l, θ[r]? = some l ∧ ∀ R xs own, H[r]? = some (.row R xs own) → k < xs.length ∧ v = .pointer (some ⟨l.b, l.off + k * R.sz + o, none⟩)
 | .sl r off len, v => ∃ l, θ[r]? = some l ∧ ∀ R xs own, H[r]? = some (.row R xs own) → off + len ≤ xs.length ∧ ∃ a, v = .slice a len (l.cap - off) ∧ (off < l.cap → a = some ⟨l.b, l.off + off * R.sz, none⟩)
 | .nsl, v => v = .slice none 0 0
 | .nilp, v => v = .pointer none
 | .nif, v => v = .nilIface
 | .err b, v => if b = true then ∃ t x, v = .iface t x else v = .nilIface
 | .gp g k, v => v = .pointer (some ⟨g, k, none⟩)
 | .sp r _, v => ∃ l, θ[r]? = some l ∧ (v = .pointer none ∨ v = .pointer (some ⟨l.b, 0, none⟩))
 | .sd r, v => ∃ l, θ[r]? = some l ∧ (∃ a, v = .pointer a) ∧ ∀ R xs own, H[r]? = some (.row R xs own) → 0 < xs.length → v = .pointer (some ⟨l.b, l.off, none⟩)
 | .bsl r len, v => noB v ∧ ∃ l, θ[r]? = some l ∧ ∀ R xs own, H[r]? = some (.row R xs own) → len ≤ xs.length ∧ ∃ a, v = .slice a len l.cap ∧ (0 < l.cap → a = some ⟨l.b, l.off, none⟩)
 | .junk, _ => True

def AG.R (θ : List Loc) (H : List Blk) : AG → Value → Prop
 | .e x, v => x.R θ H v
 | .agg l, v => ∃ vs : List Value, v = .agg ⟨vs⟩ ∧ All2 (CE.R θ H) l vs
 | .arr R xs, v => v = .agg ⟨(xs.flatMap R.enc).map CV.val⟩
 | .fn f cap, v => ∃ vs : List Value, v = .func (.func f) #[] ⟨vs⟩ ∧ All2 (CE.R θ H) cap vs

def AV.R (θ : List Loc) (H : List Blk) : AV → Value → Prop
 | .one x, v => x.R θ H v
 | .tup l, v => ∃ vs : List Value, v = .tuple ⟨vs⟩ ∧ All2 (AG.R θ H) l vs

/-- a strings.Builder's block is of its type -/
def spT : List CE → TypeId → Prop
 | .sp _ T :: _, e => e = T
 | _, _ => True

/-- what a block holds -/
def BlkR (θ : List Loc) (H : List Blk) (w : World) (l : Loc) : Blk → Prop
 | .cells cs => ∃ vs e, w.heap[l.b]? = some (.cells ⟨vs⟩ e (0, 0)) ∧ All2 (CE.R θ H) cs vs ∧ spT cs e
 | .row R xs own => xs.length ≤ l.cap ∧ l.cap ≤ maxLen ∧
   (∀ (k : Nat) (x : R.A), xs[k]? = some x → ∀ (o : Nat) (y : CV), (R.enc x)[o]? = some y → w.cell? ⟨l.b, l.off + k * R.sz + o, none⟩ = some y.val) ∧
   (own = true → l.off = 0 ∧ (0 < l.cap → ∃ vs e, w.heap[l.b]? = some (.cells vs e (0, 0)) ∧ vs.size = l.cap * R.sz ∧ (R = .u8 → e = 5)))
 | .dead => True

def Blk.owns (l : Loc) : Blk → Prop
 | .cells _ => True
 | .row _ _ own => own = true ∧ 0 < l.cap
 | .dead => False

/-- what a run is held against: the world at the start, which of its blocks may be written, where the blocks that came in lie, how many slots there are -/
structure Ctx where
 w0 : World
 X : Nat → Prop
 θ0 : List Loc
 nt : Nat
 m : Nat

structure Frm (w0 : World) (X : Nat → Prop) (w : World) : Prop where
 os : w.os = w0.os
 tape : w.tape = w0.tape
 output : w.output = w0.output
 size : w0.heap.size ≤ w.heap.size
 block : ∀ b, b < w0.heap.size → ¬ X b → w.heap[b]? = w0.heap[b]?

/-- the program; its package variables that are read as tables; the codes of the element types -/
structure Env where
 P : Program
 G : Nat → Option ((R : RC) × List R.A)
 rt : Nat → Option RC
 K : World → Prop

structure HRel (E : Env) (w0 : World) (X : Nat → Prop) (θ0 : List Loc) (θ : List Loc) (H : List Blk) (w : World) : Prop where
 len : θ.length = H.length
 pre : θ0 <+: θ
 bl : ∀ (r : Nat) (l : Loc) (b : Blk), θ[r]? = some l → H[r]? = some b → BlkR θ H w l b
 own : ∀ (r : Nat) (l : Loc) (b : Blk), θ[r]? = some l → H[r]? = some b → b.owns l → X l.b ∨ w0.heap.size ≤ l.b
 giv : ∀ (r : Nat) (l : Loc) (R : RC) (xs : List R.A), θ[r]? = some l → H[r]? = some (.row R xs false) → xs ≠ [] → l.b < w0.heap.size ∧ ¬ X l.b
 dis : ∀ (r r' : Nat) (l l' : Loc) (b b' : Blk), r ≠ r' → θ[r]? = some l → θ[r']? = some l' → H[r]? = some b → H[r']? = some b' → b.owns l → b'.owns l' → l.b ≠ l'.b
 fr : Frm w0 X w
 gl : ∀ (g : Nat) (R : RC) (xs : List R.A), E.G g = some ⟨R, xs⟩ → g < w0.heap.size ∧ ¬ X g ∧ ∀ (k : Nat) (x : R.A), xs[k]? = some x → ∀ (o : Nat) (y : CV), (R.enc x)[o]? = some y → w.cell? ⟨g, k * R.sz + o, none⟩ = some y.val
 kw : ∀ w', Frm w0 X w' → E.K w'

def look : Tm → Nat → Option AV
 | [], _ => none
 | (s, v) :: T, i => if Nat.beq s i then some v else look T i

structure Rel (E : Env) (Γ : Ctx) (θ : List Loc) (st : St) (a : Act) (w : World) : Prop where
 h : HRel E Γ.w0 Γ.X Γ.θ0 θ st.H w
 nt : a.tmps.size = Γ.nt
 df : a.defers = []
 ml : Γ.θ0.length = Γ.m
 tm : ∀ s v, look st.T s = some v → v.R θ st.H (a.tmps.getD s undef)

/-- later blocks against earlier ones: rows keep their lengths -/
def HLe (H H' : List Blk) : Prop := H.length ≤ H'.length ∧ ∀ r, r < H.length → ∀ R ys own', H'[r]? = some (.row R ys own') → ∃ xs own, H[r]? = some (.row R xs own) ∧ xs.length = ys.length

theorem HLe.refl (H : List Blk) : HLe H H := ⟨Nat.le_refl _, fun _ _ _ ys own' h => ⟨ys, own', h, rfl⟩⟩
theorem HLe.snoc (H : List Blk) (b : Blk) : HLe H (H ++ [b]) := by
 refine ⟨by simp, fun r hr R ys own' h => ⟨ys, own', ?_, rfl⟩⟩
 rw [List.getElem?_append_left hr] at h
 exact h
theorem HLe.trans {A B C : List Blk} (h : HLe A B) (k : HLe B C) : HLe A C := by
 refine ⟨Nat.le_trans h.1 k.1, fun r hr R ys own' hc => ?_⟩
 obtain ⟨xs, own, hb, e⟩ := k.2 r (Nat.lt_of_lt_of_le hr h.1) R ys own' hc
 obtain ⟨zs, own2, ha, e2⟩ := h.2 r hr R xs own hb
 exact ⟨zs, own2, ha, e2.trans e⟩
theorem HLe.set_row (H : List Blk) (r : Nat) (R : RC) (xs ys : List R.A) (own own' : Bool) (h : H[r]? = some (.row R xs own)) (hl : xs.length = ys.length) : HLe H (H.set r (.row R ys own')) := by
 refine ⟨by simp, fun q hq S zs own2 hz => ?_⟩
 rw [List.getElem?_set] at hz
 by_cases e : r = q
 ·subst e
  have hz' : Blk.row R ys own' = .row S zs own2 := by simpa [hq] using hz
  cases hz'
  exact ⟨xs, own, h, hl⟩
 ·simp [e] at hz
  exact ⟨zs, own2, hz, rfl⟩
theorem HLe.set_other (H : List Blk) (r : Nat) (b : Blk) (hb : ∀ R xs own, b ≠ .row R xs own) : HLe H (H.set r b) := by
 refine ⟨by simp, fun q hq S zs own2 hz => ?_⟩
 rw [List.getElem?_set] at hz
 by_cases e : r = q
 ·subst e
  have hz' : b = .row S zs own2 := by simpa [hq] using hz
  exact absurd hz' (hb _ _ _)
 ·simp [e] at hz
  exact ⟨zs, own2, hz, rfl⟩

theorem getElem?_append_of {α : Type} {a b : List α} {r : Nat} {x : α} (h : a[r]? = some x) : (a ++ b)[r]? = some x := by
 have : r < a.length := by
  rcases Nat.lt_or_ge r a.length with h' | h'
  ·exact h'
  ·rw [List.getElem?_eq_none h'] at h; cases h
 rw [List.getElem?_append_left this, h]

theorem lt_of_getElem? {α : Type} {a : List α} {r : Nat} {x : α} (h : a[r]? = some x) : r < a.length := by
 rcases Nat.lt_or_ge r a.length with h' | h'
 ·exact h'
 ·rw [List.getElem?_eq_none h'] at h; cases h

theorem CE.R_mono {θ θ' : List Loc} {H H' : List Blk} (hlen : θ.length = H.length) (hle : HLe H H') {x : CE} {v : Value} (h : x.R θ H v) : x.R (θ ++ θ') H' v := by
 cases x with
 | c x => exact h
 | p r o => obtain ⟨l, hl, hv⟩ := h; exact ⟨l, getElem?_append_of hl, hv⟩
 | rp r k o =>
  obtain ⟨l, hl, hv⟩ := h
  refine ⟨l, getElem?_append_of hl, fun R ys own' hr => ?_⟩
  obtain ⟨xs, own, hx, e⟩ := hle.2 r (hlen ▸ lt_of_getElem? hl) R ys own' hr
  have := hv R xs own hx
  rw [← e]; exact this
 | sl r off len =>
  obtain ⟨l, hl, hv⟩ := h
  refine ⟨l, getElem?_append_of hl, fun R ys own' hr => ?_⟩
  obtain ⟨xs, own, hx, e⟩ := hle.2 r (hlen ▸ lt_of_getElem? hl) R ys own' hr
  have := hv R xs own hx
  rw [← e]; exact this
 | nsl => exact h
 | nilp => exact h
 | nif => exact h
 | err b => exact h
 | gp g k => exact h
 | sp r T => obtain ⟨l, hl, hv⟩ := h; exact ⟨l, getElem?_append_of hl, hv⟩
 | sd r =>
  obtain ⟨l, hl, h1, hv⟩ := h
  refine ⟨l, getElem?_append_of hl, h1, fun R ys own' hr h0 => ?_⟩
  obtain ⟨xs, own, hx, e⟩ := hle.2 r (hlen ▸ lt_of_getElem? hl) R ys own' hr
  exact hv R xs own hx (by omega)
 | bsl r len =>
  obtain ⟨h0, l, hl, hv⟩ := h
  refine ⟨h0, l, getElem?_append_of hl, fun R ys own' hr => ?_⟩
  obtain ⟨xs, own, hx, e⟩ := hle.2 r (hlen ▸ lt_of_getElem? hl) R ys own' hr
  rw [← e]; exact hv R xs own hx
 | junk => trivial

theorem AG.R_mono {θ θ' : List Loc} {H H' : List Blk} (hlen : θ.length = H.length) (hle : HLe H H') {x : AG} {v : Value} (h : x.R θ H v) : x.R (θ ++ θ') H' v := by
 cases x with
 | e x => exact CE.R_mono hlen hle (x := x) h
 | agg l => obtain ⟨vs, hv, ha⟩ := h; exact ⟨vs, hv, ha.mono fun _ _ => CE.R_mono hlen hle⟩
 | arr R xs => exact h
 | fn f cap => obtain ⟨vs, hv, ha⟩ := h; exact ⟨vs, hv, ha.mono fun _ _ => CE.R_mono hlen hle⟩

theorem AV.R_mono {θ θ' : List Loc} {H H' : List Blk} (hlen : θ.length = H.length) (hle : HLe H H') {x : AV} {v : Value} (h : x.R θ H v) : x.R (θ ++ θ') H' v := by
 cases x with
 | one x => exact AG.R_mono hlen hle (x := x) h
 | tup l => obtain ⟨vs, hv, ha⟩ := h; exact ⟨vs, hv, ha.mono fun _ _ => AG.R_mono hlen hle⟩

theorem AV.R_mono0 {θ : List Loc} {H H' : List Blk} (hlen : θ.length = H.length) (hle : HLe H H') {x : AV} {v : Value} (h : x.R θ H v) : x.R θ H' v := by
 have := AV.R_mono (θ' := []) hlen hle h
 simpa using this
theorem CE.R_mono0 {θ : List Loc} {H H' : List Blk} (hlen : θ.length = H.length) (hle : HLe H H') {x : CE} {v : Value} (h : x.R θ H v) : x.R θ H' v := by
 have := CE.R_mono (θ' := []) hlen hle h
 simpa using this

end Go.Proofs.YtghdgncfcfdlfaaGreatDoor
