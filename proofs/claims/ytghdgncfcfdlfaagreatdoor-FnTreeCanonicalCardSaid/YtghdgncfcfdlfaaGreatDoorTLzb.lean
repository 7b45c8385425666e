/- Arguments that came from outside: numbers, texts, structs and slices of elements, as the relation needs them. Conditions: none. -/
import Derived.Test.YtghdgncfcfdlfaaGreatDoorTLy
import Derived.Deep.Slices
namespace Go.Proofs.YtghdgncfcfdlfaaGreatDoor
open Go Go.ChangeShapes Go.WideShapes Go.ChangeAt Go.RowKit Go.Deep
set_option linter.unusedVariables false

/-- kinds of cells -/
inductive CK where
 | int | u8 | bool | str
 deriving DecidableEq

def CK.td (P : Program) (t : TypeId) : CK → Bool
 | .int => match P.underlying t with
  | some (.int .i64) => true
  | _ => false
 | .u8 => match P.underlying t with
  | some (.int .u8) => true
  | _ => false
 | .bool => match P.underlying t with
  | some .bool => true
  | _ => false
 | .str => match P.underlying t with
  | some .string => true
  | _ => false

def CK.ok : CK → CV → Prop
 | .int, x => ∃ n, x = .int .i64 n ∧ -9223372036854775808 ≤ n ∧ n ≤ 9223372036854775807
 | .u8, x => ∃ n, x = .int .u8 n ∧ 0 ≤ n ∧ n ≤ 255
 | .bool, x => ∃ b, x = .bool b
 | .str, x => ∃ s : List UInt8, x = .str s ∧ s.length ≤ maxLen

def RC.kinds : RC → List CK
 | .int => [.int]
 | .u8 => [.u8]
 | .bool => [.bool]
 | .str => [.str]
 | .ver => [.int, .int, .int]
 | .acc => [.int, .int, .bool]
 | .rcd => [.int, .int, .int, .bool]
 | .nod => [.int, .str, .int]
 | .lck => [.int, .int, .int]
 | .edt => [.int, .str, .int]

/-- an element whose numbers are in range -/
def RC.wf (R : RC) (x : R.A) : Prop := All2 CK.ok R.kinds (R.enc x)

theorem RC.kinds_len (R : RC) : R.kinds.length = R.sz := by cases R <;> rfl

theorem RC.of_kinds (R : RC) (l : List CV) (h : All2 CK.ok R.kinds l) : ∃ x : R.A, R.enc x = l := by
 have h1 : ∀ {k : CK} {l : List CV}, All2 CK.ok [k] l → ∃ a, l = [a] ∧ k.ok a := by
  intro k l h
  match l, h with
  | [a], h => exact ⟨a, rfl, h.1⟩
 have h3 : ∀ {k k' k'' : CK} {l : List CV}, All2 CK.ok [k, k', k''] l → ∃ a b c, l = [a, b, c] ∧ k.ok a ∧ k'.ok b ∧ k''.ok c := by
  intro k k' k'' l h
  match l, h with
  | [a, b, c], h => exact ⟨a, b, c, rfl, h.1, h.2.1, h.2.2.1⟩
 have h4 : ∀ {k k' k'' k3 : CK} {l : List CV}, All2 CK.ok [k, k', k'', k3] l → ∃ a b c d, l = [a, b, c, d] ∧ k.ok a ∧ k'.ok b ∧ k''.ok c ∧ k3.ok d := by
  intro k k' k'' k3 l h
  match l, h with
  | [a, b, c, d], h => exact ⟨a, b, c, d, rfl, h.1, h.2.1, h.2.2.1, h.2.2.2.1⟩
 cases R with
 | int => obtain ⟨a, rfl, n, rfl, _⟩ := h1 h; exact ⟨(n : Int), rfl⟩
 | u8 => obtain ⟨a, rfl, n, rfl, _⟩ := h1 h; exact ⟨(n : Int), rfl⟩
 | bool => obtain ⟨a, rfl, n, rfl⟩ := h1 h; exact ⟨(n : Bool), rfl⟩
 | str => obtain ⟨a, rfl, n, rfl, _⟩ := h1 h; exact ⟨(n : List UInt8), rfl⟩
 | ver => obtain ⟨a, b, c, rfl, ⟨i, rfl, _⟩, ⟨j, rfl, _⟩, ⟨k, rfl, _⟩⟩ := h3 h; exact ⟨(⟨i, j, k⟩ : Ver), rfl⟩
 | acc => obtain ⟨a, b, c, rfl, ⟨i, rfl, _⟩, ⟨j, rfl, _⟩, ⟨k, rfl⟩⟩ := h3 h; exact ⟨(⟨i, j, k⟩ : Acc), rfl⟩
 | rcd => obtain ⟨a, b, c, d, rfl, ⟨i, rfl, _⟩, ⟨j, rfl, _⟩, ⟨k, rfl, _⟩, ⟨m, rfl⟩⟩ := h4 h; exact ⟨(⟨i, j, k, m⟩ : Rcd), rfl⟩
 | nod => obtain ⟨a, b, c, rfl, ⟨i, rfl, _⟩, ⟨j, rfl, _⟩, ⟨k, rfl, _⟩⟩ := h3 h; exact ⟨(⟨i, j, k⟩ : Nod), rfl⟩
 | lck => obtain ⟨a, b, c, rfl, ⟨i, rfl, _⟩, ⟨j, rfl, _⟩, ⟨k, rfl, _⟩⟩ := h3 h; exact ⟨(⟨i, j, k⟩ : Lck), rfl⟩
 | edt => obtain ⟨a, b, c, rfl, ⟨i, rfl, _⟩, ⟨j, rfl, _⟩, ⟨k, rfl, _⟩⟩ := h3 h; exact ⟨(⟨i, j, k⟩ : Edt), rfl⟩

def fieldsTd (P : Program) : Nat → List Field → List CK → Bool
 | _, [], [] => true
 | o, f :: fs, k :: ks => Nat.beq f.offset o && (Nat.beq (P.cellsOf f.type) 1 && (k.td P f.type && fieldsTd P (o + 1) fs ks))
 | _, _, _ => false

/-- a type whose values are elements of a code -/
def RC.td (P : Program) (e : TypeId) (R : RC) : Bool :=
 Nat.beq (P.cellsOf e) R.sz && match P.underlying e with
 | some (.struct fs) => fieldsTd P 0 fs.toList R.kinds
 | _ => match R.kinds with
  | [k] => k.td P e
  | _ => false

section
variable {H : Type} {enc : TypeId × Value → H} {P : Program} {w : World} {base : Nat} {spare : Nat → Bool} {held : Bool}

theorem lit_wf {k : IntKind} {n : Int} (h : (Lit.int k n).wf = true) : k.min ≤ n ∧ n ≤ k.max := by
 simpa [Lit.wf] using h

theorem trod_ck {k : CK} {t : TypeId} {n : Nat} {cs : List Value} {x : DataW H × List MemPlace} (hk : k.td P t = true) (h : DataW.trod enc P w base spare held n t cs = some x) : ∃ c : CV, cs = [c.val] ∧ k.ok c := by
 cases k with
 | int =>
  simp only [CK.td] at hk
  split at hk
  ·rename_i hu
   obtain ⟨m, rfl, _, hw⟩ := DataW.trod_int hu h
   have := lit_wf hw
   exact ⟨.int .i64 m, rfl, m, rfl, by simpa [IntKind.min, IntKind.max, IntKind.signed, IntKind.bits] using this⟩
  ·cases hk
 | u8 =>
  simp only [CK.td] at hk
  split at hk
  ·rename_i hu
   obtain ⟨m, rfl, _, hw⟩ := DataW.trod_int hu h
   have := lit_wf hw
   exact ⟨.int .u8 m, rfl, m, rfl, by simpa [IntKind.min, IntKind.max, IntKind.signed, IntKind.bits] using this⟩
  ·cases hk
 | bool =>
  simp only [CK.td] at hk
  split at hk
  ·rename_i hu
   obtain ⟨b, rfl, _⟩ := DataW.trod_bool hu h
   exact ⟨.bool b, rfl, b, rfl⟩
  ·cases hk
 | str =>
  simp only [CK.td] at hk
  split at hk
  ·rename_i hu
   obtain ⟨s, rfl, _, hs⟩ := DataW.trod_string hu h
   exact ⟨.str s.data.toList, rfl, s.data.toList, rfl, by rw [Array.length_toList]; exact hs⟩
  ·cases hk

theorem trod_fields {n : Nat} {cs : List Value} : ∀ {fs : List Field} {ks : List CK} {o : Nat}, fieldsTd P o fs ks = true → o + ks.length ≤ cs.length →
  (∀ f ∈ fs, ∃ z, DataW.trod enc P w base spare held n f.type ((cs.drop f.offset).take (P.cellsOf f.type)) = some z) → ∃ l, All2 CK.ok ks l ∧ (cs.drop o).take ks.length = l.map CV.val
 | [], [], o, _, _, _ => ⟨[], trivial, by simp⟩
 | f :: fs, k :: ks, o, h, hl, hz => by
  simp only [fieldsTd, Bool.and_eq_true, Nat.beq_eq] at h
  obtain ⟨h1, h2, h3, h4⟩ := h
  obtain ⟨z, hz1⟩ := hz f (by simp)
  rw [h1, h2] at hz1
  obtain ⟨c, hc, hok⟩ := trod_ck h3 hz1
  simp only [List.length_cons] at hl
  obtain ⟨l, hal, hle⟩ := trod_fields (o := o + 1) h4 (by omega) (fun g hg => hz g (by simp [hg]))
  refine ⟨c :: l, ⟨hok, hal⟩, ?_⟩
  have hlt : o < cs.length := by omega
  rw [List.drop_eq_getElem_cons hlt] at hc ⊢
  simp only [List.take_succ_cons, List.take_zero, List.cons.injEq, and_true] at hc
  simp only [List.length_cons, List.take_succ_cons, List.map_cons, hc, hle]
 | [], _ :: _, _, h, _, _ => by simp [fieldsTd] at h
 | _ :: _, [], _, h, _, _ => by simp [fieldsTd] at h

theorem trod_elem {R : RC} {e : TypeId} {n : Nat} {cs : List Value} {x : DataW H × List MemPlace} (h : R.td P e = true) (hx : DataW.trod enc P w base spare held n e cs = some x) : ∃ y : R.A, cs = (R.enc y).map CV.val ∧ R.wf y := by
 simp only [RC.td, Bool.and_eq_true, Nat.beq_eq] at h
 obtain ⟨hc, h⟩ := h
 have fin : ∀ l, All2 CK.ok R.kinds l → cs = l.map CV.val → ∃ y : R.A, cs = (R.enc y).map CV.val ∧ R.wf y := by
  intro l hl e
  obtain ⟨y, hy⟩ := R.of_kinds l hl
  exact ⟨y, by rw [hy, e], by unfold RC.wf; rw [hy]; exact hl⟩
 split at h
 ·rename_i fs hu
  obtain ⟨xs, m, _, _, hl, hlen, hf⟩ := DataW.trod_struct hu hx
  have hkl := R.kinds_len
  obtain ⟨l, h1, h2⟩ := trod_fields (n := m) (enc := enc) (w := w) (base := base) (spare := spare) (held := held) (cs := cs) h (by omega) (fun f hf' => by
   obtain ⟨i, hi⟩ := List.getElem?_of_mem hf'
   have hi' : fs[i]? = some f := by simpa using hi
   have := hf i f hi'
   rw [this]
   have hlt : i < xs.length := by rw [hlen]; have := lt_of_getElem? hi; simpa using this
   exact ⟨_, List.getElem?_eq_getElem hlt⟩)
  rw [List.drop_zero, List.take_of_length_le (by omega)] at h2
  exact fin l h1 h2
 ·split at h
  ·rename_i k hk
   obtain ⟨c, rfl, hok⟩ := trod_ck h hx
   exact fin [c] (by rw [hk]; exact ⟨hok, trivial⟩) rfl
  ·cases h
end

/-- kinds of arguments -/
inductive AK where
 | int
 | str
 | agg (R : RC)
 | sl (R : RC)

def AK.fits (P : Program) (t : TypeId) : AK → Bool
 | .int => CK.td P t .int
 | .str => CK.td P t .str
 | .agg R => (match P.underlying t with
  | some (.struct _) => true
  | _ => false) && R.td P t
 | .sl R => match P.underlying t with
  | some (.slice e) => R.td P e
  | _ => false

def AK.fitAll (P : Program) : List TypeId → List AK → Bool
 | [], [] => true
 | t :: ts, k :: ks => k.fits P t && AK.fitAll P ts ks
 | _, _ => false

/-- arguments as data -/
inductive AD where
 | int (n : Int)
 | str (s : List UInt8)
 | agg (R : RC) (x : R.A)
 | sl (R : RC) (xs : List R.A)

def AD.isK : AD → AK → Prop
 | .int n, .int => -9223372036854775808 ≤ n ∧ n ≤ 9223372036854775807
 | .str s, .str => s.length ≤ maxLen
 | .agg R x, .agg R' => R = R' ∧ R.wf x
 | .sl R xs, .sl R' => R = R' ∧ xs.length ≤ maxLen ∧ ∀ x ∈ xs, R.wf x
 | _, _ => False

def AD.avs : Nat → List AD → List AV
 | _, [] => []
 | k, .int n :: l => .one (.e (.c (.int .i64 n))) :: AD.avs k l
 | k, .str s :: l => .one (.e (.c (.str s))) :: AD.avs k l
 | k, .agg R x :: l => .one (.agg ((R.enc x).map .c)) :: AD.avs k l
 | k, .sl R xs :: l => .one (.e (.sl k 0 xs.length)) :: AD.avs (k + 1) l

def AD.blks : List AD → List Blk
 | [] => []
 | .sl R xs :: l => .row R xs false :: AD.blks l
 | _ :: l => AD.blks l

/-- a row at a place of a world -/
def RowAt (w : World) (l : Loc) : Blk → Prop
 | .row R xs false => xs.length ≤ l.cap ∧ l.cap ≤ maxLen ∧ ∀ (k : Nat) (x : R.A), xs[k]? = some x → ∀ (o : Nat) (y : CV), (R.enc x)[o]? = some y → w.cell? ⟨l.b, l.off + k * R.sz + o, none⟩ = some y.val
 | _ => False

/-- from rows in the world to the relation -/
theorem hrel_rows {E : Env} {W : World} (hG : ∀ (g : Nat) (R : RC) (xs : List R.A), E.G g = some ⟨R, xs⟩ → g < W.heap.size ∧ ∀ (k : Nat) (x : R.A), xs[k]? = some x → ∀ (o : Nat) (y : CV), (R.enc x)[o]? = some y → W.cell? ⟨g, k * R.sz + o, none⟩ = some y.val)
  (hK : ∀ w', Frm W (fun _ => False) w' → E.K w') (θ : List Loc) (H : List Blk) (h : All2 (fun b l => RowAt W l b) H θ) : HRel E W (fun _ => False) θ θ H W := by
 have key : ∀ (r : Nat) (l : Loc) (b : Blk), θ[r]? = some l → H[r]? = some b → ∃ R xs, b = .row R xs false ∧ RowAt W l (.row R xs false) := by
  intro r l b h1 h2
  obtain ⟨l', h3, h4⟩ := h.get r b h2
  rw [h1] at h3; cases h3
  cases b with
  | row R xs own => cases own with
   | false => exact ⟨R, xs, rfl, h4⟩
   | true => exact h4.elim
  | cells _ => exact h4.elim
  | dead => exact h4.elim
 refine ⟨h.length.symm, List.prefix_refl _, fun r l b h1 h2 => ?_, fun r l b h1 h2 ho => ?_, fun r l R' xs' h1 h2 hx => ?_, fun r r' l l' b b' hne h1 h2 h3 h4 ho ho' => ?_, ⟨rfl, rfl, rfl, Nat.le_refl _, fun _ _ _ => rfl⟩, fun g R xs hg => ?_, hK⟩
 ·obtain ⟨R, xs, rfl, k1, k2, k3⟩ := key r l b h1 h2
  exact ⟨k1, k2, k3, fun h => by cases h⟩
 ·obtain ⟨R, xs, rfl, _⟩ := key r l b h1 h2
  exact absurd ho.1 (by simp)
 ·obtain ⟨R, xs, e, k1, k2, k3⟩ := key r l _ h1 h2
  cases e
  refine ⟨?_, fun h => h⟩
  cases xs' with
  | nil => exact absurd rfl hx
  | cons x l =>
   have hsz : 0 < (R'.enc x).length := by rw [R'.enc_len]; exact R'.sz_pos
   exact heap_lt_of_cell (k3 0 x rfl 0 _ (List.getElem?_eq_getElem hsz))
 ·obtain ⟨R, xs, rfl, _⟩ := key r l b h1 h3
  exact absurd ho.1 (by simp)
 ·exact ⟨(hG g R xs hg).1, fun h => h, (hG g R xs hg).2⟩

section
variable {H : Type} {enc : TypeId × Value → H} {P : Program} {W : World}

theorem spot_none {t e : TypeId} {r : Reach} {base : Nat} {a : Addr} {len cap : Nat} (ht : P.underlying t = some (.slice e)) (h : Value.okWide P W r base t (.slice (some a) len cap)) : a.spot = none := by
 unfold Value.okWide at h
 rw [ht] at h
 simp only [Cell.okWide, ht, Cell.ok] at h
 exact h.2.2.2.1

theorem open_sl {R : RC} {t e : TypeId} {base : Nat} {v : Value} {d : DataW H} {ps : List MemPlace} (ht : P.underlying t = some (.slice e)) (he : R.td P e = true) (hv : Value.okWide P W .any base t v)
  (h : DataW.Trod enc P W 0 (fun _ => true) true t v d ps) :
  ∃ (l : Loc) (a : Option Addr) (xs : List R.A), v = .slice a xs.length l.cap ∧ (0 < l.cap → a = some ⟨l.b, l.off, none⟩) ∧ RowAt W l (.row R xs false) ∧ ∀ x ∈ xs, R.wf x := by
 obtain ⟨va, vl, vc, rfl⟩ := okWide_slice ht hv
 obtain ⟨fuel, hf⟩ := h
 have hc : P.cellsOf e = R.sz := by
  simp only [RC.td, Bool.and_eq_true, Nat.beq_eq] at he
  exact he.1
 rcases open_slice ht hf with ⟨h1, _⟩ | ⟨a, len, cap, m, n, D, Pl, h1, _, hl, hm, hmm, _, hx⟩
 ·simp [Value.cells] at h1
  obtain ⟨rfl, rfl, rfl⟩ := h1
  exact ⟨⟨0, 0, 0⟩, none, [], rfl, fun h => absurd h (by simp), ⟨Nat.le_refl _, Nat.zero_le _, fun k x hk => by simp at hk⟩, fun x hx => by simp at hx⟩
 ·simp [Value.cells] at h1
  obtain ⟨rfl, rfl, rfl⟩ := h1
  have hsp := spot_none ht hv
  have hle : vl ≤ m := by rw [hmm]; split <;> omega
  have key : ∀ i, ∃ x : R.A, i < vl → R.wf x ∧ ∀ (o : Nat) (y : CV), (R.enc x)[o]? = some y → W.cell? (a.add (i * R.sz + o)) = some y.val := by
   intro i
   by_cases hi : i < vl
   ·obtain ⟨cs', hcs, ht'⟩ := hx i (by omega)
    obtain ⟨y, rfl, hy⟩ := trod_elem he ht'
    obtain ⟨_, hcl, hat⟩ := World.cells?_some hcs
    rw [hc] at hat
    refine ⟨y, fun _ => ⟨hy, fun o z ho => ?_⟩⟩
    have h3 : o < R.sz := by
     have := lt_of_getElem? ho
     rwa [RC.enc_len] at this
    have := hat o h3
    rw [← Go.Deep.add_add, this, List.getElem?_map, ho]
    rfl
   ·exact ⟨R.dft, fun h => absurd h hi⟩
  obtain ⟨F, hF⟩ := Classical.axiomOfChoice key
  refine ⟨⟨a.block, a.off, vc⟩, some a, (List.range vl).map F, by simp, fun _ => ?_, ⟨by simpa using hl, hm, fun k x hk o y hy => ?_⟩, fun x hx => ?_⟩
  ·cases a; simp_all
  ·have hk' : k < vl := by
    have := lt_of_getElem? hk
    simpa using this
   simp [hk'] at hk
   subst hk
   have := (hF k hk').2 o y hy
   have e : a.add (k * R.sz + o) = ⟨a.block, a.off + k * R.sz + o, none⟩ := by
    cases a; simp_all [addr_add, Nat.add_assoc]
   rw [e] at this
   exact this
  ·simp only [List.mem_map, List.mem_range] at hx
   obtain ⟨k, hk, rfl⟩ := hx
   exact (hF k hk).1

/-- the arguments of a call as data -/
theorem open_all {base : Nat} : ∀ {ts : List TypeId} {ks : List AK} {vs : List Value} {ds : List (DataW H)} {ps : List MemPlace}, AK.fitAll P ts ks = true → (∀ (j : Nat) t v, ts[j]? = some t → vs[j]? = some v → Value.okWide P W .any base t v) →
  DataW.TrodAll enc P W 0 (fun _ => true) true ts vs ds ps → ∃ (as : List AD) (θ : List Loc), All2 AD.isK as ks ∧ All2 (fun b l => RowAt W l b) (AD.blks as) θ ∧
   ∀ (θ1 : List Loc) (H1 : List Blk), θ1.length = H1.length → All2 (AV.R (θ1 ++ θ) (H1 ++ AD.blks as)) (AD.avs θ1.length as) vs
 | [], [], vs, ds, ps, _, _, h => by
  obtain ⟨rfl, rfl, rfl⟩ := trodAll_nil h
  exact ⟨[], [], trivial, trivial, fun _ _ _ => trivial⟩
 | t :: ts, k :: ks, vs, ds, ps, hk, hv, h => by
  obtain ⟨v, vs', d, ds', a, b, rfl, rfl, rfl, h1, h2⟩ := trodAll_cons h
  simp only [AK.fitAll, Bool.and_eq_true] at hk
  have hv0 := hv 0 t v rfl rfl
  obtain ⟨as, θ, i1, i2, i3⟩ := open_all hk.2 (fun j t' v' hj hj' => hv (j + 1) t' v' (by simpa using hj) (by simpa using hj')) h2
  have hk1 := hk.1
  cases k with
  | int =>
   simp only [AK.fits] at hk1
   have hk2 := hk1
   simp only [CK.td] at hk1
   split at hk1
   ·rename_i hu
    obtain ⟨n, rfl, _, _, hw⟩ := open_int hu hv0 h1
    have := lit_wf hw
    have this : -9223372036854775808 ≤ n ∧ n ≤ 9223372036854775807 := by simpa [IntKind.min, IntKind.max, IntKind.signed, IntKind.bits] using this
    exact ⟨.int n :: as, θ, ⟨this, i1⟩, i2, fun θ1 H1 hl => ⟨rfl, i3 θ1 H1 hl⟩⟩
   ·cases hk1
  | str =>
   simp only [AK.fits] at hk1
   simp only [CK.td] at hk1
   split at hk1
   ·rename_i hu
    obtain ⟨s, rfl⟩ := okWide_string hu hv0
    obtain ⟨n, hf⟩ := h1
    obtain ⟨s', hs, _, hw⟩ := DataW.trod_string hu hf
    simp [Value.cells] at hs
    subst hs
    exact ⟨.str s.data.toList :: as, θ, ⟨by show s.data.toList.length ≤ maxLen; rw [Array.length_toList]; exact hw, i1⟩, i2, fun θ1 H1 hl => ⟨rfl, i3 θ1 H1 hl⟩⟩
   ·cases hk1
  | agg R =>
   simp only [AK.fits, Bool.and_eq_true] at hk1
   obtain ⟨k1, k2⟩ := hk1
   split at k1
   ·rename_i fs hu
    obtain ⟨cs, rfl, hcs⟩ := okWide_struct hu hv0
    obtain ⟨n, hf⟩ := h1
    obtain ⟨y, hy, hw⟩ := trod_elem k2 hf
    simp only [Value.cells] at hy
    refine ⟨.agg R y :: as, θ, ⟨⟨rfl, hw⟩, i1⟩, i2, fun θ1 H1 hl => ⟨⟨cs.toList, rfl, ?_⟩, i3 θ1 H1 hl⟩⟩
    rw [hy]
    exact All2_c _
   ·cases k1
  | sl R =>
   simp only [AK.fits] at hk1
   split at hk1
   ·rename_i e hu
    obtain ⟨l, ad, xs, rfl, had, hrow, hwf⟩ := open_sl hu hk1 hv0 h1
    refine ⟨.sl R xs :: as, l :: θ, ⟨⟨rfl, Nat.le_trans hrow.1 hrow.2.1, hwf⟩, i1⟩, ⟨hrow, i2⟩, fun θ1 H1 hl => ?_⟩
    have := i3 (θ1 ++ [l]) (H1 ++ [.row R xs false]) (by simp [hl])
    simp only [List.append_assoc, List.singleton_append, List.length_append, List.length_singleton] at this
    refine ⟨⟨l, ?_, fun R' xs' own' hr => ?_⟩, this⟩
    ·rw [List.getElem?_append_right (Nat.le_refl _)]; simp
    ·rw [hl, AD.blks, List.getElem?_append_right (Nat.le_refl _)] at hr
     simp only [Nat.sub_self, List.getElem?_cons_zero, Option.some.injEq] at hr
     cases hr
     refine ⟨by omega, ad, by simp, fun h => ?_⟩
     rw [had h]; simp
   ·cases hk1
 | [], _ :: _, _, _, _, h, _, _ => by cases h
 | _ :: _, [], _, _, _, h, _, _ => by cases h

/-- arguments read behind a call as before it -/
theorem trodAll_below (hl : laidOutB P = true) {W' : World} (hb : Below W.heap.size W W') {sp : Nat → Bool} : ∀ {ts : List TypeId} {vs : List Value} {ds : List (DataW H)} {ps : List MemPlace},
  (∀ t ∈ ts, P.readableRec t = true ∧ t < P.types.size) → DataW.TrodAll enc P W 0 (fun _ => true) true ts vs ds ps → (∀ p ∈ ps, p.block < W.heap.size) → (∀ p ∈ ps, sp p.block = true) → DataW.TrodAll enc P W' 0 sp true ts vs ds ps
 | [], vs, ds, ps, _, h, _, _ => by
  obtain ⟨rfl, rfl, rfl⟩ := trodAll_nil h
  rfl
 | t :: ts, vs, ds, ps, ht, h, hlt, hsp => by
  obtain ⟨v, vs', d, ds', a, b, rfl, rfl, rfl, h1, h2⟩ := trodAll_cons h
  have := ht t (by simp)
  exact ⟨a, b, WideElems.Trod_stays hl this.1 this.2 h1 (fun p hp => hb.same (hlt p (by simp [hp]))) (fun p hp => hsp p (by simp [hp])), trodAll_below hl hb (fun t ht' => ht t (by simp [ht'])) h2 (fun p hp => hlt p (by simp [hp])) (fun p hp => hsp p (by simp [hp])), rfl⟩
end
end Go.Proofs.YtghdgncfcfdlfaaGreatDoor
