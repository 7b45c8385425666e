/- How the relation between abstract blocks and the world is kept: a new block, a block that is written. Conditions: none. -/
import Derived.Test.YtghdgncfcfdlfaaGreatDoorTLb
namespace Go.Proofs.YtghdgncfcfdlfaaGreatDoor
open Go

theorem cell?_congr {w w' : World} {b : Nat} (h : w'.heap[b]? = w.heap[b]?) (o : Nat) : w'.cell? ⟨b, o, none⟩ = w.cell? ⟨b, o, none⟩ := by
 simp [World.cell?, h]

theorem heap_lt_of_cell {w : World} {b o : Nat} {v : Value} (h : w.cell? ⟨b, o, none⟩ = some v) : b < w.heap.size := block_lt_of_cell h

theorem lt_of_heap {w : World} {b : Nat} {o : Obj} (h : w.heap[b]? = some o) : b < w.heap.size := by
 rcases Nat.lt_or_ge b w.heap.size with h' | h'
 ·exact h'
 ·rw [Array.getElem?_eq_none h'] at h; cases h

theorem BlkR.congr {θ : List Loc} {H : List Blk} {w w' : World} {l : Loc} {b : Blk} (h : w'.heap[l.b]? = w.heap[l.b]?) (hb : BlkR θ H w l b) : BlkR θ H w' l b := by
 cases b with
 | cells cs => obtain ⟨vs, e, h1, h2⟩ := hb; exact ⟨vs, e, h.trans h1, h2⟩
 | row R xs own =>
  obtain ⟨h1, h2, h3, h4⟩ := hb
  refine ⟨h1, h2, fun k x hk o y hy => ?_, fun ho => ?_⟩
  ·rw [cell?_congr h]; exact h3 k x hk o y hy
  ·obtain ⟨h5, h6⟩ := h4 ho
   exact ⟨h5, fun hc => by obtain ⟨vs, e, h7, h8⟩ := h6 hc; exact ⟨vs, e, h.trans h7, h8⟩⟩
 | dead => trivial

/-- a row without elements that nobody may write is there in every world -/
theorem BlkR.any {θ : List Loc} {H : List Blk} {w w' : World} {l : Loc} {R : RC} {xs : List R.A} {own : Bool} (hx : xs = []) (ho : ¬ (Blk.row R xs own).owns l) (hb : BlkR θ H w l (.row R xs own)) : BlkR θ H w' l (.row R xs own) := by
 obtain ⟨h1, h2, h3, h4⟩ := hb
 refine ⟨h1, h2, fun k x hk => by subst hx; simp at hk, fun hw => ⟨(h4 hw).1, fun hc => absurd ⟨hw, hc⟩ ho⟩⟩

theorem BlkR.mono {θ θ' : List Loc} {H H' : List Blk} (hlen : θ.length = H.length) (hle : HLe H H') {w : World} {l : Loc} {b : Blk} (hb : BlkR θ H w l b) : BlkR (θ ++ θ') H' w l b := by
 cases b with
 | cells cs => obtain ⟨vs, e, h1, h2⟩ := hb; exact ⟨vs, e, h1, h2.1.mono fun _ _ => CE.R_mono hlen hle, h2.2⟩
 | row R xs own => exact hb
 | dead => trivial

theorem BlkR.lt {θ : List Loc} {H : List Blk} {w : World} {l : Loc} {b : Blk} (hb : BlkR θ H w l b) (ho : b.owns l) : l.b < w.heap.size := by
 cases b with
 | cells cs => obtain ⟨vs, e, h1, h2⟩ := hb; exact lt_of_heap h1
 | row R xs own => obtain ⟨vs, e, h7, h8⟩ := (hb.2.2.2 ho.1).2 ho.2; exact lt_of_heap h7
 | dead => exact ho.elim

section
variable {E : Env} {w0 : World} {X : Nat → Prop} {θ0 θ : List Loc} {H : List Blk} {w : World}

/-- a block that is read as given, if it has anything, is none that may be written -/
theorem HRel.apart (h : HRel E w0 X θ0 θ H w) {r r' : Nat} {l l' : Loc} {b b' : Blk} (hne : r ≠ r') (hl : θ[r]? = some l) (hl' : θ[r']? = some l') (hb : H[r]? = some b) (hb' : H[r']? = some b') (ho : b.owns l) :
  l'.b ≠ l.b ∨ (¬ b'.owns l' ∧ (b' = .dead ∨ ∃ R own, b' = .row R [] own)) := by
 by_cases ho' : b'.owns l'
 ·exact .inl (h.dis r' r l' l b' b (Ne.symm hne) hl' hl hb' hb ho' ho)
 ·cases b' with
  | cells cs => exact absurd trivial ho'
  | dead => exact .inr ⟨ho', .inl rfl⟩
  | row R xs own =>
   by_cases hx : xs = []
   ·subst hx; exact .inr ⟨ho', .inr ⟨R, own, rfl⟩⟩
   ·left
    cases own with
    | true =>
     have hbl := h.bl r' l' _ hl' hb'
     have : 0 < l'.cap := Nat.lt_of_lt_of_le (List.length_pos_iff.2 hx) hbl.1
     exact absurd ⟨rfl, this⟩ ho'
    | false =>
     obtain ⟨g1, g2⟩ := h.giv r' l' R xs hl' hb' hx
     rcases h.own r l b hl hb ho with hX | hN
     ·intro e; rw [e] at g2; exact g2 hX
     ·intro e; rw [e] at g1; omega

/-- the world may turn where no block that was there has turned -/
theorem HRel.world (h : HRel E w0 X θ0 θ H w) {w' : World} (hos : w'.os = w.os) (htp : w'.tape = w.tape) (hout : w'.output = w.output) (hsz : w.heap.size ≤ w'.heap.size)
  (hbl : ∀ k, k < w.heap.size → w'.heap[k]? = w.heap[k]?) : HRel E w0 X θ0 θ H w' := by
 refine ⟨h.len, h.pre, fun r l b hl hb => ?_, h.own, h.giv, h.dis, ⟨hos.trans h.fr.os, htp.trans h.fr.tape, hout.trans h.fr.output, Nat.le_trans h.fr.size hsz, fun b hb hX => ?_⟩, fun g R xs hg => ?_, h.kw⟩
 ·have hB := h.bl r l b hl hb
  by_cases hlt : l.b < w.heap.size
  ·exact hB.congr (hbl _ hlt)
  ·cases b with
   | cells cs => exact absurd (hB.lt trivial) hlt
   | dead => trivial
   | row R xs own =>
    have hno : ¬ (Blk.row R xs own).owns l := fun ho => hlt (hB.lt ho)
    refine BlkR.any ?_ hno hB
    rcases xs with _ | ⟨x, xs⟩
    ·rfl
    ·have hlen := RC.enc_len R x
     have hpos := RC.sz_pos R
     obtain ⟨y, hy⟩ : ∃ y, (R.enc x)[0]? = some y := ⟨_, List.getElem?_eq_getElem (by omega)⟩
     exact absurd (heap_lt_of_cell (hB.2.2.1 0 x rfl 0 y hy)) hlt
 ·rw [hbl b (Nat.lt_of_lt_of_le hb h.fr.size)]; exact h.fr.block b hb hX
 ·obtain ⟨g1, g2, g3⟩ := h.gl g R xs hg
  refine ⟨g1, g2, fun k x hk o y hy => ?_⟩
  rw [cell?_congr (hbl g (Nat.lt_of_lt_of_le g1 h.fr.size))]
  exact g3 k x hk o y hy

/-- one block more -/
theorem HRel.add (h : HRel E w0 X θ0 θ H w) {l : Loc} {b : Blk} (hB : BlkR (θ ++ [l]) (H ++ [b]) w l b) (hown : b.owns l → X l.b ∨ w0.heap.size ≤ l.b)
  (hgiv : ∀ R xs, b = .row R xs false → xs ≠ [] → l.b < w0.heap.size ∧ ¬ X l.b)
  (hdis : b.owns l → ∀ (r : Nat) (l' : Loc) (b' : Blk), θ[r]? = some l' → H[r]? = some b' → b'.owns l' → l'.b ≠ l.b) : HRel E w0 X θ0 (θ ++ [l]) (H ++ [b]) w := by
 have hlen := h.len
 have split : ∀ (r : Nat) (l2 : Loc) (b2 : Blk), (θ ++ [l])[r]? = some l2 → (H ++ [b])[r]? = some b2 → (θ[r]? = some l2 ∧ H[r]? = some b2) ∨ (r = θ.length ∧ l2 = l ∧ b2 = b) := by
  intro r l2 b2 h1 h2
  by_cases hr : r < θ.length
  ·rw [List.getElem?_append_left hr] at h1
   rw [List.getElem?_append_left (hlen ▸ hr)] at h2
   exact .inl ⟨h1, h2⟩
  ·have : r < (θ ++ [l]).length := lt_of_getElem? h1
   have hr' : r = θ.length := by simp at this; omega
   subst hr'
   simp at h1
   rw [hlen] at h2
   simp at h2
   exact .inr ⟨rfl, h1.symm, h2.symm⟩
 refine ⟨by simp [hlen], h.pre.trans (List.prefix_append _ _), fun r l2 b2 h1 h2 => ?_, fun r l2 b2 h1 h2 ho => ?_, fun r l2 R xs h1 h2 hx => ?_, fun r r' l1 l2 b1 b2 hne h1 h2 h3 h4 o1 o2 => ?_, h.fr, h.gl, h.kw⟩
 ·rcases split r l2 b2 h1 h2 with ⟨h1, h2⟩ | ⟨_, rfl, rfl⟩
  ·exact (h.bl r l2 b2 h1 h2).mono hlen (HLe.snoc H b)
  ·exact hB
 ·rcases split r l2 b2 h1 h2 with ⟨h1, h2⟩ | ⟨_, rfl, rfl⟩
  ·exact h.own r l2 b2 h1 h2 ho
  ·exact hown ho
 ·rcases split r l2 _ h1 h2 with ⟨h1, h2⟩ | ⟨_, rfl, hb⟩
  ·exact h.giv r l2 R xs h1 h2 hx
  ·exact hgiv R xs hb.symm hx
 ·rcases split r l1 b1 h1 h3 with ⟨k1, k3⟩ | ⟨e1, rfl, rfl⟩
  ·rcases split r' l2 b2 h2 h4 with ⟨k2, k4⟩ | ⟨e2, rfl, rfl⟩
   ·exact h.dis r r' l1 l2 b1 b2 hne k1 k2 k3 k4 o1 o2
   ·exact hdis o2 r l1 b1 k1 k3 o1
  ·rcases split r' l2 b2 h2 h4 with ⟨k2, k4⟩ | ⟨e2, rfl, rfl⟩
   ·exact (hdis o1 r' l2 b2 k2 k4 o2).symm
   ·exact absurd (e1.trans e2.symm) hne

/-- a block that may be written has turned -/
theorem HRel.upd (h : HRel E w0 X θ0 θ H w) {r : Nat} {l : Loc} {b b' : Blk} (hl : θ[r]? = some l) (hb : H[r]? = some b) (ho : b.owns l) {w' : World}
  (hos : w'.os = w.os) (htp : w'.tape = w.tape) (hout : w'.output = w.output) (hsz : w'.heap.size = w.heap.size) (hbl : ∀ k, k ≠ l.b → w'.heap[k]? = w.heap[k]?)
  (hle : HLe H (H.set r b')) (hB : BlkR θ (H.set r b') w' l b') (hng : ∀ R xs, b' ≠ .row R xs false) : HRel E w0 X θ0 θ (H.set r b') w' := by
 have hlen := h.len
 have hrl : r < H.length := lt_of_getElem? hb
 have split : ∀ (q : Nat) (l2 : Loc) (b2 : Blk), θ[q]? = some l2 → (H.set r b')[q]? = some b2 → (q = r ∧ l2 = l ∧ b2 = b') ∨ (q ≠ r ∧ H[q]? = some b2) := by
  intro q l2 b2 h1 h2
  by_cases e : r = q
  ·subst e
   rw [List.getElem?_set_self hrl] at h2
   rw [hl] at h1
   cases h1; cases h2
   exact .inl ⟨rfl, rfl, rfl⟩
  ·rw [List.getElem?_set_ne e] at h2
   exact .inr ⟨Ne.symm e, h2⟩
 have hXN : X l.b ∨ w0.heap.size ≤ l.b := h.own r l b hl hb ho
 refine ⟨by simp [hlen], h.pre, fun q l2 b2 h1 h2 => ?_, fun q l2 b2 h1 h2 o2 => ?_, fun q l2 R xs h1 h2 hx => ?_, fun q q' l1 l2 b1 b2 hne h1 h2 h3 h4 o1 o2 => ?_, ⟨hos.trans h.fr.os, htp.trans h.fr.tape, hout.trans h.fr.output, by rw [hsz]; exact h.fr.size, fun k hk hX => ?_⟩, fun g R xs hg => ?_, h.kw⟩
 ·rcases split q l2 b2 h1 h2 with ⟨rfl, rfl, rfl⟩ | ⟨hq, h2'⟩
  ·exact hB
  ·have hb2 := h.bl q l2 b2 h1 h2'
   have hmono : ∀ {w}, BlkR θ H w l2 b2 → BlkR θ (H.set r b') w l2 b2 := fun hh => by simpa using hh.mono (θ' := []) hlen hle
   rcases h.apart (Ne.symm hq) hl h1 hb h2' ho with hd | ⟨hno, rfl | ⟨R, own, rfl⟩⟩
   ·exact hmono (hb2.congr (hbl _ hd))
   ·trivial
   ·exact BlkR.any rfl hno (hmono hb2)
 ·rcases split q l2 b2 h1 h2 with ⟨rfl, rfl, rfl⟩ | ⟨hq, h2'⟩
  ·exact hXN
  ·exact h.own q l2 b2 h1 h2' o2
 ·rcases split q l2 _ h1 h2 with ⟨rfl, rfl, hb2⟩ | ⟨hq, h2'⟩
  ·exact absurd hb2.symm (hng R xs)
  ·exact h.giv q l2 R xs h1 h2' hx
 ·rcases split q l1 b1 h1 h3 with ⟨rfl, rfl, rfl⟩ | ⟨hq, h3'⟩
  ·rcases split q' l2 b2 h2 h4 with ⟨rfl, rfl, rfl⟩ | ⟨hq', h4'⟩
   ·exact absurd rfl hne
   ·exact h.dis q q' l1 l2 b b2 hne h1 h2 hb h4' ho o2
  ·rcases split q' l2 b2 h2 h4 with ⟨rfl, rfl, rfl⟩ | ⟨hq', h4'⟩
   ·exact h.dis q q' l1 l2 b1 b hne h1 h2 h3' hb o1 ho
   ·exact h.dis q q' l1 l2 b1 b2 hne h1 h2 h3' h4' o1 o2
 ·rw [hbl k (by rcases hXN with hx | hn <;> intro e <;> subst e <;> first | exact hX hx | omega)]
  exact h.fr.block k hk hX
 ·obtain ⟨g1, g2, g3⟩ := h.gl g R xs hg
  refine ⟨g1, g2, fun k x hk o y hy => ?_⟩
  rw [cell?_congr (hbl g (by rcases hXN with hx | hn <;> intro e <;> subst e <;> first | exact g2 hx | omega))]
  exact g3 k x hk o y hy

end
end Go.Proofs.YtghdgncfcfdlfaaGreatDoor
