/- Calls: the blocks on the way in and on the way back. Conditions: none. -/
import Derived.Test.YtghdgncfcfdlfaaGreatDoorTLo
namespace Go.Proofs.YtghdgncfcfdlfaaGreatDoor
open Go

theorem ownRefs_get : ∀ {its : List It} {r : Nat}, r ∈ ownRefs its → ∃ i : Nat, its[i]? = some (.own r)
 | [], r, h => by cases h
 | .own x :: l, r, h => by
  simp only [ownRefs, List.mem_cons] at h
  rcases h with rfl | h
  ·exact ⟨0, rfl⟩
  ·obtain ⟨i, hi⟩ := ownRefs_get h; exact ⟨i + 1, by simpa using hi⟩
 | .ro x :: l, r, h => by obtain ⟨i, hi⟩ := ownRefs_get (its := l) h; exact ⟨i + 1, by simpa using hi⟩
 | .view x :: l, r, h => by obtain ⟨i, hi⟩ := ownRefs_get (its := l) h; exact ⟨i + 1, by simpa using hi⟩

def itLoc (θ : List Loc) (H : List Blk) (args : List AV) : It → Loc
 | .own r => (θ[r]?).getD ⟨0, 0, 0⟩
 | .ro r => (θ[r]?).getD ⟨0, 0, 0⟩
 | .view j => match args[j]? with
  | some (.one (.e (.sl r off _))) => match H[r]?, θ[r]? with
   | some (.row R _ _), some l => ⟨l.b, l.off + off * R.sz, l.cap - off⟩
   | _, _ => ⟨0, 0, 0⟩
  | _ => ⟨0, 0, 0⟩

section
variable {E : Env} {w0 : World} {X : Nat → Prop} {θ0 θ : List Loc} {H : List Blk} {w : World}

/-- the blocks that a call may write -/
def mayW (θ : List Loc) (H : List Blk) (its : List It) (b : Nat) : Prop := ∃ (i r : Nat) (l : Loc) (blk : Blk), its[i]? = some (.own r) ∧ θ[r]? = some l ∧ H[r]? = some blk ∧ blk.owns l ∧ l.b = b

theorem row_lt {r : Nat} {l : Loc} {R : RC} {xs : List R.A} {own : Bool} (h : HRel E w0 X θ0 θ H w) (hl : θ[r]? = some l) (hH : H[r]? = some (.row R xs own)) (hx : xs ≠ []) : l.b < w.heap.size := by
 have hB := h.bl r l _ hl hH
 rcases xs with _ | ⟨x, xs⟩
 ·exact absurd rfl hx
 ·have hlen := RC.enc_len R x
  have hpos := RC.sz_pos R
  obtain ⟨y, hy⟩ : ∃ y, (R.enc x)[0]? = some y := ⟨_, List.getElem?_eq_getElem (by omega)⟩
  exact heap_lt_of_cell (hB.2.2.1 0 x rfl 0 y hy)

theorem not_mayW (h : HRel E w0 X θ0 θ H w) {its : List It} {r : Nat} {l : Loc} {b : Blk} (hr : r ∉ ownRefs its) (hl : θ[r]? = some l) (hb : H[r]? = some b) :
  ¬ mayW θ H its l.b ∨ (¬ b.owns l ∧ (b = .dead ∨ ∃ R own, b = .row R [] own)) := by
 by_cases hm : mayW θ H its l.b
 ·obtain ⟨i, r', l', b', hi, hl', hb', ho, e⟩ := hm
  have hne : r' ≠ r := by rintro rfl; exact hr (ownRefs_mem hi)
  rcases h.apart hne hl' hl hb' hb ho with hd | hd
  ·exact absurd e.symm hd
  ·exact .inr hd
 ·exact .inl hm

theorem it_view {args : List AV} {vs : List Value} (h : HRel E w0 X θ0 θ H w) (hv : All2 (AV.R θ H) args vs) {j : Nat} {b : Blk} (hb : itBlk H args (.view j) = some b) :
  ∃ r off len R xs own l v a, args[j]? = some (.one (.e (.sl r off len))) ∧ H[r]? = some (.row R xs own) ∧ θ[r]? = some l ∧ b = .row R ((xs.drop off).take len) false ∧ off + len ≤ xs.length ∧ xs.length ≤ l.cap ∧
   itLoc θ H args (.view j) = ⟨l.b, l.off + off * R.sz, l.cap - off⟩ ∧ vs[j]? = some v ∧ v = .slice a len (l.cap - off) ∧ (off < l.cap → a = some ⟨l.b, l.off + off * R.sz, none⟩) := by
 unfold itBlk at hb
 split at hb
 ·rename_i r heq; cases heq
 ·rename_i r heq; cases heq
 ·rename_i j' heq
  cases heq
  split at hb
  ·rename_i r off len ha
   split at hb
   ·rename_i R xs own hH
    cases hb
    obtain ⟨v, hvj, hR⟩ := hv.get j _ ha
    obtain ⟨l, a, hl, h1, h2, h3, h4⟩ := sl_R h hR hH
    exact ⟨r, off, len, R, xs, own, l, v, a, ha, hH, hl, rfl, h1, h2, by simp [itLoc, ha, hH, hl], hvj, h3, h4⟩
   ·cases hb
  ·cases hb

theorem give_ren {args : List AV} {its : List It} {ext : List Blk} (he : extS H args its its = some ext) : Ren (itRef its 0) θ H (its.map (itLoc θ H args)) ext := by
 obtain ⟨hlen, hget⟩ := extS_get he
 intro r q hq
 have hi := (itRef_some hq).2
 rw [Nat.sub_zero] at hi
 refine ⟨fun l hl => ?_, fun R ys own' hR => ?_⟩
 ·rcases hi with hi | hi <;> simp [List.getElem?_map, hi, itLoc, hl]
 ·rcases hi with hi | hi
  ·obtain ⟨b, hb, hb'⟩ := hget q _ hi
   rw [hb'] at hR
   injection hR with hR
   have e := Blk.ren_row hR
   subst e
   simp only [itBlk] at hb
   split at hb
   ·cases hb
   ·rename_i R' xs hH; cases hb; exact ⟨_, _, hH, rfl⟩
   ·cases hb
  ·obtain ⟨b, hb, hb'⟩ := hget q _ hi
   rw [hb'] at hR
   injection hR with hR
   have e := Blk.ren_row hR
   subst e
   simp only [itBlk] at hb
   split at hb
   ·rename_i R' xs own hH; cases hb; exact ⟨_, _, hH, rfl⟩
   ·cases hb

theorem view_len {α : Type} {xs : List α} {off len : Nat} (h : off + len ≤ xs.length) : ((xs.drop off).take len).length = len := by simp; omega

theorem own_blk {args : List AV} {r : Nat} {b : Blk} (hb : itBlk H args (.own r) = some b) : H[r]? = some b ∧ ∀ R xs, b ≠ .row R xs false := by
 simp only [itBlk] at hb
 split at hb
 ·rename_i l hH; cases hb; exact ⟨hH, by simp⟩
 ·rename_i R xs hH; cases hb; exact ⟨hH, by simp⟩
 ·cases hb

theorem ro_blk {args : List AV} {r : Nat} {b : Blk} (hb : itBlk H args (.ro r) = some b) : ∃ R xs own, H[r]? = some (.row R xs own) ∧ b = .row R xs false := by
 simp only [itBlk] at hb
 split at hb
 ·rename_i R xs own hH; cases hb; exact ⟨R, xs, own, hH, rfl⟩
 ·cases hb

theorem give_good {args args' : List AV} {its : List It} {ext : List Blk} {vs : List Value} (h : HRel E w0 X θ0 θ H w) (hg : giveS H args its = some (args', ext)) (hv : All2 (AV.R θ H) args vs) :
  HRel E w (mayW θ H its) (its.map (itLoc θ H args)) (its.map (itLoc θ H args)) ext w ∧ All2 (AV.R (its.map (itLoc θ H args)) ext) args' vs ∧ nodupN (ownRefs its) = true ∧ apartN (roRefs args its) (ownRefs its) = true := by
 unfold giveS at hg
 split at hg
 case isFalse => cases hg
 rename_i hc
 simp only [Bool.and_eq_true] at hc
 obtain ⟨hnd, hap⟩ := hc
 split at hg
 case h_2 => cases hg
 rename_i a e hca hee
 cases hg
 obtain ⟨hlen, hget⟩ := extS_get hee
 have hren := give_ren (θ := θ) hee
 have back : ∀ (i : Nat) (l : Loc) (b : Blk), (its.map (itLoc θ H args))[i]? = some l → ext[i]? = some b → ∃ it b0, its[i]? = some it ∧ l = itLoc θ H args it ∧ itBlk H args it = some b0 ∧ b = b0.ren (itRef its 0) := by
  intro i l b hl hb
  rw [List.getElem?_map] at hl
  cases hi : its[i]? with
  | none => rw [hi] at hl; cases hl
  | some it =>
   rw [hi] at hl
   cases hl
   obtain ⟨b0, h1, h2⟩ := hget i it hi
   rw [h2] at hb; cases hb
   exact ⟨it, b0, rfl, rfl, h1, rfl⟩
 have locr : ∀ {r : Nat} {b0 : Blk}, H[r]? = some b0 → ∃ l, θ[r]? = some l := by
  intro r b0 hb
  have : r < θ.length := by rw [h.len]; exact lt_of_getElem? hb
  exact ⟨_, List.getElem?_eq_getElem this⟩
 refine ⟨⟨by simp [hlen], List.prefix_refl _, fun i l b hl hb => ?_, fun i l b hl hb ho => ?_, fun i l R xs hl hb hx => ?_, fun i i' l l' b b' hne hl hl' hb hb' ho ho' => ?_,
  ⟨rfl, rfl, rfl, Nat.le_refl _, fun _ _ _ => rfl⟩, fun g R xs hG => ?_, fun w' hf => h.kw w' ⟨hf.os.trans h.fr.os, hf.tape.trans h.fr.tape, hf.output.trans h.fr.output, Nat.le_trans h.fr.size hf.size, fun k hk hX => ?_⟩⟩, ?_, hnd, hap⟩
 ·obtain ⟨it, b0, hi, rfl, hb0, rfl⟩ := back i l b hl hb
  cases it with
  | own r =>
   obtain ⟨hH, _⟩ := own_blk hb0
   obtain ⟨l, hl'⟩ := locr hH
   have : itLoc θ H args (.own r) = l := by simp [itLoc, hl']
   rw [this]
   exact (h.bl r l b0 hl' hH).ren hren
  | ro r =>
   obtain ⟨R, xs, own, hH, rfl⟩ := ro_blk hb0
   obtain ⟨l, hl'⟩ := locr hH
   have : itLoc θ H args (.ro r) = l := by simp [itLoc, hl']
   rw [this]
   obtain ⟨h1, h2, h3, _⟩ := h.bl r l _ hl' hH
   exact ⟨h1, h2, h3, fun hf => by cases hf⟩
  | view j =>
   obtain ⟨r, off, len, R, xs, own, l, v, a, ha, hH, hl', rfl, k1, k2, k3, _, _, _⟩ := it_view h hv hb0
   rw [k3]
   obtain ⟨h1, h2, h3, _⟩ := h.bl r l _ hl' hH
   refine ⟨by simp; omega, by show l.cap - off ≤ maxLen; omega, fun k x hk o y hy => ?_, fun hf => by cases hf⟩
   rw [List.getElem?_take] at hk
   by_cases hkl : k < len
   ·simp only [hkl, if_true, List.getElem?_drop] at hk
    have := h3 (off + k) x hk o y hy
    rw [Nat.add_mul] at this
    show w.cell? ⟨l.b, l.off + off * R.sz + k * R.sz + o, none⟩ = _
    rw [show l.off + off * R.sz + k * R.sz + o = l.off + (off * R.sz + k * R.sz) + o by omega]
    exact this
   ·simp [hkl] at hk
 ·obtain ⟨it, b0, hi, rfl, hb0, rfl⟩ := back i l b hl hb
  rw [Blk.owns_ren] at ho
  cases it with
  | own r =>
   obtain ⟨hH, _⟩ := own_blk hb0
   obtain ⟨l, hl'⟩ := locr hH
   have e : itLoc θ H args (.own r) = l := by simp [itLoc, hl']
   rw [e] at ho ⊢
   exact .inl ⟨i, r, l, b0, hi, hl', hH, ho, rfl⟩
  | ro r => obtain ⟨R, xs, own, hH, rfl⟩ := ro_blk hb0; exact absurd ho.1 (by simp)
  | view j => obtain ⟨_, _, _, _, _, _, _, _, _, _, _, _, rfl, _⟩ := it_view h hv hb0; exact absurd ho.1 (by simp)
 ·obtain ⟨it, b0, hi, rfl, hb0, hbr⟩ := back i l _ hl hb
  have e0 := Blk.ren_row hbr.symm
  subst e0
  cases it with
  | own r => exact absurd rfl ((own_blk hb0).2 R xs)
  | ro r =>
   obtain ⟨R', xs', own, hH, e⟩ := ro_blk hb0
   cases e
   obtain ⟨l, hl'⟩ := locr hH
   have e : itLoc θ H args (.ro r) = l := by simp [itLoc, hl']
   rw [e]
   refine ⟨row_lt h hl' hH hx, ?_⟩
   rcases not_mayW h (apartN_mem hap r (roRefs_ro hi)) hl' hH with hn | ⟨_, hd | ⟨R2, own2, hd⟩⟩
   ·exact hn
   ·cases hd
   ·cases hd; exact absurd rfl hx
  | view j =>
   obtain ⟨r, off, len, R', xs', own, l5, v, a, ha, hH, hl5, e, k1, k2, k3, _, _, _⟩ := it_view h hv hb0
   cases e
   rw [k3]
   have hx' : xs' ≠ [] := by rintro rfl; simp at hx
   show l5.b < w.heap.size ∧ ¬ mayW θ H its l5.b
   refine ⟨row_lt h hl5 hH hx', ?_⟩
   rcases not_mayW h (apartN_mem hap r (roRefs_view hi ha)) hl5 hH with hn | ⟨_, hd | ⟨R2, own2, hd⟩⟩
   ·exact hn
   ·cases hd
   ·cases hd; exact absurd rfl hx'
 ·obtain ⟨it, b0, hi, rfl, hb0, rfl⟩ := back i l b hl hb
  obtain ⟨it', b0', hi', rfl, hb0', rfl⟩ := back i' l' b' hl' hb'
  rw [Blk.owns_ren] at ho ho'
  have ow : ∀ {it : It} {b0 : Blk}, itBlk H args it = some b0 → b0.owns (itLoc θ H args it) → ∃ r l, it = .own r ∧ θ[r]? = some l ∧ itLoc θ H args it = l ∧ H[r]? = some b0 := by
   intro it b0 hb0 ho
   cases it with
   | own r =>
    obtain ⟨hH, _⟩ := own_blk hb0
    obtain ⟨l, hl'⟩ := locr hH
    exact ⟨r, l, rfl, hl', by simp [itLoc, hl'], hH⟩
   | ro r => obtain ⟨R, xs, own, hH, rfl⟩ := ro_blk hb0; exact absurd ho.1 (by simp)
   | view j => obtain ⟨_, _, _, _, _, _, _, _, _, _, _, _, rfl, _⟩ := it_view h hv hb0; exact absurd ho.1 (by simp)
  obtain ⟨r, l, rfl, k1, k2, k3⟩ := ow hb0 ho
  obtain ⟨r', l', rfl, k1', k2', k3'⟩ := ow hb0' ho'
  rw [k2] at ho ⊢
  rw [k2'] at ho' ⊢
  refine h.dis r r' l l' b0 b0' (fun e => ?_) k1 k1' k3 k3' ho ho'
  subst e
  exact hne (ownRefs_inj hnd hi hi')
 ·obtain ⟨g1, g2, g3⟩ := h.gl g R xs hG
  refine ⟨Nat.lt_of_lt_of_le g1 h.fr.size, ?_, g3⟩
  rintro ⟨i, r, l, b, hi, hl, hb, ho, e⟩
  rcases h.own r l b hl hb ho with hX | hN
  ·rw [e] at hX; exact g2 hX
  ·omega
 ·rw [hf.block k (Nat.lt_of_lt_of_le hk h.fr.size) (by
   rintro ⟨i, r, l, b, hi, hl, hb, ho, e⟩
   rcases h.own r l b hl hb ho with hX' | hN
   ·rw [e] at hX'; exact hX hX'
   ·omega)]
  exact h.fr.block k hk hX
 · -- the arguments
  have key : ∀ (l : List AV) (us : List Value) (j : Nat) (l' : List AV), convArgs H its j l = some l' → All2 (AV.R θ H) l us → (∀ k, l[k]? = args[j + k]?) → (∀ k, us[k]? = vs[j + k]?) → All2 (AV.R (its.map (itLoc θ H args)) ext) l' us := by
   intro l
   induction l with
   | nil =>
    intro us j l' hc ha _ _
    cases hc
    cases us with
    | nil => trivial
    | cons _ _ => exact ha.elim
   | cons x l ih =>
    intro us j l' hc ha hk hu
    cases us with
    | nil => exact ha.elim
    | cons u us =>
     unfold convArgs at hc
     split at hc
     ·rename_i x' l2 hx hl2
      cases hc
      refine ⟨?_, ih us (j + 1) l2 hl2 ha.2 (fun k => by have := hk (k + 1); simpa [Nat.add_assoc, Nat.add_comm 1] using this) (fun k => by have := hu (k + 1); simpa [Nat.add_assoc, Nat.add_comm 1] using this)⟩
      unfold convArg at hx
      split at hx
      ·rename_i i hi
       have hit := (itView_some hi).2
       rw [Nat.sub_zero] at hit
       split at hx
       ·rename_i r off len
        split at hx
        ·rename_i R xs own hH
         cases hx
         obtain ⟨b0, hb0, hbe⟩ := hget i _ hit
         obtain ⟨r', off', len', R', xs', own', l', v, a, ha', hH', hl', rfl, k1, k2, k3, k4, k5, k6⟩ := it_view h hv hb0
         have h0 := hk 0
         simp only [List.getElem?_cons_zero, Nat.add_zero] at h0
         rw [ha'] at h0
         cases h0
         rw [hH'] at hH
         cases hH
         have h0 := hu 0
         simp only [List.getElem?_cons_zero, Nat.add_zero] at h0
         rw [k4] at h0
         cases h0
         subst k5
         have hzl := view_len k1
         have e1 : (its.map (itLoc θ H args))[i]? = some (itLoc θ H args (.view j)) := by rw [List.getElem?_map, hit]; rfl
         rw [k3] at e1
         refine ⟨_, e1, fun R2 ys2 own2 hR2 => ?_⟩
         rw [hbe] at hR2
         simp only [Blk.ren, Option.some.injEq] at hR2
         have e2 := hR2
         cases e2
         refine ⟨by simp, a, by rw [hzl]; simp, fun hlt => ?_⟩
         rw [k6 (by simp at hlt; omega)]
         simp
        ·cases hx
       ·cases hx
      ·cases hx
       exact AV.R_ren hren ha.1
     ·cases hc
  exact key args vs 0 args' hca hv (by simp) (by simp)

end
end Go.Proofs.YtghdgncfcfdlfaaGreatDoor
