/- The abstract step of an operation is what the model does: append. Conditions: none. -/
import Derived.Test.YtghdgncfcfdlfaaGreatDoorTLj
import Derived.Lib.UnsafeStr
namespace Go.Proofs.YtghdgncfcfdlfaaGreatDoor
open Go

theorem flat_inv {R : RC} : ∀ (xs : List R.A) (j : Nat) (y : CV), (xs.flatMap R.enc)[j]? = some y → ∃ k x o, xs[k]? = some x ∧ (R.enc x)[o]? = some y ∧ j = k * R.sz + o
 | [], j, y, h => by simp at h
 | z :: xs, j, y, h => by
  rw [List.flatMap_cons] at h
  by_cases hj : j < R.sz
  ·rw [List.getElem?_append_left (by rw [RC.enc_len]; exact hj)] at h
   exact ⟨0, z, j, rfl, h, by omega⟩
  ·rw [List.getElem?_append_right (by rw [RC.enc_len]; omega), RC.enc_len] at h
   obtain ⟨k, x, o, h1, h2, h3⟩ := flat_inv xs (j - R.sz) y h
   exact ⟨k + 1, x, o, by simpa using h1, h2, by rw [Nat.succ_mul]; omega⟩

theorem arith2 {n k o s : Nat} (h : n ≤ k) : k * s + o - n * s = (k - n) * s + o := by
 rw [Nat.sub_mul]
 have := Nat.mul_le_mul_right s h
 omega

section
variable {E : Env} {w0 : World} {X : Nat → Prop} {θ0 θ : List Loc} {H H' : List Blk} {w : World}

/-- what is no longer named may be let go -/
theorem HRel.kill (h : HRel E w0 X θ0 θ H w) (r : Nat) : HRel E w0 X θ0 θ (H.set r .dead) w := by
 have hle : HLe H (H.set r .dead) := HLe.set_other _ _ _ (by simp)
 have split : ∀ (q : Nat) (b : Blk), (H.set r .dead)[q]? = some b → b = .dead ∨ (q ≠ r ∧ H[q]? = some b) := by
  intro q b hb
  rw [List.getElem?_set] at hb
  by_cases e : r = q
  ·subst e
   by_cases hlt : r < H.length
   ·simp [hlt] at hb; exact .inl hb.symm
   ·simp [hlt] at hb
  ·simp [e] at hb; exact .inr ⟨Ne.symm e, hb⟩
 refine ⟨by simp [h.len], h.pre, fun q l b hl hb => ?_, fun q l b hl hb ho => ?_, fun q l R xs hl hb hx => ?_, fun q q' l l' b b' hne hl hl' hb hb' ho ho' => ?_, h.fr, h.gl, h.kw⟩
 ·rcases split q b hb with rfl | ⟨_, hb'⟩
  ·trivial
  ·simpa using (h.bl q l b hl hb').mono (θ' := []) h.len hle
 ·rcases split q b hb with rfl | ⟨_, hb'⟩
  ·exact ho.elim
  ·exact h.own q l b hl hb' ho
 ·rcases split q _ hb with e | ⟨_, hb'⟩
  ·cases e
  ·exact h.giv q l R xs hl hb' hx
 ·rcases split q b hb with rfl | ⟨_, k⟩
  ·exact ho.elim
  ·rcases split q' b' hb' with rfl | ⟨_, k'⟩
   ·exact ho'.elim
   ·exact h.dis q q' l l' b b' hne hl hl' k k' ho ho'

theorem row_cells {r : Nat} {l : Loc} {R : RC} {xs : List R.A} {own : Bool} (hh : HRel E w0 X θ0 θ H w) (hl : θ[r]? = some l) (hH : H[r]? = some (.row R xs own)) {off len : Nat} (j : Nat) (v : Value)
  (hj : ((((xs.drop off).take len).flatMap R.enc).map CV.val)[j]? = some v) : w.cell? ((⟨l.b, l.off + off * R.sz, none⟩ : Addr).add j) = some v := by
 rw [List.getElem?_map] at hj
 cases hy : (((xs.drop off).take len).flatMap R.enc)[j]? with
 | none => rw [hy] at hj; cases hj
 | some y =>
  rw [hy] at hj
  cases hj
  obtain ⟨k, x, o, h1, h2, h3⟩ := flat_inv _ j y hy
  rw [List.getElem?_take] at h1
  by_cases hk : k < len
  ·simp only [hk, if_true, List.getElem?_drop] at h1
   have := (hh.bl r l _ hl hH).2.2.1 (off + k) x h1 o y h2
   rw [addr_add, h3]
   rw [Nat.add_mul] at this
   rw [show l.off + off * R.sz + (k * R.sz + o) = l.off + (off * R.sz + k * R.sz) + o by omega]
   exact this
  ·simp [hk] at h1

theorem srcSl_good {t t' : TypeId} (hh : HRel E w0 X θ0 θ H w) {R : RC} {x : AV} {ys : List R.A} {v : Value} (h : srcS R H x = some ys) (hx : x.R θ H v) :
  (∃ xa c, v = .slice xa ys.length c ∧ (∀ j u, ((ys.flatMap R.enc).map CV.val)[j]? = some u → ∃ a, xa = some a ∧ w.cell? (a.add j) = some u) ∧ srcT E t t' x = decide (t = t')) ∨
  (∃ s : List UInt8, x = .one (.e (.c (.str s))) ∧ v = .string ⟨s.toArray⟩ ∧ ys.length = s.length ∧ (ys.flatMap R.enc).map CV.val = s.map fun b => Value.int .u8 b.toNat) := by
 unfold srcS at h
 split at h
 ·rename_i r off len
  split at h
  ·rename_i R' xs own hH
   split at h
   ·rename_i hR
    subst hR
    cases h
    obtain ⟨l, a, hl, hlen, hcap, rfl, ha⟩ := sl_R hh hx hH
    refine .inl ⟨a, l.cap - off, ?_, fun j u hj => ?_, rfl⟩
    ·congr 1; simp; omega
    ·have hpos : 0 < len := by
      have hj' := lt_of_getElem? hj
      rw [List.length_map, flat_length, List.length_take, List.length_drop] at hj'
      rcases Nat.eq_zero_or_pos len with h0 | h0
      ·subst h0; simp at hj'
      ·exact h0
     exact ⟨_, ha (by omega), row_cells hh hl hH j u hj⟩
   ·cases h
  ·cases h
 ·cases h; cases hx
  exact .inl ⟨none, 0, rfl, fun j u hj => by simp at hj, rfl⟩
 ·rename_i s
  split at h
  ·cases h; cases hx
   refine .inr ⟨s, rfl, rfl, by simp, ?_⟩
   induction s with
   | nil => rfl
   | cons b l ih => simp only [List.map_cons, List.flatMap_cons, List.map_append, ih]; rfl
  ·cases h
 ·cases h

theorem srcS_good (hh : HRel E w0 X θ0 θ H w) {R : RC} {x : AV} {ys : List R.A} {v : Value} (h : srcS R H x = some ys) (hx : x.R θ H v) {t t' e : TypeId} (ht : srcT E t t' x = true) (hu : E.P.underlying t = some (.slice e)) :
  ∃ d, E.P.underlying t' = some d ∧ srcD d ∧ Builtin.lenOf v = pure ys.length ∧ (Builtin.firstCells R.sz ys.length v).run E.P w = .ok ⟨(ys.flatMap R.enc).map CV.val⟩ w ∧
   (Builtin.firstCells R.sz ys.length v).run E.P w.drew = .ok ⟨(ys.flatMap R.enc).map CV.val⟩ w.drew := by
 rcases srcSl_good (E := E) (t := t) (t' := t') hh h hx with ⟨xa, c, rfl, hsrc, hT⟩ | ⟨s, rfl, rfl, hl, he⟩
 ·rw [hT] at ht
  have := of_decide_eq_true ht
  subst this
  have hnl : ((ys.flatMap R.enc).map CV.val).length = ys.length * R.sz := by rw [List.length_map, flat_length]
  exact ⟨_, hu, .inl ⟨e, rfl⟩, rfl, firstCells_drew hsrc hnl, firstCells_drew (w := w.drew) hsrc hnl⟩
 ·have hd : E.P.underlying t' = some .string := by
   simp only [srcT] at ht
   split at ht
   ·assumption
   ·cases ht
  have key : ∀ W : World, (Builtin.firstCells R.sz ys.length (.string ⟨s.toArray⟩)).run E.P W = .ok ⟨(ys.flatMap R.enc).map CV.val⟩ W := by
   intro W
   rw [he, hl]
   have e1 : ((⟨s.toArray⟩ : ByteArray).extract 0 s.length) = ⟨s.toArray⟩ := by
    have : s.length = (⟨s.toArray⟩ : ByteArray).size := rfl
    rw [this]
    exact ByteArray.extract_zero_size
   simp only [Builtin.firstCells, e1, Sem.run_pure]
   simp
  exact ⟨_, hd, .inr rfl, by rw [hl]; rfl, key w, key w.drew⟩

theorem cvs_one (l : List CV) : ∀ u ∈ l.map CV.val, u.oneCell' = true := by
 intro u hu
 obtain ⟨c, _, rfl⟩ := List.mem_map.1 hu
 exact cv_one c

/-- the new row behind an append -/
theorem append_new (hh : HRel E w0 X θ0 θ H w) {R : RC} {zs : List R.A} {e : TypeId} {g n : Nat} {rest : List Value} (hn : n = zs.length) (hng : n ≤ g) (hg : g ≤ maxLen) (hr : n * R.sz + rest.length = g * R.sz) (he : R = .u8 → e = 5) :
  HRel E w0 X θ0 (θ ++ [⟨w.heap.size, 0, g⟩]) (H ++ [.row R zs true]) (w.drew.alloc (.cells ⟨(zs.flatMap R.enc).map CV.val ++ rest⟩ e)) ∧
   (AV.one (.e (.sl H.length 0 n))).R (θ ++ [⟨w.heap.size, 0, g⟩]) (H ++ [.row R zs true]) (.slice (some ⟨w.heap.size, 0, none⟩) n g) := by
 subst hn
 refine ⟨hh.alloc rfl rfl rfl (by simp) (fun k hk => heap_alloc_old w.drew _ k hk) (heap_alloc_new w.drew _) (fun hn => ?_) (by simp), ?_⟩
 ·exact BlkR.flat (vs := rest) (e := e) hng hg hn hr he
 ·have h1 : (θ ++ [(⟨w.heap.size, 0, g⟩ : Loc)])[H.length]? = some ⟨w.heap.size, 0, g⟩ := by rw [← hh.len]; simp
  have h2 : (H ++ [Blk.row R zs true])[H.length]? = some (.row R zs true) := by simp
  exact mk_sl (l := ⟨w.heap.size, 0, g⟩) h1 h2 (by omega) (fun _ => by simp)

/-- an empty row that lies nowhere -/
theorem append_none (hh : HRel E w0 X θ0 θ H w) (R : RC) (sa : Option Addr) : HRel E w0 X θ0 (θ ++ [⟨0, 0, 0⟩]) (H ++ [.row R [] true]) w ∧
  (AV.one (.e (.sl H.length 0 0))).R (θ ++ [⟨0, 0, 0⟩]) (H ++ [.row R [] true]) (.slice sa 0 0) := by
 refine ⟨hh.add ⟨Nat.le_refl _, Nat.zero_le _, fun k x hk => by simp at hk, fun _ => ⟨rfl, fun h => absurd h (by simp)⟩⟩ (fun ho => absurd ho.2 (by simp)) (fun R xs e => by cases e) (fun ho => absurd ho.2 (by simp)), ?_⟩
 have h1 : (θ ++ [(⟨0, 0, 0⟩ : Loc)])[H.length]? = some ⟨0, 0, 0⟩ := by rw [← hh.len]; simp
 have h2 : (H ++ [Blk.row R [] true])[H.length]? = some (.row R [] true) := by simp
 exact mk_sl (l := ⟨0, 0, 0⟩) h1 h2 (by simp) (fun h => absurd h (by simp))

theorem zeroLen_info {t : TypeId} {n : Nat} (h : zeroLen E H t = n) (hn : 0 < n) : ∃ i z, E.P.info? t = some i ∧ i.zero = some z ∧ z.cells.size = n := by
 unfold zeroLen at h
 split at h
 ·rename_i g hg
  obtain ⟨i, z, hi, hz, hgr⟩ := zeroS_info (θ := []) (H := H) hg
  split at h
  ·rename_i l hl
   split at h
   ·rename_i hlive
    obtain ⟨vs, hvs, hall⟩ := AG_cells hl hgr hlive
    refine ⟨i, z, hi, hz, ?_⟩
    rw [hvs, ← h, hall.length]; rfl
   ·omega
  ·omega
 ·omega

theorem appendS_good' (hh : HRel E w0 X θ0 θ H w) {argT : Array TypeId} {ty : TypeId} {a b : AV} {x y : Value} {φ : Prop} {v : AV} (h : appendS E H argT a b = some (φ, v, H')) (hφ : φ) (ha : a.R θ H x) (hb : b.R θ H y) :
  ∃ l z w', (Builtin.append_ argT ty #[x, y]).run E.P w = .ok z w' ∧ v.R (θ ++ [l]) H' z ∧ HRel E w0 X θ0 (θ ++ [l]) H' w' ∧ HLe H H' ∧ (noB x → noB z) := by
 unfold appendS at h
 split at h
 ·rename_i t t' hT
  have hT' : argT = #[t, t'] := by apply Array.ext'; simpa using hT
  subst hT'
  split at h
  case isFalse => cases h
  rename_i htt
  split at h
  ·rename_i e hu
   split at h
   ·rename_i R hR
    split at h
    case isFalse => cases h
    rename_i hc
    obtain ⟨hsz, hby, hby0, hzl, h58⟩ := hc
    have h5 : R = .u8 → e = 5 := fun h => h58.resolve_left (fun g => g h)
    obtain ⟨i, z, hi, hz, hzs⟩ := zeroLen_info hzl (RC.sz_pos R)
    have hisz : i.size = R.sz := by simpa [Program.cellsOf, hi] using hsz
    have hby' : i.bytes ≤ 64 := by simpa [Program.bytesOf, hi] using hby
    have hby0' : 0 < i.bytes := by simpa [Program.bytesOf, hi] using hby0
    split at h
    case h_2 => cases h
    rename_i ys hys
    obtain ⟨d, hu', hd, hY, hfirst, hfirst'⟩ := srcS_good (E := E) hh hys hb htt hu
    rw [← hisz] at hfirst hfirst'
    have hnl : ((ys.flatMap R.enc).map CV.val).length = ys.length * i.size := by rw [List.length_map, flat_length, hisz]
    -- a row that grows
    have grow : ∀ {H1 : List Blk} {xs : List R.A} {sa : Option Addr} {cap : Nat}, HRel E w0 X θ0 θ H1 w → xs.length + ys.length ≤ 2199023255552 → cap < xs.length + ys.length →
      (∀ j u, ((xs.flatMap R.enc).map CV.val)[j]? = some u → ∃ a, sa = some a ∧ w.cell? (a.add j) = some u) →
      ∃ l z' w', (Builtin.append_ #[t, t'] ty #[.slice sa xs.length cap, y]).run E.P w = .ok z' w' ∧ (AV.one (.e (.sl H1.length 0 (xs.length + ys.length)))).R (θ ++ [l]) (H1 ++ [.row R (xs ++ ys) true]) z' ∧
       HRel E w0 X θ0 (θ ++ [l]) (H1 ++ [.row R (xs ++ ys) true]) w' ∧ noB z' := by
     intro H1 xs sa cap hh1 hsmall hroom hold
     have hge := grownCap_ge w (xs.length + ys.length) cap e
     have hle := grownCap_le_maxLen w (xs.length + ys.length) cap e (by unfold maxLen; omega)
     have hr := append_more (E := E) (w := w) (ty := ty) hu hu' hd hi hz hY hfirst' hnl hold (by rw [List.length_map, flat_length, hisz]) hroom hby0' hby' hsmall
     have hnew := append_new (E := E) hh1 (R := R) (zs := xs ++ ys) (e := e) (g := grownCap w (xs.length + ys.length) cap e) (n := xs.length + ys.length)
      (rest := (Builtin.zeroCells z.cells (grownCap w (xs.length + ys.length) cap e - (xs.length + ys.length))).toList) (by simp) hge hle (by
       have hzc : ∀ q, (Builtin.zeroCells z.cells q).toList.length = q * R.sz := fun q => by rw [Array.length_toList, size_zeroCells, hzs]
       rw [hzc, ← Nat.add_mul]; congr 1; omega) h5
     refine ⟨_, _, _, hr, hnew.2, ?_⟩
     have e1 : ((xs ++ ys).flatMap R.enc).map CV.val = (xs.flatMap R.enc).map CV.val ++ (ys.flatMap R.enc).map CV.val := by simp
     rw [e1] at hnew
     exact ⟨hnew.1, fun a n h => by injection h with _ _ h; omega⟩
    split at h
    ·cases h
     cases ha
     by_cases hm : ys.length = 0
     ·have hys0 : ys = [] := List.eq_nil_of_length_eq_zero hm
      subst hys0
      obtain ⟨n1, n2⟩ := append_none hh R none
      have hr := append_room (E := E) (w := w) (ty := ty) (i := i) hu hu' hd hi (sa := none) (n := 0) (cap := 0) (b := 0) (cur := []) (te := 0) hY hfirst hnl (cvs_one _) (fun h => absurd h (by simp)) (by simp)
      exact ⟨_, _, _, hr, n2, n1, HLe.snoc _ _, fun _ a n h => by injection h with h1 _ _; exact h1.symm⟩
     ·obtain ⟨l, z', w', hr, h1, h2, h3⟩ := grow (xs := []) (sa := none) (cap := 0) hh (by simp; omega) (by simp; omega) (fun j u hj => by simp at hj)
      simp only [List.length_nil, Nat.zero_add, List.nil_append] at hr h1 h2
      exact ⟨l, z', w', hr, h1, h2, HLe.snoc _ _, fun _ => h3⟩
    ·rename_i r off len
     split at h
     ·cases h
     ·split at h
      ·rename_i R' xs hH
       split at h
       ·rename_i hRR
        subst hRR
        cases h
        obtain ⟨rfl, rfl, hsmall⟩ := hφ
        obtain ⟨l, sa, hl, _, hcap, rfl, hsa⟩ := sl_R hh ha hH
        obtain ⟨hb1, hb2, hb3, hb4⟩ := hh.bl r l _ hl hH
        obtain ⟨hoff, hblk⟩ := hb4 rfl
        have hk := hh.kill r
        have hle : HLe H (H.set r .dead) := HLe.set_other _ _ _ (by simp)
        simp only [Nat.sub_zero, Nat.zero_mul, Nat.add_zero, List.length_append] at hsa ⊢
        by_cases hroom : xs.length + ys.length ≤ l.cap
        ·by_cases hc0 : 0 < l.cap
         ·obtain ⟨⟨cur⟩, te, hheap, hcs⟩ := hblk hc0
          simp only [List.size_toArray] at hcs
          have hsa' := hsa hc0
          rw [hoff] at hsa'
          have hr := append_room (E := E) (w := w) (ty := ty) (i := i) hu hu' hd hi (sa := sa) (n := xs.length) (cap := l.cap) (b := l.b) (cur := cur) (te := te) hY hfirst hnl (cvs_one _)
           (fun _ => ⟨hsa', hheap, by rw [hcs.1, hisz]⟩) hroom
          rw [if_pos hc0] at hr
          have hfit : xs.length * i.size + ((ys.flatMap R'.enc).map CV.val).length ≤ cur.length := by rw [hnl, hcs.1, hisz, ← Nat.add_mul]; exact Nat.mul_le_mul_right _ hroom
          have hw := hh.setRow (cs := splice cur (xs.length * i.size) ((ys.flatMap R'.enc).map CV.val)) hl hH ⟨rfl, hc0⟩ hheap hle (fun _ => trivial) (by simp)
          have hn : (w.setRow l.b ⟨splice cur (xs.length * i.size) ((ys.flatMap R'.enc).map CV.val)⟩).heap[l.b]? = some (.cells ⟨splice cur (xs.length * i.size) ((ys.flatMap R'.enc).map CV.val)⟩ te (0, 0)) := setRow_heap w l.b _ _ te _ hheap
          refine ⟨l, _, _, hr, ?_, ?_, hle.trans (HLe.snoc _ _), fun _ a n h => by injection h with _ _ h; omega⟩
          ·have h1 : (θ ++ [l])[H.length]? = some l := by rw [← hh.len]; simp
           have h2 : (H.set r .dead ++ [Blk.row R' (xs ++ ys) true])[H.length]? = some (.row R' (xs ++ ys) true) := by
            rw [List.getElem?_append_right (by simp)]; simp
           exact mk_sl (l := l) h1 h2 (by simp) (fun hc' => by rw [hsa', hoff]; simp)
          ·refine hw.add ⟨by simpa using hroom, hb2, fun k u hk o q hq => ?_, fun _ => ⟨hoff, fun _ => ⟨_, te, hn, ?_⟩⟩⟩ (fun _ => hh.own r l _ hl hH ⟨rfl, hc0⟩) (fun R xs e => by cases e) (fun _ q l' b' hl' hb' ho' => ?_)
           ·rw [cells_get hn, hoff, Nat.zero_add, splice_get _ _ _ hfit, hnl]
            have hqs : o < R'.sz := by have := lt_of_getElem? hq; rwa [RC.enc_len] at this
            by_cases hkx : k < xs.length
            ·rw [List.getElem?_append_left hkx] at hk
             have hlt : k * R'.sz + o < xs.length * i.size := by
              have : (k + 1) * R'.sz ≤ xs.length * R'.sz := Nat.mul_le_mul_right _ hkx
              rw [Nat.succ_mul] at this
              rw [hisz]; omega
             rw [if_pos hlt]
             have := hb3 k u hk o q hq
             rw [cells_get hheap, hoff, Nat.zero_add] at this
             exact this
            ·rw [List.getElem?_append_right (by omega)] at hk
             have hge : ¬ k * R'.sz + o < xs.length * i.size := by
              have : xs.length * R'.sz ≤ k * R'.sz := Nat.mul_le_mul_right _ (by omega)
              rw [hisz]; omega
             have hkl := lt_of_getElem? hk
             have hlt2 : k * R'.sz + o < xs.length * i.size + ys.length * i.size := by
              have : (k + 1) * R'.sz ≤ (xs.length + ys.length) * R'.sz := Nat.mul_le_mul_right _ (by omega)
              rw [Nat.succ_mul, Nat.add_mul] at this
              rw [hisz]; omega
             rw [if_neg hge, if_pos hlt2]
             have := flat_at ys (k - xs.length) u hk o q hq
             rw [hisz, arith2 (by omega), List.getElem?_map, this]
             rfl
           ·simp only [List.size_toArray]
            exact ⟨by rw [splice_length _ _ _ hfit, hcs.1], hcs.2⟩
           ·by_cases hqr : q = r
            ·subst hqr
             rw [List.getElem?_set_self (lt_of_getElem? hH)] at hb'
             cases hb'
             exact ho'.elim
            ·rw [List.getElem?_set_ne (Ne.symm hqr)] at hb'
             exact hh.dis q r l' l b' _ hqr hl' hl hb' hH ho' ⟨rfl, hc0⟩
         ·have hx0 : xs = [] := List.eq_nil_of_length_eq_zero (by omega)
          have hy0 : ys = [] := List.eq_nil_of_length_eq_zero (by omega)
          subst hx0; subst hy0
          have hcz : l.cap = 0 := by omega
          rw [hcz]
          obtain ⟨n1, n2⟩ := append_none hk R' sa
          have hr := append_room (E := E) (w := w) (ty := ty) (i := i) hu hu' hd hi (sa := sa) (n := 0) (cap := 0) (b := 0) (cur := []) (te := 0) hY hfirst hnl (cvs_one _) (fun h => absurd h (by simp)) (by simp)
          simp only [List.length_set] at n2
          exact ⟨_, _, _, hr, n2, n1, hle.trans (HLe.snoc _ _), fun hb a n h => hb a 0 (by injection h with h1 h2 _; rw [h1]; rfl)⟩
        ·obtain ⟨l', z', w', hr, h1, h2, h3⟩ := grow (xs := xs) (sa := sa) (cap := l.cap) hk (by omega) (by omega) (fun j u hj => by
          have hpos : 0 < xs.length := by
           have hj' := lt_of_getElem? hj
           rw [List.length_map, flat_length] at hj'
           rcases Nat.eq_zero_or_pos xs.length with h0 | h0
           ·rw [h0] at hj'; simp at hj'
           ·exact h0
          have := row_cells hh hl hH (off := 0) (len := xs.length) j u (by simpa using hj)
          exact ⟨_, hsa (by omega), by simpa using this⟩)
         simp only [List.length_set] at h1
         exact ⟨l', z', w', hr, h1, h2, hle.trans (HLe.snoc _ _), fun _ => h3⟩
       ·cases h
      ·cases h
    ·cases h
   ·cases h
  ·cases h
 ·cases h

theorem bsl_sl {r n : Nat} {v : Value} (h : (CE.bsl r n).R θ H v) : (CE.sl r 0 n).R θ H v := by
 obtain ⟨_, l, hl, hh⟩ := h
 refine ⟨l, hl, fun R xs own hr => ?_⟩
 obtain ⟨h1, a, h2, h3⟩ := hh R xs own hr
 exact ⟨by omega, a, by simpa using h2, by simpa using h3⟩
theorem sl_bsl {r n : Nat} {v : Value} (h0 : noB v) (h : (CE.sl r 0 n).R θ H v) : (CE.bsl r n).R θ H v := by
 obtain ⟨l, hl, hh⟩ := h
 refine ⟨h0, l, hl, fun R xs own hr => ?_⟩
 obtain ⟨h1, a, h2, h3⟩ := hh R xs own hr
 exact ⟨by omega, a, by simpa using h2, by simpa using h3⟩

theorem appendB_good (hh : HRel E w0 X θ0 θ H w) {argT : Array TypeId} {ty : TypeId} {a b : AV} {x y : Value} {φ : Prop} {v : AV} (h : appendB E H argT a b = some (φ, v, H')) (hφ : φ) (ha : a.R θ H x) (hb : b.R θ H y) :
  ∃ l z w', (Builtin.append_ argT ty #[x, y]).run E.P w = .ok z w' ∧ v.R (θ ++ [l]) H' z ∧ HRel E w0 X θ0 (θ ++ [l]) H' w' ∧ HLe H H' := by
 unfold appendB at h
 split at h
 ·rename_i r len
  split at h
  ·rename_i ψ k m H'' hs
   cases h
   obtain ⟨l, z, w', h1, h2, h3, h4, h5⟩ := appendS_good' (ty := ty) hh hs hφ (show (AV.one (.e (.sl r 0 len))).R θ H x from bsl_sl ha) hb
   exact ⟨l, z, w', h1, sl_bsl (h5 ha.1) h2, h3, h4⟩
  ·cases h
 ·obtain ⟨l, z, w', h1, h2, h3, h4, _⟩ := appendS_good' (ty := ty) hh h hφ ha hb
  exact ⟨l, z, w', h1, h2, h3, h4⟩

theorem sdS_good (hh : HRel E w0 X θ0 θ H w) {ts : Array TypeId} {ty : TypeId} {a : AV} {x : Value} {φ : Prop} {v : AV} (h : sdS E H ty a = some (φ, v, H')) (ha : a.R θ H x) :
  ∃ z w', (Builtin.unsafeSliceData_ ts ty #[x]).run E.P w = .ok z w' ∧ v.R θ H' z ∧ HRel E w0 X θ0 θ H' w' ∧ HLe H H' := by
 unfold sdS at h
 split at h
 ·rename_i r n
  split at h
  ·rename_i R xs e hH hu
   simp only [outG, Option.some.injEq, Prod.mk.injEq] at h
   obtain ⟨rfl, rfl, rfl⟩ := h
   have hnb : noB x := ha.1
   obtain ⟨l, a, hl, hlen, hcap, rfl, hsa⟩ := sl_R hh (show (AV.one (.e (.sl r 0 n))).R θ H x from bsl_sl ha) hH
   simp only [Nat.sub_zero, Nat.zero_mul, Nat.add_zero] at hsa hnb ⊢
   have mk : ∀ (p : Option Addr), (0 < xs.length → (Value.pointer p) = .pointer (some ⟨l.b, l.off, none⟩)) → (AV.one (.e (.sd r))).R θ H (.pointer p) := by
    intro p hp
    refine ⟨l, hl, ⟨p, rfl⟩, fun R' ys own' hr h0 => ?_⟩
    rw [hH] at hr; cases hr
    exact hp h0
   cases a with
   | none =>
    refine ⟨_, w, Lib.run_unsafeSliceData_nil w ts ty _ _, mk none (fun h0 => ?_), hh, HLe.refl _⟩
    exact absurd (hsa (by omega)) (by simp)
   | some ad =>
    by_cases hc : l.cap = 0
    ·rw [hc] at hnb
     exact absurd (hnb _ _ rfl) (by simp)
    ·refine ⟨_, w, Lib.run_unsafeSliceData_row w ts ty ad _ _ hc, mk _ (fun _ => ?_), hh, HLe.refl _⟩
     have := hsa (by omega)
     rw [this]
  ·cases h
 ·cases h

theorem freeze_parts (w : World) (a : Addr) (n : Nat) : (w.freeze a n).os = w.os ∧ (w.freeze a n).tape = w.tape ∧ (w.freeze a n).output = w.output ∧ (w.freeze a n).heap.size = w.heap.size ∧ ∀ k, k ≠ a.block → (w.freeze a n).heap[k]? = w.heap[k]? := by
 unfold World.freeze
 split
 ·exact ⟨rfl, rfl, rfl, rfl, fun _ _ => rfl⟩
 ·refine ⟨rfl, rfl, rfl, by simp, fun k hk => ?_⟩
  simp only [Array.getElem?_modify]
  rw [if_neg (fun e => hk e.symm)]

theorem usS_good (hh : HRel E w0 X θ0 θ H w) {argT : Array TypeId} {ty : TypeId} {a b : AV} {x y : Value} {φ : Prop} {v : AV} (h : usS E H argT a b = some (φ, v, H')) (hφ : φ) (ha : a.R θ H x) (hb : b.R θ H y) :
  ∃ z w', (Builtin.unsafeString_ argT ty #[x, y]).run E.P w = .ok z w' ∧ v.R θ H' z ∧ HRel E w0 X θ0 θ H' w' ∧ HLe H H' := by
 unfold usS at h
 split at h
 ·rename_i r n
  split at h
  ·rename_i pt it hT
   have hT' : argT = #[pt, it] := by apply Array.ext'; simpa using hT
   subst hT'
   split at h
   ·rename_i xs hu hH
    split at h
    ·rename_i hc
     cases h
     obtain ⟨rfl, hby⟩ := hφ
     cases hb
     obtain ⟨l, hl, ⟨p, rfl⟩, hp⟩ := ha
     have hp := hp _ _ _ hH
     obtain ⟨b1, b2, b3, b4⟩ := hh.bl r l _ hl hH
     obtain ⟨hoff, hblk⟩ := b4 rfl
     have hle : HLe H (H.set r .dead) := HLe.set_other _ _ _ (by simp)
     by_cases hz : xs.length = 0
     ·have : xs = [] := List.eq_nil_of_length_eq_zero hz
      subst this
      exact ⟨_, w, Lib.run_unsafeString_none w pt it ty p, rfl, hh.kill r, hle⟩
     ·have hp' := hp (by omega)
      cases hp'
      rw [hoff]
      obtain ⟨vs, e, hheap, hsz, he⟩ := hblk (by omega)
      have he5 := he rfl
      subst he5
      have hlen : (bytesOf xs).length = xs.length := by simp [bytesOf]
      have hcell : ∀ j x, (bytesOf xs)[j]? = some x → w.cell? ((⟨l.b, 0, none⟩ : Addr).add j) = some (.int .u8 x.toNat) := by
       intro j u hj
       have hjl := lt_of_getElem? hj
       rw [hlen] at hjl
       have hxj : xs[j]? = some xs[j] := List.getElem?_eq_getElem hjl
       have := b3 j _ hxj 0 _ rfl
       rw [hoff] at this
       simp only [RC.sz, Nat.mul_one, Nat.zero_add, Nat.add_zero] at this
       have hr : (0 : Int) ≤ (xs[j] : Int) ∧ (xs[j] : Int) ≤ 255 := hby _ (List.getElem_mem hjl)
       have hu : u = UInt8.ofNat xs[j].toNat := by
        have : (bytesOf xs)[j]? = some (UInt8.ofNat xs[j].toNat) := by simp [bytesOf, hxj]
        rw [this] at hj; cases hj; rfl
       have hun : (u.toNat : Int) = (xs[j] : Int) := by
        rw [hu, UInt8.toNat_ofNat']
        have g : ∀ q : Int, 0 ≤ q → q ≤ 255 → ((q.toNat % 2 ^ 8 : Nat) : Int) = q := by intro q _ _; omega
        exact g _ hr.1 hr.2
       rw [hun, addr_add, Nat.zero_add]
       exact this
      have hsh : w.shape? l.b = some (5, l.cap) := by
       have : vs.size = l.cap := by simpa [RC.sz] using hsz
       simp [World.shape?, hheap, this]
      have hr := Lib.run_unsafeString_row (P := E.P) w pt it ty 5 hu hc l.b l.cap hsh (bytesOf xs) (fun h => hz (by rw [← hlen, h]; rfl)) (by rw [hlen]; exact b1) (by rw [hlen]; unfold maxLen at b2; omega) hcell
      rw [hlen] at hr
      obtain ⟨f1, f2, f3, f4, f5⟩ := freeze_parts w ⟨l.b, 0, none⟩ xs.length
      refine ⟨_, _, hr, rfl, ?_, hle⟩
      exact hh.upd hl hH ⟨rfl, by omega⟩ f1 f2 f3 f4 f5 hle trivial (by simp)
    ·cases h
   ·cases h
  ·cases h
 ·cases h

end
end Go.Proofs.YtghdgncfcfdlfaaGreatDoor
