/- The abstract step of an operation is what the model does: stores. Conditions: none. -/
import Derived.Test.YtghdgncfcfdlfaaGreatDoorTLg
namespace Go.Proofs.YtghdgncfcfdlfaaGreatDoor
open Go

theorem splice_length {α : Type} (l : List α) (o : Nat) (m : List α) (h : o + m.length ≤ l.length) : (splice l o m).length = l.length := by
 simp [splice]; omega

theorem splice_get {α : Type} (l : List α) (o : Nat) (m : List α) (h : o + m.length ≤ l.length) (j : Nat) :
  (splice l o m)[j]? = if j < o then l[j]? else if j < o + m.length then m[j - o]? else l[j]? := by
 unfold splice
 have hmin : min o l.length = o := by omega
 by_cases h1 : j < o
 ·rw [List.getElem?_append_left (by simp; omega), List.getElem?_append_left (by simp; omega), List.getElem?_take, if_pos h1, if_pos h1]
 ·rw [if_neg h1]
  by_cases h2 : j < o + m.length
  ·rw [if_pos h2, List.getElem?_append_left (by simp; omega), List.getElem?_append_right (by simp; omega)]
   simp [hmin]
  ·rw [if_neg h2, List.getElem?_append_right (by simp; omega), List.getElem?_drop]
   congr 1
   simp [hmin]; omega

section
variable {E : Env} {w0 : World} {X : Nat → Prop} {θ0 θ : List Loc} {H H' : List Blk} {w : World}

theorem HRel.setRow (hh : HRel E w0 X θ0 θ H w) {r : Nat} {l : Loc} {b b' : Blk} (hl : θ[r]? = some l) (hb : H[r]? = some b) (ho : b.owns l) {cur : Array Value} {e : TypeId} {cs : List Value}
  (hg : w.heap[l.b]? = some (.cells cur e (0, 0))) (hle : HLe H (H.set r b'))
  (hB : (w.setRow l.b ⟨cs⟩).heap[l.b]? = some (.cells ⟨cs⟩ e (0, 0)) → BlkR θ (H.set r b') (w.setRow l.b ⟨cs⟩) l b') (hng : ∀ R xs, b' ≠ .row R xs false) :
  HRel E w0 X θ0 θ (H.set r b') (w.setRow l.b ⟨cs⟩) := by
 refine hh.upd hl hb ho rfl rfl rfl (size_setRow w l.b _) (fun k hk => setRow_other w l.b k _ hk) hle (hB ?_) hng
 exact setRow_heap w l.b cur _ e _ hg

theorem arith1 {k k' o o' n s : Nat} (hne : k' ≠ k) (h1 : o' < s) (h2 : o + n ≤ s) : ¬ (k * s + o ≤ k' * s + o' ∧ k' * s + o' < k * s + o + n) := by
 rcases Nat.lt_or_ge k' k with h | h
 ·have : (k' + 1) * s ≤ k * s := Nat.mul_le_mul_right s h
  rw [Nat.succ_mul] at this
  omega
 ·have : (k + 1) * s ≤ k' * s := Nat.mul_le_mul_right s (by omega)
  rw [Nat.succ_mul] at this
  omega

theorem storeS_good (hh : HRel E w0 X θ0 θ H w) {t : TypeId} {a v : AV} {x y : Value} {φ : Prop} (h : storeS E H t a v = some (φ, H')) (hφ : φ) (ha : a.R θ H x) (hv : v.R θ H y) :
  ∃ w', (Instr.storeAt t x y).run E.P w = .ok () w' ∧ HRel E w0 X θ0 θ H' w' ∧ HLe H H' := by
 unfold storeS at h
 split at h
 ·rename_i r o g
  obtain ⟨l, hl, rfl⟩ := ha
  split at h
  ·rename_i cs lc hH hc
   split at h
   ·rename_i hcond
    obtain ⟨h1, h2, h3, h4⟩ := hcond
    cases h
    obtain ⟨cur, e, hheap, hall, hsp⟩ := hh.bl r l _ hl hH
    obtain ⟨vs, hvs, hall2⟩ := AG_cells hc hv h4
    have hlen := hall.length
    have hlen2 := hall2.length
    refine ⟨_, storeVar_run hvs (by omega) (by omega) hheap (by omega) (live_all h4 hall2), ?_, ?_⟩
    ·refine hh.setRow hl hH trivial hheap (HLe.set_other _ _ _ (by simp)) (fun hn => ⟨_, e, hn, ?_⟩) (by simp)
     exact ⟨(All2_splice hall hall2 o).mono fun _ _ => CE.R_mono0 hh.len (HLe.set_other _ _ _ (by simp)), spT_splice h4 hsp h3 h2⟩
    ·exact HLe.set_other _ _ _ (by simp)
   ·cases h
  ·cases h
 ·rename_i r k o R' ys
  split at h
  ·rename_i R xs hH
   split at h
   ·rename_i hR
    subst hR
    split at h
    ·rename_i hcond
     obtain ⟨rfl, hsz, hnz⟩ := hcond
     cases h
     obtain ⟨hy1, hy2⟩ := hφ
     obtain ⟨l, hl, hk, rfl⟩ := rp_R (θ := θ) ha hH
     obtain ⟨hb1, hb2, hb3, hb4⟩ := hh.bl r l _ hl hH
     obtain ⟨hoff, hblk⟩ := hb4 rfl
     obtain ⟨⟨cur⟩, e, hheap, hcs⟩ := hblk (by omega)
     rw [hsz] at hcs
     simp at hcs
     cases hv
     have hfl := flat_length (R := R') ys
     rw [hsz, Nat.mul_one] at hfl
     have hle : HLe H (H.set r (.row R' (splice xs k ys) true)) := HLe.set_row _ _ _ _ _ _ _ hH (splice_length _ _ _ hy2).symm
     refine ⟨_, storeVar_run (vs := ((ys.flatMap R'.enc).map CV.val)) (cur := cur) (e := e) rfl (by rw [List.length_map, hfl]; exact hy1) (by rw [List.length_map, hfl]; omega) hheap
      (by rw [List.length_map, hfl, hoff, hsz]; omega) (fun v hv => ?_), ?_, hle⟩
     ·obtain ⟨c, _, rfl⟩ := List.mem_map.1 hv; exact cv_one c
     ·refine hh.setRow hl hH ⟨rfl, by omega⟩ hheap hle (fun hn => ⟨by rw [splice_length _ _ _ hy2]; exact hb1, hb2, fun j z hj q c hc => ?_, fun _ => ⟨hoff, fun _ => ⟨_, e, hn, ?_⟩⟩⟩) (by simp)
      ·rw [cells_get hn, hoff, hsz]
       have hq : q = 0 := by have := lt_of_getElem? hc; rw [RC.enc_len, hsz] at this; omega
       subst hq
       simp only [Nat.zero_add, Nat.mul_one, Nat.add_zero]
       rw [splice_get _ _ _ hy2] at hj
       rw [splice_get _ _ _ (by rw [List.length_map, hfl]; omega), List.length_map, hfl]
       by_cases c1 : j < k
       ·simp only [c1, if_true] at hj ⊢
        have := hb3 j z hj 0 c hc
        rw [cells_get hheap, hoff, hsz] at this
        simpa using this
       ·by_cases c2 : j < k + ys.length
        ·simp only [c1, c2, if_true, if_false] at hj ⊢
         have := flat_at ys (j - k) z hj 0 c hc
         rw [hsz] at this
         simp only [Nat.mul_one, Nat.add_zero] at this
         rw [List.getElem?_map, this]; rfl
        ·simp only [c1, c2, if_false] at hj ⊢
         have := hb3 j z hj 0 c hc
         rw [cells_get hheap, hoff, hsz] at this
         simpa using this
      ·simp only [List.size_toArray]
       refine ⟨?_, hcs.2⟩
       rw [splice_length _ _ _ (by rw [List.length_map, hfl, hoff, hsz]; omega), hcs.1, hsz]; simp
    ·cases h
   ·cases h
  ·cases h
 ·rename_i r k o g _
  split at h
  ·rename_i R xs lc hH hc
   split at h
   ·rename_i cv hcv
    split at h
    ·rename_i hcond
     obtain ⟨h1, h2, h3⟩ := hcond
     split at h
     ·rename_i z hz
      cases h
      obtain ⟨l, hl, hk, rfl⟩ := rp_R (θ := θ) ha hH
      obtain ⟨hb1, hb2, hb3, hb4⟩ := hh.bl r l _ hl hH
      obtain ⟨hoff, hblk⟩ := hb4 rfl
      obtain ⟨⟨cur⟩, e, hheap, hcs⟩ := hblk (by omega)
      simp at hcs
      have e1 := CEs_cv_map hcv
      subst e1
      obtain ⟨vs, hvs, hall2⟩ := AG_cells hc hv (live_cv cv)
      have e2 := All2_cv hall2
      subst e2
      have hxk := getD_of_lt hk R.dft
      have hzz := R.dec_enc _ _ hz
      have hle : HLe H (H.set r (.row R (xs.set k z) true)) := HLe.set_row _ _ _ _ _ _ _ hH (by simp)
      have hcap : (k + 1) * R.sz ≤ l.cap * R.sz := Nat.mul_le_mul_right _ (by omega)
      rw [Nat.succ_mul] at hcap
      simp only [List.length_map] at h1 h2 h3
      have hfit : k * R.sz + o + (cv.map CV.val).length ≤ cur.length := by rw [List.length_map]; omega
      refine ⟨_, storeVar_run hvs (by simpa using h1) (by simpa using h2) hheap (by rw [hoff]; simpa using hfit) (fun v hv => ?_), ?_, hle⟩
      ·obtain ⟨c, _, rfl⟩ := List.mem_map.1 hv; exact cv_one c
      ·refine hh.setRow hl hH ⟨rfl, by omega⟩ hheap hle (fun hn => ⟨by simpa using hb1, hb2, fun j u hj q c hq => ?_, fun _ => ⟨hoff, fun _ => ⟨_, e, hn, ?_⟩⟩⟩) (by simp)
       ·rw [cells_get hn, hoff]
        have hqs : q < R.sz := by have := lt_of_getElem? hq; rwa [RC.enc_len] at this
        simp only [Nat.zero_add]
        rw [splice_get _ _ _ hfit, List.length_map]
        have old : ∀ u', xs[j]? = some u' → (R.enc u')[q]? = some c → cur[j * R.sz + q]? = some c.val := by
         intro u' hu' hc'
         have := hb3 j u' hu' q c hc'
         rw [cells_get hheap, hoff] at this
         simpa using this
        by_cases hjk : j = k
        ·subst hjk
         rw [List.getElem?_set_self hk] at hj
         cases hj
         rw [hzz, splice_get _ _ _ (by rw [RC.enc_len]; exact h3)] at hq
         by_cases c1 : q < o
         ·rw [if_pos (by omega)]
          rw [if_pos c1] at hq
          exact old _ hxk hq
         ·by_cases c2 : q < o + cv.length
          ·rw [if_neg (by omega), if_pos (by omega)]
           rw [if_neg c1, if_pos c2] at hq
           rw [show j * R.sz + q - (j * R.sz + o) = q - o by omega, List.getElem?_map, hq]; rfl
          ·rw [if_neg (by omega), if_neg (by omega)]
           rw [if_neg c1, if_neg c2] at hq
           exact old _ hxk hq
        ·rw [List.getElem?_set_ne (Ne.symm hjk)] at hj
         have := arith1 (n := cv.length) (o := o) hjk hqs h3
         by_cases c1 : j * R.sz + q < k * R.sz + o
         ·rw [if_pos c1]; exact old u hj hq
         ·rw [if_neg c1, if_neg (by omega)]; exact old u hj hq
       ·simp only [List.size_toArray]
        refine ⟨?_, hcs.2⟩
        rw [splice_length _ _ _ (by rw [hoff]; simpa using hfit), hcs.1]
     ·cases h
    ·cases h
   ·cases h
  ·cases h
 ·cases h

end
end Go.Proofs.YtghdgncfcfdlfaaGreatDoor
