/- The abstract step of an operation is what the model does: make and append. Conditions: none. -/
import Derived.Test.YtiboohplkihhnaaTLi
namespace Go.Proofs.Ytiboohplkihhnaa
open Go

section
variable {E : Env} {w0 : World} {X : Nat → Prop} {θ0 θ : List Loc} {H H' : List Blk} {w : World}

theorem made_get (zc : List Value) (n k o : Nat) (hk : k < n) (ho : o < zc.length) : (madeCells ⟨zc⟩ (n * zc.length))[k * zc.length + o]? = zc[o]? := by
  have hlt : k * zc.length + o < n * zc.length := by
    have : (k + 1) * zc.length ≤ n * zc.length := Nat.mul_le_mul_right _ hk
    rw [Nat.succ_mul] at this
    omega
  have hmod : (k * zc.length + o) % zc.length = o := by
    rw [Nat.mul_comm, Nat.mul_add_mod]; exact Nat.mod_eq_of_lt ho
  simp only [madeCells, Array.getElem?_map, Array.getElem?_range, hlt, if_true, Option.map_some, List.size_toArray, hmod]
  simp [ho]

theorem makeSliceS_good (hh : HRel E w0 X θ0 θ H w) {t : TypeId} {a b : AV} {x y : Value} {φ : Prop} {v : AV} (h : makeSliceS E H t a b = some (φ, v, H')) (hφ : φ) (ha : a.R θ H x) (hb : b.R θ H y) :
    ∃ l z w', (Instr.makeSlice t x y).run E.P w = .ok z w' ∧ v.R (θ ++ [l]) H' z ∧ HRel E w0 X θ0 (θ ++ [l]) H' w' ∧ HLe H H' := by
  unfold makeSliceS at h
  split at h
  · rename_i e n m hu
    cases ha; cases hb
    split at h
    · rename_i R g hR hg
      obtain ⟨i, z, hi, hz, hgr⟩ := zeroS_info (θ := θ) (H := H) hg
      split at h
      · rename_i zl hzl
        split at h
        · rename_i cv hcv
          split at h
          · rename_i u hu'
            split at h
            · rename_i hc
              obtain ⟨h1, h2, h8⟩ := hc
              cases h
              obtain ⟨rfl, h3, h4⟩ := hφ
              have e1 := CEs_cv_map hcv
              subst e1
              obtain ⟨ws, hws, hall⟩ := AG_cells hzl hgr (live_cv cv)
              have e2 := All2_cv hall
              subst e2
              have e3 := R.dec_enc _ _ hu'
              have e4 := RC.enc_len R u
              rw [e3] at e4
              have hby : i.bytes ≤ 64 := by simpa [Program.bytesOf, hi] using h2
              have hsz : i.size = R.sz := by simpa [Program.cellsOf, hi] using h1
              have hb1 : (i.bytes : Int) * n ≤ 281474976710656 := by
                have : (i.bytes : Int) * n ≤ 64 * n := Int.mul_le_mul_of_nonneg_right (by omega) h3
                omega
              have hr := run_make (P := E.P) w t e i z hu hi hz .i64 .i64 n n h3 (Int.le_refl _) hb1 (by omega)
              rw [List.length_replicate]
              refine ⟨⟨w.heap.size, 0, n.toNat⟩, _, _, hr, mk_new_sl hh.len (by simp), ?_, HLe.snoc _ _⟩
              refine hh.alloc rfl rfl rfl (by simp) (fun k hk => heap_alloc_old w _ k hk) (heap_alloc_new w _) (fun hn => ?_) (by simp)
              refine ⟨by simp, by show n.toNat ≤ maxLen; unfold maxLen; omega, fun k q hk o c hc => ?_, fun _ => ⟨rfl, fun _ => ⟨_, e, hn, ?_⟩⟩⟩
              · have hkn : k < n.toNat := by have := lt_of_getElem? hk; simpa using this
                have hq : q = u := by
                  have h5 := hk
                  rw [List.getElem?_replicate] at h5
                  simp [hkn] at h5
                  exact h5.symm
                subst hq
                have ho := lt_of_getElem? hc
                rw [cell_of_row _ _ _ _ _ _ hn]
                have := made_get (cv.map CV.val) n.toNat k o hkn (by rw [List.length_map]; rw [e3] at ho; exact ho)
                rw [List.length_map, e4] at this
                rw [hws, hsz, Nat.zero_add, this, List.getElem?_map, ← e3, hc]
                rfl
              · exact ⟨by rw [size_madeCells, hsz], fun h => h8.resolve_left (fun g => g h)⟩
            · cases h
          · cases h
        · cases h
      · cases h
    · cases h
  · cases h

/-- the types of what is appended -/
def srcD (d : TypeDesc) : Prop := (∃ e, d = .slice e) ∨ d = .string

/-- the running of an append, off what is read -/
theorem append_room {t t' ty e : TypeId} {d : TypeDesc} {i : TypeInfo} (ht : E.P.underlying t = some (.slice e)) (ht' : E.P.underlying t' = some d) (hd : srcD d) (hi : E.P.info? e = some i) {sa : Option Addr} {n cap m : Nat} {Y : Value} {news : List Value} {b : Nat} {cur : List Value} {te : TypeId}
    (hY : Builtin.lenOf Y = pure m) (hf : (Builtin.firstCells i.size m Y).run E.P w = .ok ⟨news⟩ w) (hl : news.length = m * i.size) (h1 : ∀ u ∈ news, u.oneCell' = true)
    (hs : 0 < cap → sa = some ⟨b, 0, none⟩ ∧ w.heap[b]? = some (.cells ⟨cur⟩ te (0, 0)) ∧ cur.length = cap * i.size) (hroom : n + m ≤ cap) :
    (Builtin.append_ #[t, t'] ty #[.slice sa n cap, Y]).run E.P w = .ok (.slice sa (n + m) cap) (if 0 < cap then w.setRow b ⟨splice cur (n * i.size) news⟩ else w) := by
  by_cases hc : 0 < cap
  · obtain ⟨rfl, hg, hcl⟩ := hs hc
    have hfit : n * i.size + news.length ≤ cur.length := by rw [hl, hcl, ← Nat.add_mul]; exact Nat.mul_le_mul_right _ hroom
    have hst := run_storeCells_at E.P b (n * i.size) te news 0 ⟨cur⟩ w hg (by simpa using hfit) h1
    simp only [Nat.add_zero] at hst
    rw [if_pos hc]
    rcases hd with ⟨e', rfl⟩ | rfl <;> simp [Builtin.append_, run_underlying ht, run_underlying ht', sizeOf, typeInfo, hi, hY, hroom, hf, Addr.add_lit, hst, splice]
  · have h0 : n = 0 ∧ m = 0 := by omega
    obtain ⟨rfl, rfl⟩ := h0
    have hn : news = [] := List.eq_nil_of_length_eq_zero (by simpa using hl)
    subst hn
    rw [if_neg hc]
    rcases hd with ⟨e', rfl⟩ | rfl <;> cases sa <;> simp [Builtin.append_, run_underlying ht, run_underlying ht', sizeOf, typeInfo, hi, hY, hf, storeCells]

theorem firstCells_drew {i m : Nat} {xa : Option Addr} {c : Nat} {news : List Value} (h : ∀ j v, news[j]? = some v → ∃ a, xa = some a ∧ w.cell? (a.add j) = some v) (hl : news.length = m * i) :
    (Builtin.firstCells i m (.slice xa m c)).run E.P w = .ok ⟨news⟩ w := by
  cases xa with
  | none =>
    have : news = [] := by
      cases news with
      | nil => rfl
      | cons v vs => obtain ⟨a, ha, _⟩ := h 0 v rfl; cases ha
    subst this
    rfl
  | some a => exact run_firstCells_some (P := E.P) w i m a m c news hl (fun j v hj => by obtain ⟨a', ha, hc⟩ := h j v hj; cases ha; exact hc)

theorem append_more {t t' ty e : TypeId} {d : TypeDesc} {i : TypeInfo} {z : Value} (ht : E.P.underlying t = some (.slice e)) (ht' : E.P.underlying t' = some d) (hd : srcD d) (hi : E.P.info? e = some i) (hz : i.zero = some z) {sa : Option Addr} {n cap m : Nat} {Y : Value} {olds news : List Value}
    (hY : Builtin.lenOf Y = pure m) (h1 : (Builtin.firstCells i.size m Y).run E.P w.drew = .ok ⟨news⟩ w.drew) (_hl : news.length = m * i.size)
    (hs : ∀ j v, olds[j]? = some v → ∃ a, sa = some a ∧ w.cell? (a.add j) = some v) (hol : olds.length = n * i.size) (hroom : cap < n + m) (hby : 0 < i.bytes) (hsz : i.bytes ≤ 64) (hsmall : n + m ≤ 2199023255552) :
    (Builtin.append_ #[t, t'] ty #[.slice sa n cap, Y]).run E.P w =
      .ok (.slice (some ⟨w.heap.size, 0, none⟩) (n + m) (grownCap w (n + m) cap e)) (w.drew.alloc (.cells ⟨olds ++ news ++ (Builtin.zeroCells z.cells (grownCap w (n + m) cap e - (n + m))).toList⟩ e)) := by
  have h2 := firstCells_drew (E := E) (w := w.drew) (c := cap) (fun j v hj => hs j v hj) hol
  have hnc : ¬ n + m ≤ cap := by omega
  have hcap := growslice_fits (need := n + m) (old := cap) (bytes := i.bytes) hroom (by
    have : (n + m) * i.bytes ≤ (n + m) * 64 := Nat.mul_le_mul_left _ hsz
    omega)
  have hov : ¬ ((n : Int) + (m : Int) > IntKind.i64.max ∧ i.bytes = 0) := by omega
  have hbig : ¬ (281474976710656 < Builtin.nextslicecap (n + m) cap * i.bytes) := by omega
  have hb0 : i.bytes ≠ 0 := by omega
  rcases hd with ⟨e', rfl⟩ | rfl
  · simp [Builtin.append_, run_underlying ht, run_underlying ht', sizeOf, typeInfo, hi, hY, hnc, hbig, hb0, Question.forced, h1, h2, zeroValue, hz, newRow, grownCap]
    congr 2
    apply Array.ext'
    simp
  · simp [Builtin.append_, run_underlying ht, run_underlying ht', sizeOf, typeInfo, hi, hY, hnc, hbig, hb0, Question.forced, h1, h2, zeroValue, hz, newRow, grownCap]
    congr 2
    apply Array.ext'
    simp

end
end Go.Proofs.Ytiboohplkihhnaa
