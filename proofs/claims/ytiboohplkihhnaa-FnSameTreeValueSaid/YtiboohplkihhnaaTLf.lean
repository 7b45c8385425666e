/- The abstract step of an operation is what the model does: conversions and slice expressions. Conditions: none. -/
import Derived.Test.YtiboohplkihhnaaTLe
import Derived.Laws.BytesString
namespace Go.Proofs.Ytiboohplkihhnaa
open Go

section
variable {E : Env} {w0 : World} {X : Nat → Prop} {θ0 θ : List Loc} {H H' : List Blk} {w : World}

theorem conv_bytes (xs : List Int) (ad : Addr) (c : Nat) (h : ∀ j x, xs[j]? = some x → w.cell? (ad.add j) = some (.int .u8 x)) :
    (Conv.bytesToString (.slice (some ad) xs.length c)).run E.P w = .ok (.string ⟨⟨bytesOf xs⟩⟩) w := by
  have hl := run_loadCells_list (P := E.P) (w := w) ad (xs.map fun n => Value.int .u8 n) (fun j v hj => by
    rw [List.getElem?_map] at hj
    cases hx : xs[j]? with
    | none => rw [hx] at hj; cases hj
    | some x => rw [hx] at hj; cases hj; exact h j x hx)
  simp only [List.length_map] at hl
  simp only [Conv.bytesToString, Sem.run_bind, hl, Result.andThen_ok, List.forIn_toArray]
  have he : (ByteArray.empty : ByteArray) = ⟨⟨[]⟩⟩ := rfl
  rw [he, run_bytesToString (E := E) _ (fun _ _ => rfl) xs [] w]
  rfl

theorem convS_good (hh : HRel E w0 X θ0 θ H w) {s d : TypeId} {a : AV} {x : Value} {φ : Prop} {v : AV} (h : convS E H s d a = some (φ, v, H')) (ha : a.R θ H x)
    (hs : (underlying s).run E.P w = .ok ((E.P.underlying s).getD .invalid) w) :
    H' = H ∧ ∃ z, (convert s d x).run E.P w = .ok z w ∧ v.R θ H z := by
  unfold convS at h
  split at h
  · rename_i k n
    cases ha
    split at h
    · rename_i k' hd
      simp only [outC, Option.some.injEq, Prod.mk.injEq] at h
      obtain ⟨rfl, rfl, rfl⟩ := h
      refine ⟨rfl, .int k' (k'.wrap n), ?_, rfl⟩
      simp only [convert, Sem.run_bind, hs, run_underlying hd, Result.andThen_ok, CV.val]
      rfl
    · cases h
  · cases ha
    split at h
    · rename_i h1 h2
      simp only [outC, Option.some.injEq, Prod.mk.injEq] at h
      obtain ⟨rfl, rfl, rfl⟩ := h
      refine ⟨rfl, _, ?_, rfl⟩
      simp only [convert, Sem.run_bind, run_underlying h1, run_underlying h2, Result.andThen_ok, CV.val]
      rfl
    · cases h
  · rename_i r off len
    split at h
    · rename_i e h1 h2
      split at h
      · rename_i xs own he hH
        simp only [outC, Option.some.injEq, Prod.mk.injEq] at h
        obtain ⟨rfl, rfl, rfl⟩ := h
        obtain ⟨l, ad, hl, hlen, hcap, rfl, had⟩ := sl_R (R := .u8) hh ha hH
        have hb := hh.bl r l _ hl hH
        refine ⟨rfl, .string ⟨⟨bytesOf ((xs.drop off).take len)⟩⟩, ?_, rfl⟩
        simp only [convert, Sem.run_bind, run_underlying h1, run_underlying h2, Result.andThen_ok]
        have goal : (Conv.bytesToString (.slice ad len (l.cap - off))).run E.P w = .ok (.string ⟨⟨bytesOf ((xs.drop off).take len)⟩⟩) w := by
          by_cases hz : len = 0
          · subst hz
            cases ad with
            | none => simp [Conv.bytesToString, bytesOf]; rfl
            | some ad => exact conv_bytes (E := E) (w := w) [] ad _ (fun j x hj => by simp at hj)
          · have hoff : off < l.cap := by omega
            have := had hoff
            subst this
            have hlen' : ((xs.drop off).take len).length = len := by simp; omega
            have := conv_bytes (E := E) (w := w) ((xs.drop off).take len) ⟨l.b, l.off + off * RC.u8.sz, none⟩ (l.cap - off) (fun j x hj => by
              rw [List.getElem?_take] at hj
              by_cases hjl : j < len
              · simp only [hjl, if_true, List.getElem?_drop] at hj
                have := hb.2.2.1 (off + j) x hj 0 _ rfl
                rw [addr_add]
                simpa [RC.sz, Nat.add_assoc, CV.val] using this
              · simp [hjl] at hj)
            rw [hlen'] at this
            exact this
        simpa [run_underlying he] using goal
      · cases h
    · cases h
  · cases h


theorem iOf_R {b : Option AV} {n : Int} (h : iOf b = some n) : ∃ k, b = some (.one (.e (.c (.int k n)))) := by
  unfold iOf at h
  split at h
  · rename_i k m; cases h; exact ⟨k, rfl⟩
  · cases h

/-- the operands of a slice expression as values -/
def OptR (θ : List Loc) (H : List Blk) : Option (Option AV) → Option Value → Prop
  | none, none => True
  | some (some a), some v => a.R θ H v
  | some none, some _ => True
  | _, _ => False

theorem mk_sl {r off len : Nat} {l : Loc} {R : RC} {xs : List R.A} {own : Bool} {a : Option Addr} (hl : θ[r]? = some l) (hH : H[r]? = some (.row R xs own)) (hk : off + len ≤ xs.length)
    (ha : off < l.cap → a = some ⟨l.b, l.off + off * R.sz, none⟩) : (CE.sl r off len).R θ H (.slice a len (l.cap - off)) := by
  refine ⟨l, hl, fun R' xs' own' h => ?_⟩
  rw [hH] at h
  cases h
  exact ⟨hk, a, rfl, ha⟩

/-- a piece of a slice -/
theorem mk_piece {r off len lo hi : Nat} {l : Loc} {R : RC} {xs : List R.A} {own : Bool} {a : Option Addr} (hl : θ[r]? = some l) (hH : H[r]? = some (.row R xs own)) (hk : off + len ≤ xs.length) (hcap : xs.length ≤ l.cap)
    (ha : off < l.cap → a = some ⟨l.b, l.off + off * R.sz, none⟩) (h1 : lo ≤ hi) (h2 : hi ≤ len) :
    (CE.sl r (off + lo) (hi - lo)).R θ H (.slice (if l.cap - off = lo then a else a.map (·.add (lo * R.sz))) (hi - lo) (l.cap - off - lo)) := by
  rw [Nat.sub_sub]
  refine mk_sl hl hH (by omega) fun hlt => ?_
  rw [if_neg (by omega), ha (by omega)]
  simp [addr_add, Nat.add_mul, Nat.add_assoc]

theorem str_extract (s : List UInt8) (l h : Nat) : (⟨⟨s⟩⟩ : ByteArray).extract l h = ⟨⟨(s.take h).drop l⟩⟩ := by
  apply ByteArray.ext
  simp [List.extract_eq_take_drop, List.drop_take]

theorem sliceS_good (hh : HRel E w0 X θ0 θ H w) {t : TypeId} {a : AV} {x : Value} {lo hi : Option (Option AV)} {vl vh : Option Value} {φ : Prop} {v : AV}
    (h : sliceS E H t a lo hi = some (φ, v, H')) (hφ : φ) (ha : a.R θ H x) (hlo : OptR θ H lo vl) (hhi : OptR θ H hi vh) :
    H' = H ∧ ∃ z, (Instr.sliceAt t x vl vh none).run E.P w = .ok z w ∧ v.R θ H z := by
  unfold sliceS at h
  split at h
  · rename_i r off len
    split at h
    · rename_i e R xs own hu hH
      split at h
      · rename_i hsz
        obtain ⟨l, ad, hl, hlen, hcap, rfl, had⟩ := sl_R hh ha hH
        have hs := run_sizeOf_n (P := E.P) w hsz (RC.sz_pos R)
        have hat : ∀ vl vh, (Instr.sliceAt t (.slice ad len (l.cap - off)) vl vh none).run E.P w = (Instr.slice t (.slice ad len (l.cap - off)) vl vh none).run E.P w := by
          intro vl vh; simp [Instr.sliceAt, run_underlying hu]
        rw [hat]
        split at h
        · match vl, vh, hlo, hhi with
          | none, none, _, _ =>
            simp only [outG, Option.some.injEq, Prod.mk.injEq] at h
            obtain ⟨rfl, rfl, rfl⟩ := h
            refine ⟨rfl, _, ?_, mk_piece (lo := 0) (hi := len) hl hH hlen hcap had (Nat.zero_le _) (Nat.le_refl _)⟩
            simp [Instr.slice, run_underlying hu, Instr.sliceBounds, hs]
        · rename_i l'
          split at h
          · rename_i n hn
            obtain ⟨k, rfl⟩ := iOf_R hn
            match vl, vh, hlo, hhi with
            | some _, none, hlo, _ =>
              cases hlo
              simp only [outG, Option.some.injEq, Prod.mk.injEq] at h
              obtain ⟨rfl, rfl, rfl⟩ := h
              rw [addN_eq]
              refine ⟨rfl, _, ?_, mk_piece (lo := n.toNat) (hi := len) hl hH hlen hcap had (by omega) (Nat.le_refl _)⟩
              simp [Instr.slice, run_underlying hu, Instr.sliceBounds, hs, run_sliceBound, hφ, CV.val]
          · cases h
        · rename_i h'
          split at h
          · rename_i n hn
            obtain ⟨k, rfl⟩ := iOf_R hn
            match vl, vh, hlo, hhi with
            | none, some _, _, hhi =>
              cases hhi
              simp only [outG, Option.some.injEq, Prod.mk.injEq] at h
              obtain ⟨rfl, rfl, rfl⟩ := h
              refine ⟨rfl, _, ?_, mk_piece (lo := 0) (hi := n.toNat) hl hH hlen hcap had (by omega) (by omega)⟩
              have hle : n ≤ ((l.cap - off : Nat) : Int) := by omega
              simp [Instr.slice, run_underlying hu, Instr.sliceBounds, hs, run_sliceBound, hφ.1, hle, CV.val]
          · cases h
        · rename_i l' h'
          split at h
          · rename_i n m hn hm
            obtain ⟨k, rfl⟩ := iOf_R hn
            obtain ⟨k', rfl⟩ := iOf_R hm
            match vl, vh, hlo, hhi with
            | some _, some _, hlo, hhi =>
              cases hlo; cases hhi
              simp only [outG, Option.some.injEq, Prod.mk.injEq] at h
              obtain ⟨rfl, rfl, rfl⟩ := h
              rw [addN_eq]
              refine ⟨rfl, _, ?_, mk_piece (lo := n.toNat) (hi := m.toNat) hl hH hlen hcap had (by omega) (by omega)⟩
              have hle : m ≤ ((l.cap - off : Nat) : Int) := by omega
              have h0 : 0 ≤ m := by omega
              have hmm : n ≤ (m.toNat : Int) := by omega
              have hb := run_sliceBound (P := E.P) w k n m.toNat .sliceB hφ.1 hmm
              simp [Instr.slice, run_underlying hu, Instr.sliceBounds, hs, run_sliceBound, hb, h0, hle, CV.val]
          · cases h
      · cases h
    · cases h
  · rename_i s
    cases ha
    split at h
    · rename_i hu
      have hat : ∀ vl vh, (Instr.sliceAt t (.string ⟨⟨s⟩⟩) vl vh none).run E.P w = (Instr.slice t (.string ⟨⟨s⟩⟩) vl vh none).run E.P w := by
        intro vl vh; simp [Instr.sliceAt, run_underlying hu]
      have hsz : (⟨⟨s⟩⟩ : ByteArray).size = s.length := rfl
      simp only [CV.val]
      rw [hat]
      split at h
      · match vl, vh, hlo, hhi with
        | none, none, _, _ =>
          simp only [outC, Option.some.injEq, Prod.mk.injEq] at h
          obtain ⟨rfl, rfl, rfl⟩ := h
          refine ⟨rfl, _, ?_, rfl⟩
          simp [Instr.slice, run_underlying hu, Instr.sliceBounds, CV.val]
      · rename_i l'
        split at h
        · rename_i n hn
          obtain ⟨k, rfl⟩ := iOf_R hn
          match vl, vh, hlo, hhi with
          | some _, none, hlo, _ =>
            cases hlo
            simp only [outC, Option.some.injEq, Prod.mk.injEq] at h
            obtain ⟨rfl, rfl, rfl⟩ := h
            refine ⟨rfl, _, ?_, rfl⟩
            simp [Instr.slice, run_underlying hu, Instr.sliceBounds, run_sliceBound, hφ, str_extract, hsz, CV.val]
        · cases h
      · rename_i h'
        split at h
        · rename_i n hn
          obtain ⟨k, rfl⟩ := iOf_R hn
          match vl, vh, hlo, hhi with
          | none, some _, _, hhi =>
            cases hhi
            simp only [outC, Option.some.injEq, Prod.mk.injEq] at h
            obtain ⟨rfl, rfl, rfl⟩ := h
            refine ⟨rfl, _, ?_, rfl⟩
            simp [Instr.slice, run_underlying hu, Instr.sliceBounds, run_sliceBound, hφ, str_extract, hsz, CV.val]
        · cases h
      · rename_i l' h'
        split at h
        · rename_i n m hn hm
          obtain ⟨k, rfl⟩ := iOf_R hn
          obtain ⟨k', rfl⟩ := iOf_R hm
          match vl, vh, hlo, hhi with
          | some _, some _, hlo, hhi =>
            cases hlo; cases hhi
            simp only [outC, Option.some.injEq, Prod.mk.injEq] at h
            obtain ⟨rfl, rfl, rfl⟩ := h
            refine ⟨rfl, _, ?_, rfl⟩
            have h0 : 0 ≤ m := by omega
            have hmm : n ≤ (m.toNat : Int) := by omega
            have hb := run_sliceBound (P := E.P) w k n m.toNat .sliceB hφ.1 hmm
            simp [Instr.slice, run_underlying hu, Instr.sliceBounds, run_sliceBound, hb, hφ.2.2, h0, str_extract, hsz, CV.val]
        · cases h
    · cases h
  · cases h

end
end Go.Proofs.Ytiboohplkihhnaa
