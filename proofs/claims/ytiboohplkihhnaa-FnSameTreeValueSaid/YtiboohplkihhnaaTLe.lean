/- The abstract step of an operation is what the model does: operations that read memory. Conditions: none. -/
import Derived.Test.YtiboohplkihhnaaTLd
import Derived.Laws.Cells
namespace Go.Proofs.Ytiboohplkihhnaa
open Go

theorem addr_add (b o n : Nat) : (⟨b, o, none⟩ : Addr).add n = ⟨b, o + n, none⟩ := by
  unfold Addr.add
  split
  · rename_i h; subst h; rfl
  · rfl

theorem info_of_cells {P : Program} {t : TypeId} {n : Nat} (h : P.cellsOf t = n) (hn : 0 < n) : ∃ i, P.info? t = some i ∧ i.size = n := by
  unfold Program.cellsOf at h
  cases hi : P.info? t with
  | none => rw [hi] at h; simp at h; omega
  | some i => rw [hi] at h; exact ⟨i, rfl, by simpa using h⟩

theorem run_sizeOf_n {P : Program} {t : TypeId} {n : Nat} (w : World) (h : P.cellsOf t = n) (hn : 0 < n) : (sizeOf t).run P w = .ok n w := by
  obtain ⟨i, hi, hs⟩ := info_of_cells h hn
  simp [sizeOf, typeInfo, hi, hs]

section
variable {E : Env} {w0 : World} {X : Nat → Prop} {θ0 θ : List Loc} {H H' : List Blk} {w : World}

theorem sl_R {r off len : Nat} {v : Value} {R : RC} {xs : List R.A} {own : Bool} (h : HRel E w0 X θ0 θ H w) (hv : (CE.sl r off len).R θ H v) (hH : H[r]? = some (.row R xs own)) :
    ∃ l a, θ[r]? = some l ∧ off + len ≤ xs.length ∧ xs.length ≤ l.cap ∧ v = .slice a len (l.cap - off) ∧ (off < l.cap → a = some ⟨l.b, l.off + off * R.sz, none⟩) := by
  obtain ⟨l, hl, hx⟩ := hv
  obtain ⟨h1, a, h3, h4⟩ := hx R xs own hH
  exact ⟨l, a, hl, h1, (h.bl r l _ hl hH).1, h3, h4⟩

theorem rp_R {r k o : Nat} {v : Value} {R : RC} {xs : List R.A} {own : Bool} (hv : (CE.rp r k o).R θ H v) (hH : H[r]? = some (.row R xs own)) :
    ∃ l, θ[r]? = some l ∧ k < xs.length ∧ v = .pointer (some ⟨l.b, l.off + k * R.sz + o, none⟩) := by
  obtain ⟨l, hl, hx⟩ := hv
  exact ⟨l, hl, hx R xs own hH⟩

theorem mk_rp {r k o : Nat} {l : Loc} {R : RC} {xs : List R.A} {own : Bool} (hl : θ[r]? = some l) (hH : H[r]? = some (.row R xs own)) (hk : k < xs.length) :
    (CE.rp r k o).R θ H (.pointer (some ⟨l.b, l.off + k * R.sz + o, none⟩)) := by
  refine ⟨l, hl, fun R' xs' own' h => ?_⟩
  rw [hH] at h
  cases h
  exact ⟨hk, rfl⟩

/-- a field's place -/
theorem fieldOff_run {t : TypeId} {f d ft : Nat} (h : fieldOff E t f = some (d, ft)) (b o : Nat) : (Instr.fieldAt t (.pointer (some ⟨b, o, none⟩)) f).run E.P w = .ok (.pointer (some ⟨b, o + d, none⟩)) w := by
  unfold fieldOff at h
  split at h
  · rename_i fs hu
    split at h
    · rename_i fd hf
      split at h
      · cases h
      · rename_i hn
        cases h
        have hsz := run_sizeOf_n (P := E.P) (t := fd.type) w rfl (by omega)
        simp only [Instr.fieldAt, Sem.run_bind, run_underlying hu, Result.andThen_ok, hf, Instr.sureAddr, Sem.run_pure, fieldPlace, hsz, if_neg hn, addr_add]
    · cases h
  · cases h

theorem fieldAddrS_good {t : TypeId} {f : Nat} {a : AV} {x : Value} {φ : Prop} {v : AV} (h : fieldAddrS E H t f a = some (φ, v, H')) (ha : a.R θ H x) :
    H' = H ∧ ∃ z, (Instr.fieldAt t x f).run E.P w = .ok z w ∧ v.R θ H z := by
  unfold fieldAddrS at h
  split at h
  · rename_i r o
    obtain ⟨l, hl, rfl⟩ := ha
    split at h
    · rename_i d ft hf
      simp only [outG, Option.some.injEq, Prod.mk.injEq] at h
      obtain ⟨rfl, rfl, rfl⟩ := h
      exact ⟨rfl, _, fieldOff_run hf _ _, l, hl, rfl⟩
    · cases h
  · rename_i r k o
    split at h
    · rename_i d ft R xs own hf hH
      simp only [outG, Option.some.injEq, Prod.mk.injEq] at h
      obtain ⟨rfl, rfl, rfl⟩ := h
      obtain ⟨l, hl, hk, rfl⟩ := rp_R (θ := θ) ha hH
      refine ⟨rfl, _, fieldOff_run hf _ _, ?_⟩
      rw [Nat.add_assoc]
      exact mk_rp hl hH hk
    · cases h
  · cases h

theorem partS_good {t : TypeId} {l : List CE} {off : Nat} {vs : List Value} {φ : Prop} {v : AV} (h : partS E H t l off = some (φ, v, H')) (hl : All2 (CE.R θ H) l vs) :
    H' = H ∧ ∃ z, (part t ⟨vs⟩ off).run E.P w = .ok z w ∧ v.R θ H z := by
  unfold partS at h
  split at h
  · rename_i hagg
    simp only [outG, Option.some.injEq, Prod.mk.injEq] at h
    obtain ⟨rfl, rfl, rfl⟩ := h
    refine ⟨rfl, .agg ⟨(vs.drop off).take (E.P.cellsOf t)⟩, ?_, _, rfl, hl.extract off (E.P.cellsOf t)⟩
    unfold aggT at hagg
    split at hagg
    · rename_i fs hu
      have hi : ∃ i, E.P.info? t = some i := by
        cases hi : E.P.info? t with
        | none => simp [Program.underlying, hi] at hu
        | some i => exact ⟨i, rfl⟩
      obtain ⟨i, hi⟩ := hi
      simp [part, isAgg, run_underlying hu, sizeOf, typeInfo, hi, Program.cellsOf]
    · rename_i n e hu
      have hi : ∃ i, E.P.info? t = some i := by
        cases hi : E.P.info? t with
        | none => simp [Program.underlying, hi] at hu
        | some i => exact ⟨i, rfl⟩
      obtain ⟨i, hi⟩ := hi
      simp [part, isAgg, run_underlying hu, sizeOf, typeInfo, hi, Program.cellsOf]
    · cases hagg
    · cases hagg
  · rename_i hagg
    split at h
    · rename_i x hx
      simp only [outG, Option.some.injEq, Prod.mk.injEq] at h
      obtain ⟨rfl, rfl, rfl⟩ := h
      obtain ⟨z, hz, hR⟩ := hl.get off x hx
      refine ⟨rfl, z, ?_, hR⟩
      unfold aggT at hagg
      split at hagg
      · cases hagg
      · cases hagg
      · rename_i d hns hna hu
        have : (isAgg t).run E.P w = .ok false w := by
          simp only [isAgg, Sem.run_bind, run_underlying hu, Result.andThen_ok]
          cases d <;> first | rfl | (exact absurd hu (hns _)) | (exact absurd hu (hna _ _))
        simp [part, Sem.run_bind, this, hz]
      · cases hagg
    · cases h
  · cases h

theorem aggT_true {t : TypeId} (h : aggT E t = some true) : (isAgg t).run E.P w = .ok true w ∧ (sizeOf t).run E.P w = .ok (E.P.cellsOf t) w := by
  unfold aggT at h
  split at h
  · rename_i fs hu
    obtain ⟨i, hi⟩ : ∃ i, E.P.info? t = some i := by
      cases hi : E.P.info? t with
      | none => simp [Program.underlying, hi] at hu
      | some i => exact ⟨i, rfl⟩
    simp [isAgg, run_underlying hu, sizeOf, typeInfo, hi, Program.cellsOf]
  · rename_i n e hu
    obtain ⟨i, hi⟩ : ∃ i, E.P.info? t = some i := by
      cases hi : E.P.info? t with
      | none => simp [Program.underlying, hi] at hu
      | some i => exact ⟨i, rfl⟩
    simp [isAgg, run_underlying hu, sizeOf, typeInfo, hi, Program.cellsOf]
  · cases h
  · cases h

theorem aggT_false {t : TypeId} (h : aggT E t = some false) : (isAgg t).run E.P w = .ok false w := by
  unfold aggT at h
  split at h
  · cases h
  · cases h
  · rename_i d hns hna hu
    simp only [isAgg, Sem.run_bind, run_underlying hu, Result.andThen_ok]
    cases d <;> first | rfl | (exact absurd hu (hns _)) | (exact absurd hu (hna _ _))
  · cases h

theorem loadAt_agg {t : TypeId} {b o : Nat} {vs : List Value} (h : aggT E t = some true) (hn : E.P.cellsOf t = vs.length) (hc : ∀ j v, vs[j]? = some v → w.cell? ⟨b, o + j, none⟩ = some v) :
    (Instr.loadAt t (.pointer (some ⟨b, o, none⟩))).run E.P w = .ok (.agg ⟨vs⟩) w := by
  have hl := run_loadCells_list (P := E.P) (w := w) ⟨b, o, none⟩ vs (fun j v hj => by rw [addr_add]; exact hc j v hj)
  simp only [Instr.loadAt, Instr.sureAddr, Sem.run_bind, Sem.run_pure, Result.andThen_ok, loadVar, (aggT_true h).1, if_true, (aggT_true h).2, hn, hl]

theorem loadAt_one {t : TypeId} {b o : Nat} {v : Value} (h : aggT E t = some false) (hc : w.cell? ⟨b, o, none⟩ = some v) :
    (Instr.loadAt t (.pointer (some ⟨b, o, none⟩))).run E.P w = .ok v w := by
  simp [Instr.loadAt, Instr.sureAddr, loadVar, aggT_false h, run_load, hc]

theorem cells_get {b : Nat} {vs : List Value} {e : TypeId} {f : Nat × Nat} (h : w.heap[b]? = some (.cells ⟨vs⟩ e f)) (o : Nat) : w.cell? ⟨b, o, none⟩ = vs[o]? := by
  simp [World.cell?, h]

theorem enc_map_get {R : RC} {x : R.A} {j : Nat} {v : Value} (h : ((R.enc x).map CV.val)[j]? = some v) : ∃ y, (R.enc x)[j]? = some y ∧ v = y.val := by
  rw [List.getElem?_map] at h
  cases hy : (R.enc x)[j]? with
  | none => rw [hy] at h; cases h
  | some y => rw [hy] at h; cases h; exact ⟨y, rfl, rfl⟩

theorem getD_of_lt {α : Type} {l : List α} {k : Nat} (h : k < l.length) (d : α) : l[k]? = some (l.getD k d) := by
  rw [List.getD_eq_getElem?_getD, List.getElem?_eq_getElem h]; rfl

theorem All2_c {θ : List Loc} {H : List Blk} : ∀ (l : List CV), All2 (CE.R θ H) (l.map .c) (l.map CV.val)
  | [] => trivial
  | _ :: l => ⟨rfl, All2_c l⟩

/-- the cells of some elements of a row, one after the other -/
theorem flat_get {R : RC} (hs : R.sz = 1) : ∀ (xs : List R.A) (j : Nat) (v : Value), ((xs.flatMap R.enc).map CV.val)[j]? = some v → ∃ x y, xs[j]? = some x ∧ (R.enc x)[0]? = some y ∧ v = y.val
  | [], j, v, h => by simp at h
  | x :: xs, j, v, h => by
    have hl : (R.enc x).length = 1 := (RC.enc_len R x).trans hs
    obtain ⟨y, hy⟩ : ∃ y, R.enc x = [y] := by
      match hx : R.enc x, hl with
      | [y], _ => exact ⟨y, rfl⟩
    rw [List.flatMap_cons, hy, List.map_append, List.map_cons, List.map_nil] at h
    cases j with
    | zero => simp at h; exact ⟨x, y, rfl, by rw [hy]; rfl, h.symm⟩
    | succ j =>
      simp only [List.cons_append, List.nil_append, List.getElem?_cons_succ] at h
      obtain ⟨x', y', h1, h2, h3⟩ := flat_get hs xs j v h
      exact ⟨x', y', by simpa using h1, h2, h3⟩

theorem flat_len {R : RC} (hs : R.sz = 1) : ∀ (xs : List R.A), (xs.flatMap R.enc).length = xs.length
  | [] => rfl
  | x :: xs => by rw [List.flatMap_cons, List.length_append, flat_len hs xs, RC.enc_len, hs, List.length_cons]; omega

theorem loadS_good (hh : HRel E w0 X θ0 θ H w) {t : TypeId} {a : AV} {x : Value} {φ : Prop} {v : AV} (h : loadS E H t a = some (φ, v, H')) (hφ : φ) (ha : a.R θ H x) :
    H' = H ∧ ∃ z, (Instr.loadAt t x).run E.P w = .ok z w ∧ v.R θ H z := by
  unfold loadS at h
  split at h
  · rename_i r o
    obtain ⟨l, hl, rfl⟩ := ha
    split at h
    · rename_i cs hH
      obtain ⟨vs, e, hheap, hall, _⟩ := hh.bl r l _ hl hH
      split at h
      · rename_i hagg
        split at h
        · rename_i hle
          simp only [outG, Option.some.injEq, Prod.mk.injEq] at h
          obtain ⟨rfl, rfl, rfl⟩ := h
          have hlen := hall.length
          refine ⟨rfl, _, loadAt_agg (vs := (vs.drop o).take (E.P.cellsOf t)) hagg (by simp; omega) (fun j v hj => ?_), _, rfl, hall.extract o _⟩
          rw [cells_get hheap]
          rw [List.getElem?_take] at hj
          by_cases hjn : j < E.P.cellsOf t
          · simpa [hjn] using hj
          · simp [hjn] at hj
        · cases h
      · rename_i hagg
        split at h
        · rename_i x hx
          simp only [outG, Option.some.injEq, Prod.mk.injEq] at h
          obtain ⟨rfl, rfl, rfl⟩ := h
          obtain ⟨z, hz, hR⟩ := hall.get o x hx
          exact ⟨rfl, z, loadAt_one hagg (by rw [cells_get hheap, hz]), hR⟩
        · cases h
      · cases h
    · cases h
  · rename_i r k o
    split at h
    · rename_i R xs own hH
      obtain ⟨l, hl, hk, rfl⟩ := rp_R (θ := θ) ha hH
      have hb := hh.bl r l _ hl hH
      have hx := getD_of_lt hk R.dft
      split at h
      · rename_i hagg
        split at h
        · split at h
          · rename_i harr hos
            obtain ⟨rfl, hsz⟩ := hos
            simp only [outG, Option.some.injEq, Prod.mk.injEq] at h
            obtain ⟨rfl, rfl, rfl⟩ := h
            refine ⟨rfl, _, loadAt_agg (vs := ((((xs.drop k).take (E.P.cellsOf t)).flatMap R.enc).map CV.val)) hagg (by rw [List.length_map, flat_len hsz]; simp; omega) (fun j v hj => ?_), rfl⟩
            obtain ⟨x, y, h1, h2, rfl⟩ := flat_get hsz _ j v hj
            rw [List.getElem?_take] at h1
            by_cases hjn : j < E.P.cellsOf t
            · simp only [hjn, if_true, List.getElem?_drop] at h1
              have := hb.2.2.1 (k + j) x h1 0 y h2
              rw [hsz] at this ⊢
              simpa [Nat.add_assoc] using this
            · simp [hjn] at h1
          · cases h
        · split at h
          · rename_i harr hos
            obtain ⟨rfl, hsz⟩ := hos
            simp only [outG, Option.some.injEq, Prod.mk.injEq] at h
            obtain ⟨rfl, rfl, rfl⟩ := h
            refine ⟨rfl, _, loadAt_agg (vs := (R.enc (xs.getD k R.dft)).map CV.val) hagg (by rw [List.length_map, RC.enc_len, hsz]) (fun j v hj => ?_), _, rfl, All2_c _⟩
            obtain ⟨y, hy, rfl⟩ := enc_map_get hj
            exact hb.2.2.1 k _ hx j y hy
          · cases h
      · rename_i hagg
        split at h
        · rename_i y hy
          simp only [outC, Option.some.injEq, Prod.mk.injEq] at h
          obtain ⟨rfl, rfl, rfl⟩ := h
          exact ⟨rfl, _, loadAt_one hagg (hb.2.2.1 k _ hx o y hy), rfl⟩
        · cases h
      · cases h
    · cases h
  · rename_i g k
    cases ha
    split at h
    · rename_i R xs hG
      split at h
      · rename_i hsz
        split at h
        · rename_i hagg
          split at h
          · rename_i y hy
            simp only [outC, Option.some.injEq, Prod.mk.injEq] at h
            obtain ⟨rfl, rfl, rfl⟩ := h
            have hx := getD_of_lt hφ R.dft
            have := (hh.gl g R xs hG).2.2 k _ hx 0 y hy
            rw [hsz] at this
            exact ⟨rfl, _, loadAt_one hagg (by simpa using this), rfl⟩
          · cases h
        · cases h
      · cases h
    · cases h
  · cases h

theorem fieldS_good {t : TypeId} {f : Nat} {a : AV} {x : Value} {φ : Prop} {v : AV} (h : fieldS E H t f a = some (φ, v, H')) (ha : a.R θ H x) :
    H' = H ∧ ∃ z, (Instr.field t x f).run E.P w = .ok z w ∧ v.R θ H z := by
  unfold fieldS at h
  split at h
  · rename_i l
    obtain ⟨vs, rfl, hall⟩ := ha
    split at h
    · rename_i d ft hf
      obtain ⟨hH, z, hz, hR⟩ := partS_good (w := w) h hall
      refine ⟨hH, z, ?_, hR⟩
      unfold fieldOff at hf
      split at hf
      · rename_i fs hu
        split at hf
        · rename_i fd hfd
          split at hf
          · cases hf
          · cases hf
            simp [Instr.field, run_underlying hu, hfd, asAgg, hz]
        · cases hf
      · cases hf
    · cases h
  · cases h

theorem indexAddrS_good (hh : HRel E w0 X θ0 θ H w) {t : TypeId} {a i : AV} {x y : Value} {φ : Prop} {v : AV} (h : indexAddrS E H t a i = some (φ, v, H')) (hφ : φ) (ha : a.R θ H x) (hi : i.R θ H y) :
    H' = H ∧ ∃ z, (Instr.indexAt t x y).run E.P w = .ok z w ∧ v.R θ H z := by
  unfold indexAddrS at h
  split at h
  · rename_i r off len k i
    cases hi
    split at h
    · rename_i e R xs own hu hH
      split at h
      · rename_i hsz
        simp only [outG, Option.some.injEq, Prod.mk.injEq] at h
        obtain ⟨rfl, rfl, rfl⟩ := h
        rw [addN_eq]
        obtain ⟨l, ad, hl, hlen, hcap, rfl, had⟩ := sl_R hh ha hH
        have hoff : off < l.cap := by omega
        have := had hoff
        subst this
        refine ⟨rfl, _, ?_, mk_rp (o := 0) hl hH (k := off + i.toNat) (by omega)⟩
        have hs := run_sizeOf_n (P := E.P) w hsz (RC.sz_pos R)
        simp [Instr.indexAt, asIntOf, run_underlying hu, hφ, hs, addr_add, CV.val, Nat.add_mul, Nat.add_assoc]
      · cases h
    · cases h
  · rename_i r k kk i
    cases hi
    split at h
    · rename_i n e R xs own hu hH
      split at h
      · rename_i hsz
        simp only [outG, Option.some.injEq, Prod.mk.injEq] at h
        obtain ⟨rfl, rfl, rfl⟩ := h
        rw [addN_eq] at hφ ⊢
        obtain ⟨l, hl, hk, rfl⟩ := rp_R (θ := θ) ha hH
        refine ⟨rfl, _, ?_, mk_rp (o := 0) hl hH hφ.2.2⟩
        have hs := run_sizeOf_n (P := E.P) (t := e) w rfl (Nat.pos_of_ne_zero hsz.2)
        have h1 : 0 ≤ i ∧ i < (n : Int) := ⟨hφ.1, hφ.2.1⟩
        simp [Instr.indexAt, asIntOf, run_underlying hu, h1, hs, addr_add, CV.val, Nat.add_assoc, Instr.sureAddr, hsz.1]
      · cases h
    · cases h
  · rename_i g k kk i
    cases hi
    cases ha
    split at h
    · rename_i n e hu
      split at h
      · rename_i hsz
        simp only [outG, Option.some.injEq, Prod.mk.injEq] at h
        obtain ⟨rfl, rfl, rfl⟩ := h
        refine ⟨rfl, _, ?_, rfl⟩
        have hs := run_sizeOf_n (P := E.P) (t := e) w rfl (Nat.pos_of_ne_zero hsz)
        simp [Instr.indexAt, asIntOf, run_underlying hu, hφ, hs, addr_add, CV.val, Instr.sureAddr]
      · cases h
    · cases h
  · cases h

theorem flat_at' {R : RC} : ∀ (xs : List R.A) (k : Nat) (x : R.A), xs[k]? = some x → ∀ (o : Nat) (y : CV), (R.enc x)[o]? = some y → (xs.flatMap R.enc)[k * R.sz + o]? = some y
  | [], k, x, h, _, _, _ => by simp at h
  | z :: xs, 0, x, h, o, y, hy => by
    simp at h; subst h
    rw [List.flatMap_cons, Nat.zero_mul, Nat.zero_add, List.getElem?_append_left (lt_of_getElem? hy), hy]
  | z :: xs, k + 1, x, h, o, y, hy => by
    have ih := flat_at' xs k x (by simpa using h) o y hy
    rw [List.flatMap_cons, List.getElem?_append_right (by rw [RC.enc_len, Nat.succ_mul]; omega), RC.enc_len]
    rw [show (k + 1) * R.sz + o - R.sz = k * R.sz + o by rw [Nat.succ_mul]; omega]
    exact ih

theorem indexS_good {t : TypeId} {a i : AV} {x y : Value} {φ : Prop} {v : AV} (h : indexS E H t a i = some (φ, v, H')) (hφ : φ) (ha : a.R θ H x) (hi : i.R θ H y) :
    H' = H ∧ ∃ z, (Instr.index t x y).run E.P w = .ok z w ∧ v.R θ H z := by
  unfold indexS at h
  split at h
  · rename_i s k i
    cases hi; cases ha
    split at h
    · rename_i hu
      simp only [outC, Option.some.injEq, Prod.mk.injEq] at h
      obtain ⟨rfl, rfl, rfl⟩ := h
      refine ⟨rfl, _, ?_, rfl⟩
      have hlt : i.toNat < s.length := by omega
      have hg : (⟨⟨s⟩⟩ : ByteArray)[i.toNat]? = some (s.getD i.toNat 0) := by
        have hsz : i.toNat < (⟨⟨s⟩⟩ : ByteArray).size := hlt
        have hp : (⟨⟨s⟩⟩ : ByteArray)[i.toNat]? = some ((⟨⟨s⟩⟩ : ByteArray)[i.toNat]'hsz) := getElem?_pos (⟨⟨s⟩⟩ : ByteArray) i.toNat hsz
        rw [hp, List.getD_eq_getElem?_getD, List.getElem?_eq_getElem hlt]
        rfl
      simp [Instr.index, asIntOf, run_underlying hu, CV.val, hφ.1, hg]
    · cases h
  · rename_i R xs k i
    cases hi; cases ha
    split at h
    · rename_i n e hu
      split at h
      · rename_i hsz
        split at h
        · rename_i hagg
          split at h
          · rename_i z hz
            simp only [outC, Option.some.injEq, Prod.mk.injEq] at h
            obtain ⟨rfl, rfl, rfl⟩ := h
            refine ⟨rfl, z.val, ?_, rfl⟩
            have hs := run_sizeOf_n (P := E.P) (t := e) w hsz.2 (by omega)
            have h1 : 0 ≤ i ∧ i < (n : Int) := ⟨hφ.1, hφ.2.1⟩
            have hx := getD_of_lt hφ.2.2 R.dft
            have hc : ((xs.flatMap R.enc).map CV.val)[i.toNat]? = some z.val := by
              have := flat_at' xs i.toNat _ hx 0 z hz
              rw [hsz.1] at this
              rw [List.getElem?_map]
              simp only [Nat.mul_one, Nat.add_zero] at this
              rw [this]; rfl
            have hp : (part e ⟨(xs.flatMap R.enc).map CV.val⟩ i.toNat).run E.P w = .ok z.val w := by
              simp only [part, Sem.run_bind, aggT_false hagg, Result.andThen_ok, Bool.false_eq_true, if_false]
              simp [hc]
            show (Instr.index t (.agg ⟨(xs.flatMap R.enc).map CV.val⟩) (.int k i)).run E.P w = _
            simp only [Instr.index, asIntOf, run_underlying hu, Sem.run_bind, Sem.run_pure, Result.andThen_ok, h1, and_self, if_true, hs, Nat.mul_one, hp]
          · cases h
        · cases h
      · cases h
    · cases h
  · cases h

theorem lenS_good {t : TypeId} {a : AV} {x : Value} {ty : TypeId} {φ : Prop} {v : AV} (h : lenS E H t a = some (φ, v, H')) (ha : a.R θ H x) :
    H' = H ∧ ∃ z, (Builtin.len_ #[t] ty #[x]).run E.P w = .ok z w ∧ v.R θ H z := by
  unfold lenS at h
  split at h
  · rename_i r off len
    split at h
    · rename_i e R xs own hu hH
      simp only [outC, Option.some.injEq, Prod.mk.injEq] at h
      obtain ⟨rfl, rfl, rfl⟩ := h
      obtain ⟨l, hl, hx⟩ := ha
      obtain ⟨_, ad, rfl, _⟩ := hx R xs own hH
      exact ⟨rfl, _, by simp [Builtin.len_, run_underlying hu, goInt]; rfl, rfl⟩
    · cases h
  · rename_i r len
    split at h
    · rename_i e R xs own hu hH
      simp only [outC, Option.some.injEq, Prod.mk.injEq] at h
      obtain ⟨rfl, rfl, rfl⟩ := h
      obtain ⟨_, l, hl, hx⟩ := ha
      obtain ⟨_, ad, rfl, _⟩ := hx R xs own hH
      exact ⟨rfl, _, by simp [Builtin.len_, run_underlying hu, goInt]; rfl, rfl⟩
    · cases h
  · cases ha
    split at h
    · rename_i e hu
      simp only [outC, Option.some.injEq, Prod.mk.injEq] at h
      obtain ⟨rfl, rfl, rfl⟩ := h
      exact ⟨rfl, _, by simp [Builtin.len_, run_underlying hu, goInt]; rfl, rfl⟩
    · cases h
  · cases ha
    split at h
    · rename_i hu
      simp only [outC, Option.some.injEq, Prod.mk.injEq] at h
      obtain ⟨rfl, rfl, rfl⟩ := h
      exact ⟨rfl, _, by simp [Builtin.len_, run_underlying hu, goInt, CV.val]; rfl, rfl⟩
    · cases h
  · cases h

theorem run_bytesToString (f : Value → ByteArray → Sem (ForInStep ByteArray)) (hf : ∀ (n : Int) (s : ByteArray), f (.int .u8 n) s = pure (ForInStep.yield (s.push (UInt8.ofNat n.toNat)))) (xs : List Int) :
    ∀ (acc : List UInt8) (w : World), (forIn (m := Sem) (xs.map fun n => Value.int .u8 n) (⟨⟨acc⟩⟩ : ByteArray) f).run E.P w = .ok ⟨⟨acc ++ bytesOf xs⟩⟩ w := by
  induction xs with
  | nil => intro acc w; simp [bytesOf]
  | cons x xs ih =>
    intro acc w
    simp only [List.map_cons, List.forIn_cons, Sem.run_bind, hf, Sem.run_pure, Result.andThen_ok]
    have : (⟨⟨acc⟩⟩ : ByteArray).push (UInt8.ofNat x.toNat) = ⟨⟨acc ++ [UInt8.ofNat x.toNat]⟩⟩ := by
      apply ByteArray.ext; simp [ByteArray.push]
    rw [this, ih]
    simp [bytesOf]

end
end Go.Proofs.Ytiboohplkihhnaa
