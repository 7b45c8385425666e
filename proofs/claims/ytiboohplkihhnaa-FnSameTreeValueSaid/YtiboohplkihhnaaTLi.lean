/- The abstract step of an operation is what the model does: composite values and make. Conditions: none. -/
import Derived.Test.YtiboohplkihhnaaTLh
namespace Go.Proofs.Ytiboohplkihhnaa
open Go

section
variable {E : Env} {w0 : World} {X : Nat → Prop} {θ0 θ : List Loc} {H H' : List Blk} {w : World}

/-- parts as values -/
def PartsR (θ : List Loc) (H : List Blk) : List (Nat × Option AV) → List (Nat × Value) → Prop := All2 fun a b => a.1 = b.1 ∧ ∀ v, a.2 = some v → v.R θ H b.2

theorem foldl_splice (vs : List Value) : ∀ (cs : List Value) (off n : Nat), off + n + vs.length ≤ cs.length →
    ((vs.zipIdx n).foldl (fun (a : Array Value) (x : Value × Nat) => a.setIfInBounds (off + x.2) x.1) ⟨cs⟩).toList = splice cs (off + n) vs := by
  induction vs with
  | nil => intro cs off n h; simp [splice]
  | cons v vs ih =>
    intro cs off n h
    simp only [List.length_cons] at h
    simp only [List.zipIdx_cons, List.foldl_cons]
    have hset : (Array.mk cs).setIfInBounds (off + n) v = ⟨cs.set (off + n) v⟩ := by simp
    rw [hset, ih (cs.set (off + n) v) off (n + 1) (by simp; omega)]
    have := list_seg_step cs (off + n) v vs (by omega)
    simp only [splice, List.length_cons]
    rw [show off + (n + 1) = off + n + 1 by omega]
    exact this

theorem fill_step {place : Nat → Option (Nat × Nat)} {cs vs : List Value} {x : Value} {i off : Nat} {rest : List (Nat × Value)} (hp : place i = some (off, vs.length)) (hx : x.cells = ⟨vs⟩) (hfit : off + vs.length ≤ cs.length) :
    Instr.fill place ⟨cs⟩ ((i, x) :: rest) = Instr.fill place ⟨splice cs off vs⟩ rest := by
  have hf := foldl_splice vs cs off 0 (by omega)
  simp only [Nat.add_zero] at hf
  rw [Instr.fill, hp]
  simp only [hx, List.size_toArray]
  rw [if_neg (by simp; omega)]
  congr 1
  have : (Array.mk vs).zipIdx = ⟨vs.zipIdx⟩ := by simp
  rw [this]
  have h2 : Array.foldl (fun (a : Array Value) (x : Value × Nat) => a.setIfInBounds (off + x.2) x.1) (Array.mk cs) (Array.mk (vs.zipIdx)) = Array.mk (splice cs off vs) := by
    rw [← hf]; simp
  exact h2

theorem fillS_good {fs : Array Field} {places : Array (Nat × Nat)} (hpl : ∀ (i : Nat) (fd : Field), fs[i]? = some fd → places[i]? = some (fd.offset, E.P.cellsOf fd.type)) :
    ∀ {parts : List (Nat × Option AV)} {vals : List (Nat × Value)} {cs : List CE} {vs : List Value} {l : List CE}, fillS E H fs cs parts = some l → PartsR θ H parts vals → All2 (CE.R θ H) cs vs →
      ∃ us, Instr.fill (places[·]?) ⟨vs⟩ vals = some ⟨us⟩ ∧ All2 (CE.R θ H) l us
  | [], [], cs, vs, l, h, _, ha => by cases h; exact ⟨vs, rfl, ha⟩
  | (i, o) :: parts, (j, x) :: vals, cs, vs, l, h, hp, ha => by
    obtain ⟨⟨hij, hx⟩, hp⟩ := hp
    simp only at hij
    subst hij
    match o, h, hx with
    | none, h, _ => simp [fillS] at h
    | some (.tup _), h, _ => simp [fillS] at h
    | some (.one v), h, hx =>
      simp only [fillS] at h
      split at h
      · rename_i fd m hfd hm
        split at h
        · rename_i hc
          obtain ⟨h1, h2, h3, h4⟩ := hc
          obtain ⟨ws, hws, hall⟩ := AG_cells hm (hx _ rfl) h4
          have hl1 := hall.length
          have hl2 := ha.length
          rw [fill_step (vs := ws) (off := fd.offset) (by rw [hpl i fd hfd, ← h1, hl1]) hws (by omega)]
          exact fillS_good hpl h hp (All2_splice ha hall fd.offset)
        · cases h
      · cases h
  | [], _ :: _, _, _, _, _, hp, _ => hp.elim
  | _ :: _, [], _, _, _, _, hp, _ => hp.elim

theorem zeroS_good {t : TypeId} {z : AG} (h : zeroS E t = some z) : ∃ v, (zeroValue t).run E.P w = .ok v w ∧ z.R θ H v := by
  unfold zeroS at h
  split at h
  · rename_i i hi
    split at h
    · rename_i v hv
      exact ⟨v, by simp [zeroValue, typeInfo, hi, hv], ofV_R h⟩
    · cases h
  · cases h

theorem mapM_places {fs : List Field} (hf : ∀ f ∈ fs, E.P.cellsOf f.type ≠ 0) : (fs.mapM (fun f => do pure (f.offset, ← sizeOf f.type) : Field → Sem (Nat × Nat))).run E.P w = .ok (fs.map fun f => (f.offset, E.P.cellsOf f.type)) w := by
  induction fs with
  | nil => simp
  | cons f fs ih =>
    have h1 := sizeOf_ok (E := E) (w := w) (hf f (by simp))
    have h2 := ih (fun g hg => hf g (by simp [hg]))
    simp only [List.mapM_cons, Sem.run_bind, Sem.run_pure, h1, Result.andThen_ok, h2, List.map_cons]

theorem buildS_good {t : TypeId} {parts : List (Nat × Option AV)} {vals : List (Nat × Value)} {φ : Prop} {v : AV} (h : buildS E H t parts = some (φ, v, H')) (hp : PartsR θ H parts vals) :
    H' = H ∧ ∃ z, (Instr.build t ⟨vals⟩).run E.P w = .ok z w ∧ v.R θ H z := by
  unfold buildS at h
  split at h
  · rename_i fs z hu hz
    split at h
    · rename_i hall
      split at h
      · rename_i l hl
        simp only [outG, Option.some.injEq, Prod.mk.injEq] at h
        obtain ⟨rfl, rfl, rfl⟩ := h
        obtain ⟨zv, hzv, vs, rfl, hzr⟩ := zeroS_good (w := w) (θ := θ) (H := H) hz
        have hf : ∀ f ∈ fs.toList, E.P.cellsOf f.type ≠ 0 := by
          intro f hf
          have := hall
          rw [Array.all_eq_true'] at this
          have := this f (by simpa using hf)
          simpa using this
        obtain ⟨us, hus, hur⟩ := fillS_good (places := ⟨fs.toList.map fun f => (f.offset, E.P.cellsOf f.type)⟩) (fun i fd hfd => by simp [hfd]) hl hp hzr
        refine ⟨rfl, .agg ⟨us⟩, ?_, us, rfl, hur⟩
        have hm := mapM_places (E := E) (w := w) hf
        have hma : (fs.mapM (fun f => do pure (f.offset, ← sizeOf f.type) : Field → Sem (Nat × Nat))).run E.P w = .ok ⟨fs.toList.map fun f => (f.offset, E.P.cellsOf f.type)⟩ w := by
          rw [Array.mapM_eq_mapM_toList]
          simp only [map_eq_pure_bind, Sem.run_bind, hm, Result.andThen_ok, Sem.run_pure]
        simp only [Instr.build, Sem.run_bind, hzv, Result.andThen_ok, run_underlying hu]
        rw [hma]
        simp only [Result.andThen_ok, Value.cells]
        rw [hus]
        rfl
      · cases h
    · cases h
  · cases h

theorem zeroS_info {t : TypeId} {g : AG} (h : zeroS E t = some g) : ∃ i z, E.P.info? t = some i ∧ i.zero = some z ∧ g.R θ H z := by
  unfold zeroS at h
  split at h
  · rename_i i hi
    split at h
    · rename_i v hv
      exact ⟨i, v, hi, hv, ofV_R h⟩
    · cases h
  · cases h

theorem take_splice (cs vs : List Value) (o : Nat) (h : o + vs.length ≤ cs.length) : (splice cs o vs).take (o + vs.length) = cs.take o ++ vs := by
  unfold splice
  rw [List.take_append_of_le_length (by simp; omega), List.take_of_length_le (by simp; omega)]

theorem elems_fill {R : RC} {place : Nat → Option (Nat × Nat)} (hpl : ∀ i, place i = some (i * R.sz, R.sz)) :
    ∀ {parts : List (Nat × Option AV)} {vals : List (Nat × Value)} {n : Nat} {ys : List R.A} {cs : List Value}, elemsS R n parts = some ys → PartsR θ H parts vals → cs.length = (n + parts.length) * R.sz →
      Instr.fill place ⟨cs⟩ vals = some ⟨cs.take (n * R.sz) ++ (ys.flatMap R.enc).map CV.val⟩ ∧ ys.length = parts.length
  | [], [], n, ys, cs, h, _, hc => by
    cases h
    refine ⟨?_, rfl⟩
    simp only [List.length_nil, Nat.add_zero] at hc
    rw [List.take_of_length_le (by omega)]
    simp [Instr.fill]
  | (i, o) :: parts, (j, x) :: vals, n, ys, cs, h, hp, hc => by
    obtain ⟨⟨hij, hx⟩, hp⟩ := hp
    simp only at hij
    subst hij
    match o, h, hx with
    | none, h, _ => simp [elemsS] at h
    | some (.tup _), h, _ => simp [elemsS] at h
    | some (.one v), h, hx =>
      simp only [elemsS] at h
      split at h
      · rename_i hin
        subst hin
        split at h
        · rename_i l hl
          split at h
          · rename_i cv hcv
            split at h
            · rename_i y zs hy hzs
              cases h
              have e1 := CEs_cv_map hcv
              subst e1
              obtain ⟨ws, hws, hall⟩ := AG_cells hl (hx _ rfl) (live_cv cv)
              have e2 := All2_cv hall
              subst e2
              have e3 := R.dec_enc _ _ hy
              have e4 := RC.enc_len R y
              rw [e3] at e4
              have hfit : i * R.sz + (cv.map CV.val).length ≤ cs.length := by
                rw [hc, List.length_map, e4]
                have : (i + 1) * R.sz ≤ (i + (parts.length + 1)) * R.sz := Nat.mul_le_mul_right _ (by omega)
                rw [Nat.succ_mul] at this
                simpa using this
              rw [fill_step (vs := cv.map CV.val) (off := i * R.sz) (by rw [hpl, List.length_map, e4]) hws hfit]
              obtain ⟨ih1, ih2⟩ := elems_fill hpl (cs := splice cs (i * R.sz) (cv.map CV.val)) hzs hp (by rw [splice_length _ _ _ hfit, hc]; congr 1; simp; omega)
              refine ⟨?_, by simp [ih2]⟩
              rw [ih1]
              have ht := take_splice cs (cv.map CV.val) (i * R.sz) hfit
              rw [List.length_map, e4] at ht
              rw [Nat.succ_mul, ht, List.flatMap_cons, e3]
              simp
            · cases h
          · cases h
        · cases h
      · cases h
  | [], _ :: _, _, _, _, _, hp, _ => hp.elim
  | _ :: _, [], _, _, _, _, hp, _ => hp.elim

theorem mk_new_sl {R : RC} {ys : List R.A} {b n : Nat} (hlen : θ.length = H.length) (hn : n = ys.length) : (AV.one (.e (.sl H.length 0 n))).R (θ ++ [⟨b, 0, n⟩]) (H ++ [.row R ys true]) (.slice (some ⟨b, 0, none⟩) n n) := by
  have h1 : (θ ++ [(⟨b, 0, n⟩ : Loc)])[H.length]? = some ⟨b, 0, n⟩ := by rw [← hlen]; simp
  have h2 : (H ++ [Blk.row R ys true])[H.length]? = some (.row R ys true) := by simp
  exact mk_sl (l := ⟨b, 0, n⟩) h1 h2 (by omega) (fun _ => by simp)

theorem buildSliceS_good (hh : HRel E w0 X θ0 θ H w) {t : TypeId} {n : Nat} {parts : List (Nat × Option AV)} {vals : List (Nat × Value)} {φ : Prop} {v : AV} (h : buildSliceS E H t n parts = some (φ, v, H'))
    (hp : PartsR θ H parts vals) : ∃ l z w', (Instr.buildSlice t n ⟨vals⟩).run E.P w = .ok z w' ∧ v.R (θ ++ [l]) H' z ∧ HRel E w0 X θ0 (θ ++ [l]) H' w' ∧ HLe H H' := by
  unfold buildSliceS at h
  split at h
  · rename_i e hu
    split at h
    · rename_i R hR
      split at h
      · rename_i hc
        obtain ⟨h1, h2, h3, h4, h5⟩ := hc
        split at h
        · rename_i ys hys
          cases h
          obtain ⟨g, hg⟩ := Option.isSome_iff_exists.1 h4
          obtain ⟨i, z, hi, hz, _⟩ := zeroS_info (θ := θ) (H := H) hg
          have hs := run_sizeOf_n (P := E.P) w h1 (RC.sz_pos R)
          have hpl : ∀ i, (fun i => some (i * R.sz, R.sz)) i = some (i * R.sz, R.sz) := fun _ => rfl
          have key : ∀ zc : Array Value, Instr.fill (fun i => some (i * R.sz, R.sz)) ((Array.range (n * R.sz)).map (zc[· % zc.size]!)) vals = some ⟨(ys.flatMap R.enc).map CV.val⟩ ∧ ys.length = parts.length := by
            intro zc
            obtain ⟨f1, f2⟩ := elems_fill (place := fun i => some (i * R.sz, R.sz)) hpl (cs := ((Array.range (n * R.sz)).map (zc[· % zc.size]!)).toList) hys hp (by simp [h2])
            simp only [Nat.zero_mul, List.take_zero, List.nil_append] at f1
            exact ⟨f1, f2⟩
          have f2' : n = ys.length := by have := (key #[]).2; omega
          refine ⟨⟨w.heap.size, 0, n⟩, _, w.alloc (.cells ⟨(ys.flatMap R.enc).map CV.val⟩ e), ?_, mk_new_sl hh.len f2', ?_, HLe.snoc _ _⟩
          · have hbig : ¬ n * R.sz > 2 ^ 24 := by omega
            simp only [Instr.buildSlice, Sem.run_bind, run_underlying hu, Result.andThen_ok, hs]
            rw [if_neg hbig]
            by_cases h0 : n * R.sz = 0
            · rw [if_pos h0]
              simp only [Sem.run_bind, Sem.run_pure, Result.andThen_ok]
              rw [(key #[]).1]
              rfl
            · rw [if_neg h0]
              simp only [Sem.run_bind, zeroValue, typeInfo, run_program, hi, hz, Sem.run_pure, Result.andThen_ok]
              rw [(key z.cells).1]
              rfl
          · refine hh.alloc rfl rfl rfl (by simp) (fun k hk => heap_alloc_old w _ k hk) (heap_alloc_new w _) (fun hn => ?_) (by simp)
            refine BlkR.flat (vs := []) (e := e) (by omega) (by have := RC.sz_pos R; have : n ≤ n * R.sz := Nat.le_mul_of_pos_right _ this; unfold maxLen; omega) ?_ (by simp [f2']) (fun h => h5.resolve_left (fun g => g h))
            rw [hn]; simp
        · cases h
      · cases h
    · cases h
  · cases h

end
end Go.Proofs.Ytiboohplkihhnaa
