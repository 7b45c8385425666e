/- The abstract step of an operation is what the model does: new memory. Conditions: none. -/
import Derived.Test.YtghdgncfcfdlfaaGreatDoorTLf
import Derived.Laws.MakeOwn
import Derived.Laws.Append
namespace Go.Proofs.YtghdgncfcfdlfaaGreatDoor
open Go

section
variable {E : Env} {w0 : World} {X : Nat → Prop} {θ0 θ : List Loc} {H H' : List Blk} {w : World}

/-- a new block -/
theorem HRel.alloc (h : HRel E w0 X θ0 θ H w) {w' : World} {cs : Array Value} {t : TypeId} {cap : Nat} {b : Blk}
  (hos : w'.os = w.os) (htp : w'.tape = w.tape) (hout : w'.output = w.output) (hsz : w'.heap.size = w.heap.size + 1) (hold : ∀ k, k < w.heap.size → w'.heap[k]? = w.heap[k]?)
  (hnew : w'.heap[w.heap.size]? = some (.cells cs t (0, 0)))
  (hB : w'.heap[w.heap.size]? = some (.cells cs t (0, 0)) → BlkR (θ ++ [⟨w.heap.size, 0, cap⟩]) (H ++ [b]) w' ⟨w.heap.size, 0, cap⟩ b)
  (hng : ∀ R xs, b ≠ .row R xs false) : HRel E w0 X θ0 (θ ++ [⟨w.heap.size, 0, cap⟩]) (H ++ [b]) w' := by
 have hw := h.world hos htp hout (by omega) hold
 refine hw.add (hB hnew) (fun _ => .inr ?_) (fun R xs e => absurd e (hng R xs)) (fun _ r l' b' hl hb ho => ?_)
 ·exact h.fr.size
 ·have := (h.bl r l' b' hl hb).lt ho
  show l'.b ≠ w.heap.size
  omega

theorem flat_length {R : RC} : ∀ (xs : List R.A), (xs.flatMap R.enc).length = xs.length * R.sz
 | [] => by simp
 | x :: xs => by rw [List.flatMap_cons, List.length_append, flat_length xs, RC.enc_len, List.length_cons, Nat.succ_mul]; omega

theorem flat_at {R : RC} : ∀ (xs : List R.A) (k : Nat) (x : R.A), xs[k]? = some x → ∀ (o : Nat) (y : CV), (R.enc x)[o]? = some y → (xs.flatMap R.enc)[k * R.sz + o]? = some y
 | [], k, x, h, _, _, _ => by simp at h
 | z :: xs, 0, x, h, o, y, hy => by
  simp at h; subst h
  rw [List.flatMap_cons, Nat.zero_mul, Nat.zero_add, List.getElem?_append_left (lt_of_getElem? hy), hy]
 | z :: xs, k + 1, x, h, o, y, hy => by
  have ih := flat_at xs k x (by simpa using h) o y hy
  rw [List.flatMap_cons, List.getElem?_append_right (by rw [RC.enc_len, Nat.succ_mul]; omega), RC.enc_len]
  rw [show (k + 1) * R.sz + o - R.sz = k * R.sz + o by rw [Nat.succ_mul]; omega]
  exact ih

/-- a block whose cells are those of some elements -/
theorem BlkR.flat {R : RC} {xs : List R.A} {θ : List Loc} {H : List Blk} {w : World} {b cap : Nat} {vs : List Value} {e : TypeId} (hm : xs.length ≤ cap) (hc : cap ≤ maxLen)
  (hh : w.heap[b]? = some (.cells ⟨((xs.flatMap R.enc).map CV.val) ++ vs⟩ e (0, 0))) (hv : xs.length * R.sz + vs.length = cap * R.sz) (he : R = .u8 → e = 5) : BlkR θ H w ⟨b, 0, cap⟩ (.row R xs true) := by
 refine ⟨hm, hc, fun k x hk o y hy => ?_, fun _ => ⟨rfl, fun _ => ⟨_, e, hh, ?_⟩⟩⟩
 ·rw [cells_get hh, Nat.zero_add]
  have := flat_at xs k x hk o y hy
  rw [List.getElem?_append_left (by rw [List.length_map]; exact lt_of_getElem? this), List.getElem?_map, this]
  rfl
 ·have := flat_length (R := R) xs
  simp only [List.size_toArray, List.length_append, List.length_map, this]
  exact ⟨hv, he⟩

theorem decAll1_flat {R : RC} : ∀ {cv : List CV} {xs : List R.A}, decAll1 R cv = some xs → cv = xs.flatMap R.enc
 | [], xs, h => by cases h; rfl
 | x :: l, xs, h => by
  unfold decAll1 at h
  split at h
  ·rename_i y ys h1 h2
   cases h
   rw [List.flatMap_cons, R.dec_enc _ _ h1, ← decAll1_flat h2]
   rfl
  ·cases h

theorem live_one {x : CE} {v : Value} (hx : x.live H = true) (hv : x.R θ H v) : v.oneCell' = true := by
 cases x with
 | c y => cases hv; cases y <;> rfl
 | p r o => obtain ⟨l, _, rfl⟩ := hv; rfl
 | rp r k o =>
  simp only [CE.live] at hx
  split at hx
  ·rename_i R xs own hH
   obtain ⟨l, _, _, rfl⟩ := rp_R hv hH; rfl
  ·cases hx
 | sl r off len =>
  simp only [CE.live] at hx
  split at hx
  ·rename_i R xs own hH
   obtain ⟨l, _, hh⟩ := hv
   obtain ⟨_, a, rfl, _⟩ := hh R xs own hH; rfl
  ·cases hx
 | bsl r len =>
  simp only [CE.live] at hx
  split at hx
  ·rename_i R xs own hH
   obtain ⟨_, l, _, hh⟩ := hv
   obtain ⟨_, a, rfl, _⟩ := hh R xs own hH; rfl
  ·cases hx
 | nsl => cases hv; rfl
 | nilp => cases hv; rfl
 | nif => cases hv; rfl
 | err b =>
  cases b with
  | true => obtain ⟨_, _, rfl⟩ := hv; rfl
  | false => cases hv; rfl
 | gp g k => cases hv; rfl
 | sp r T => cases hx
 | sd r => obtain ⟨l, _, ⟨a, rfl⟩, _⟩ := hv; rfl
 | junk => cases hx

theorem AG_cells {v : AG} {l : List CE} {x : Value} (h : v.cells = some l) (hv : v.R θ H x) (hone : l.all (CE.live H) = true) : ∃ vs, x.cells = ⟨vs⟩ ∧ All2 (CE.R θ H) l vs := by
 cases v with
 | e c =>
  cases h
  refine ⟨[x], ?_, hv, trivial⟩
  have := live_one (by simpa using hone) hv
  cases x <;> first | rfl | (simp [Value.oneCell'] at this)
 | agg l' =>
  cases h
  obtain ⟨vs, rfl, ha⟩ := hv
  exact ⟨vs, rfl, ha⟩
 | arr R xs => cases h
 | fn f cap => cases h

theorem maxLen_of (n : Nat) (h : n ≤ 1099511627776) : n ≤ maxLen := by unfold maxLen; omega

theorem newVar_run (t : TypeId) (x : Value) : (newVar t x).run E.P w = .ok ⟨w.heap.size, 0, none⟩ (w.alloc (.cells x.cells t)) := rfl

theorem spT_live : ∀ {l : List CE} {e : TypeId}, l.all (CE.live H) = true → spT l e
 | [], _, _ => trivial
 | .sp _ _ :: _, _, h => by simp [CE.live] at h
 | .c _ :: _, _, _ => trivial
 | .p _ _ :: _, _, _ => trivial
 | .rp _ _ _ :: _, _, _ => trivial
 | .sl _ _ _ :: _, _, _ => trivial
 | .nsl :: _, _, _ => trivial
 | .nilp :: _, _, _ => trivial
 | .nif :: _, _, _ => trivial
 | .err _ :: _, _, _ => trivial
 | .gp _ _ :: _, _, _ => trivial
 | .sd _ :: _, _, _ => trivial
 | .bsl _ _ :: _, _, _ => trivial
 | .junk :: _, _, _ => trivial

theorem spT_splice {cs l : List CE} {e : TypeId} {o : Nat} (hl : l.all (CE.live H) = true) (h : spT cs e) (ho : o + l.length ≤ cs.length) (hz : l.length ≠ 0) : spT (splice cs o l) e := by
 unfold splice
 cases o with
 | zero =>
  rw [List.take_zero, List.nil_append]
  cases l with
  | nil => exact absurd rfl hz
  | cons x l =>
   have := spT_live (e := e) (show [x].all (CE.live H) = true by simp only [List.all_cons, Bool.and_eq_true] at hl; simp [hl.1])
   cases x <;> first | trivial | exact this
 | succ o =>
  cases cs with
  | nil => simp at ho
  | cons c cs =>
   rw [List.take_succ_cons]
   cases c <;> first | trivial | exact h

theorem bldS_R {θ' : List Loc} {H1 : List Blk} {n : Nat} {t : TypeId} {b : Nat} (hn : θ'[n]? = some ⟨b, 0, 0⟩) {l : List CE} {vs : List Value} (h : All2 (CE.R θ' H1) l vs) (hl : l.all (CE.live H) = true) :
  All2 (CE.R θ' H1) (bldS n t l) vs ∧ spT (bldS n t l) t := by
 unfold bldS
 split
 ·match vs, h with
  | [a, b'], h => exact ⟨⟨⟨_, hn, .inl h.1⟩, h.2⟩, rfl⟩
 ·exact ⟨h, spT_live hl⟩

theorem newS_good (hh : HRel E w0 X θ0 θ H w) {t : TypeId} {a : AG} {x : Value} {φ : Prop} {v : AV} (h : newS E H t a = some (φ, v, H')) (hφ : φ) (ha : a.R θ H x) :
  ∃ l w', (newVar t x).run E.P w = .ok ⟨w.heap.size, 0, none⟩ w' ∧ v.R (θ ++ [l]) H' (.pointer (some ⟨w.heap.size, 0, none⟩)) ∧ HRel E w0 X θ0 (θ ++ [l]) H' w' ∧ HLe H H' := by
 have hal : ∀ {cs : Array Value} {cap : Nat} {b : Blk}, ((w.alloc (.cells cs t)).heap[w.heap.size]? = some (.cells cs t (0, 0)) → BlkR (θ ++ [⟨w.heap.size, 0, cap⟩]) (H ++ [b]) (w.alloc (.cells cs t)) ⟨w.heap.size, 0, cap⟩ b) →
   (∀ R xs, b ≠ .row R xs false) → HRel E w0 X θ0 (θ ++ [⟨w.heap.size, 0, cap⟩]) (H ++ [b]) (w.alloc (.cells cs t)) := by
  intro cs cap b hB hng
  exact hh.alloc rfl rfl rfl (by simp) (fun k hk => heap_alloc_old w _ k hk) (heap_alloc_new w _) hB hng
 have hθ : ∀ l : Loc, (θ ++ [l])[H.length]? = some l := by intro l; rw [← hh.len]; simp
 have hHn : ∀ b : Blk, (H ++ [b])[H.length]? = some b := by intro b; simp
 have harr : ∀ {R : RC} {xs : List R.A}, R ≠ .u8 → 0 < xs.length → xs.length ≤ 1099511627776 → x.cells = ⟨(xs.flatMap R.enc).map CV.val⟩ →
   ∃ l w', (newVar t x).run E.P w = .ok ⟨w.heap.size, 0, none⟩ w' ∧ (AV.one (.e (.rp H.length 0 0))).R (θ ++ [l]) (H ++ [.row R xs true]) (.pointer (some ⟨w.heap.size, 0, none⟩)) ∧
    HRel E w0 X θ0 (θ ++ [l]) (H ++ [.row R xs true]) w' ∧ HLe H (H ++ [.row R xs true]) := by
  intro R xs hR8 h1 h2 hx
  refine ⟨⟨w.heap.size, 0, xs.length⟩, _, newVar_run t _, ⟨_, hθ _, fun R' xs' own' hr => ?_⟩, hal (fun hn => ?_) (by simp), HLe.snoc _ _⟩
  ·rw [hHn] at hr; cases hr
   exact ⟨h1, by simp⟩
  ·refine BlkR.flat (vs := []) (e := t) (Nat.le_refl _) (maxLen_of _ h2) ?_ (by simp) (fun h => absurd h hR8)
   rw [hn, hx]; simp
 unfold newS at h
 split at h
 ·rename_i R xs
  split at h
  ·cases h
  ·rename_i hR8
   cases h
   cases ha
   exact harr hR8 hφ.1 hφ.2 rfl
 ·split at h
  ·rename_i l hl
   split at h
   case isFalse => cases h
   rename_i hlive
   obtain ⟨vs, hvs, hall⟩ := AG_cells hl ha hlive
   split at h
   ·split at h
    ·rename_i cv hcv
     split at h
     ·rename_i R hR
      split at h
      ·rename_i xs hxs
       split at h
       ·rename_i hsz
        cases h
        have e1 := CEs_cv_map hcv
        subst e1
        have e2 := All2_cv hall
        subst e2
        have e3 := decAll1_flat hxs
        subst e3
        exact harr hsz.2 hφ.1 hφ.2 hvs
       ·cases h
      ·cases h
     ·cases h
    ·cases h
   ·cases h
    refine ⟨⟨w.heap.size, 0, 0⟩, _, newVar_run t _, ⟨_, hθ _, rfl⟩, hal (fun hn => ?_) (by simp), HLe.snoc _ _⟩
    exact ⟨vs, t, by rw [hn, hvs], bldS_R (hθ _) (hall.mono fun _ _ => CE.R_mono hh.len (HLe.snoc _ _)) hlive⟩
  ·cases h

theorem live_all {l : List CE} {vs : List Value} (hl : l.all (CE.live H) = true) (h : All2 (CE.R θ H) l vs) : ∀ v ∈ vs, v.oneCell' = true := by
 induction l generalizing vs with
 | nil => cases vs with
  | nil => intro v hv; cases hv
  | cons => exact h.elim
 | cons x l ih => cases vs with
  | nil => exact h.elim
  | cons v vs =>
   simp only [List.all_cons, Bool.and_eq_true] at hl
   intro u hu
   rcases List.mem_cons.1 hu with rfl | hu
   ·exact live_one hl.1 h.1
   ·exact ih hl.2 h.2 u hu

theorem cv_one (y : CV) : y.val.oneCell' = true := by cases y <;> rfl

theorem live_cv (cv : List CV) : (cv.map CE.c).all (CE.live H) = true := by
 induction cv with
 | nil => rfl
 | cons x l ih => rw [List.map_cons, List.all_cons, ih]; rfl

theorem sizeOf_ok {t : TypeId} (h : E.P.cellsOf t ≠ 0) : (sizeOf t).run E.P w = .ok (E.P.cellsOf t) w := run_sizeOf_n w rfl (Nat.pos_of_ne_zero h)

theorem storeVar_run {t : TypeId} {b o : Nat} {x : Value} {vs cur : List Value} {e : TypeId} (hx : x.cells = ⟨vs⟩) (hn : vs.length = E.P.cellsOf t) (hz : vs.length ≠ 0)
  (hh : w.heap[b]? = some (.cells ⟨cur⟩ e (0, 0))) (hfit : o + vs.length ≤ cur.length) (hone : ∀ v ∈ vs, v.oneCell' = true) :
  (Instr.storeAt t (.pointer (some ⟨b, o, none⟩)) x).run E.P w = .ok () (w.setRow b ⟨splice cur o vs⟩) := by
 have hs := sizeOf_ok (E := E) (w := w) (t := t) (by omega)
 have hst := run_storeCells_at E.P b o e vs 0 ⟨cur⟩ w hh (by simpa using hfit) hone
 simp only [Nat.add_zero] at hst
 have hsz : x.cells.size = E.P.cellsOf t := by rw [hx]; simpa using hn
 simp only [Instr.storeAt, Instr.sureAddr, Sem.run_bind, Sem.run_pure, Result.andThen_ok, storeVar, hs, hsz, ne_eq, not_true, if_false]
 rw [hx, hst]
 rfl

theorem All2_splice {l m : List CE} {vs us : List Value} (h : All2 (CE.R θ H) l vs) (k : All2 (CE.R θ H) m us) (o : Nat) : All2 (CE.R θ H) (splice l o m) (splice vs o us) := by
 unfold splice
 have hl := k.length
 have e1 : ∀ n, All2 (CE.R θ H) (l.take n) (vs.take n) := fun n => by simpa using h.extract 0 n
 have e2 : ∀ n, All2 (CE.R θ H) (l.drop n) (vs.drop n) := fun n => by
  have := h.extract n (l.length)
  have hlen := h.length
  rw [List.take_of_length_le (by simp), List.take_of_length_le (by simp; omega)] at this
  exact this
 rw [← hl]
 exact ((e1 o).append k).append (e2 _)

end
end Go.Proofs.YtghdgncfcfdlfaaGreatDoor
