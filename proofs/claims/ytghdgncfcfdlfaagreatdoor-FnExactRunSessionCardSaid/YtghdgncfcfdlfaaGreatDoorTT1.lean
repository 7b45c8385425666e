import Derived.Test.YtghdgncfcfdlfaaGreatDoorTLt
import Derived.Test.YtghdgncfcfdlfaaGreatDoorTLxd
import Derived.Shelf.Strings.Builder1
import Derived.Shelf.Strings.Search1
import Derived.Shelf.Strconv.Itoa3
import Derived.Lib.AppendIntMem
import Derived.Shelf.Strings.Split
import Derived.Shelf.Strconv.AtoiAll
import Derived.Lib.LaidTab
import Derived.Test.YtghdgncfcfdlfaaGreatDoorProg
namespace Go.Proofs.YtghdgncfcfdlfaaGreatDoor
open Go Go.Shelf Go.Proofs
set_option linter.unusedVariables false
def gtab3 : List Bool := [true, true, true, true, true, true, true, true, true, true, true, false, true, true, true, false, false, false, true, true, false, true, false, false, true, true, false, false, false, false, true, false, false, false, false, false]
def gtab5 : List Int := [0, 1, 2, 3, 4, 5, 1, 1, 2, 3, 4, 5, 2, 2, 2, 4, 4, 5, 3, 3, 4, 3, 4, 5, 4, 4, 4, 4, 4, 5, 5, 5, 5, 5, 5, 5]
def KK (w : World) : Prop := Lib.TabIs Tryz.prog w "internal/strconv.uint64pow10" .u64 Lib.pow10Tab ∧ (∃ m, w.cell? ⟨0, 0, none⟩ = some (.int .i64 m)) ∧ (∃ ev, w.cell? ⟨1, 0, none⟩ = some ev ∧ (ev = .nilIface ∨ ∃ te pe, ev = .iface te pe)) ∧ (∃ ev, w.cell? ⟨2, 0, none⟩ = some ev ∧ (ev = .nilIface ∨ ∃ te pe, ev = .iface te pe))
theorem KK_tab (w : World) (h : KK w) : Lib.TabIs Tryz.prog w "internal/strconv.uint64pow10" .u64 Lib.pow10Tab := h.1
theorem KK_max (w : World) (h : KK w) : ∃ m, w.cell? ⟨0, 0, none⟩ = some (.int .i64 m) := h.2.1
theorem KK_syn (w : World) (h : KK w) : ∃ ev, w.cell? ⟨1, 0, none⟩ = some ev ∧ (ev = .nilIface ∨ ∃ te pe, ev = .iface te pe) := h.2.2.1
theorem KK_rng (w : World) (h : KK w) : ∃ ev, w.cell? ⟨2, 0, none⟩ = some ev ∧ (ev = .nilIface ∨ ∃ te pe, ev = .iface te pe) := h.2.2.2
noncomputable def EE : Env := ⟨Tryz.prog, fun g => match g with | 3 => some ⟨.bool, gtab3⟩ | 5 => some ⟨.int, gtab5⟩ | _ => none, fun t => match t with | 3 => some .int | 5 => some .u8 | 9 => some .str | 47 => some .nod | 103 => some .edt | 108 => some .lck | _ => none, KK⟩
/- laws.szStringS -/
def laws_szStringS_L1 (x1 : List Str) : Nat → Int → Int → Option ((Unit) ⊕ (Int))
| 0, _, _ => none
| n + 1, i58, i59 =>
 iteO (decide (i59 < ((x1.length : Nat) : Int)))
 (guardO (0 ≤ i59 ∧ i59 < ((x1.length : Nat) : Int)) <|
 iteO (decide ((w64 (i58 - (((x1.getD i59.toNat []).length : Nat) : Int))) < 0))
 (some (.inl ()))
 (laws_szStringS_L1 x1 n (w64 (i58 - (((x1.getD i59.toNat []).length : Nat) : Int))) (w64 (i59 + 1))))
 (some (.inr i58))

theorem laws_szStringS_L1_ok (w : World) (X : Nat → Prop) (θ : List Loc) (x1 : List Str) (v : (Unit) ⊕ (Int)) : ∀ (n : Nat) (i58 : Int) (i59 : Int), laws_szStringS_L1 x1 n i58 i59 = some v → WL EE ⟨w, X, θ, 28, 1⟩ (subC [1, 1, 1, 0, 1, 4, 4] (bodyC Tryz.f19)) (fun (e : Exit) (s : St) => (match v with | (.inl _) => e = .ret ∧ s = ⟨[(4, I (-1))], [sR x1]⟩ | (.inr i70) => e = .exit 0 ∧ s = ⟨[(1, I i70)], [sR x1]⟩ : Prop)) ⟨[(0, sF 0 x1), (1, I i58), (5, I i59)], [sR x1]⟩ := by
  intro n
  induction n with
  | zero => intro _ _ h; exact none_e h
  | succ n ih =>
    intro i58 i59 h
    rw [laws_szStringS_L1] at h
    refine WL_round ?_
    refine W_seq (Wsr ((Wp 4 [0] [0, 1, 5, 15] T3 ⟨[(0, sF 0 x1), (1, I i58), (5, I i59), (15, B (decide (i59 < (lI x1))))], [sR x1]⟩ t3 (Wnt ((iteO_e h (fun hb73 h => W_true rfl hb73 ?_) (fun hb73 h => W_false rfl hb73 ?_)))))))
    ·refine Ww [0] [0, 1, 5] ⟨[(0, sF 0 x1), (1, I i58), (5, I i59)], [sR x1]⟩ (W_skip (thenS_n (W_seq (W_block (Wsr ((guardO_e h (fun hg77 h => (Wp 8 [0] [0, 1, 5] ((0 ≤ i59 ∧ i59 < (lI x1)) ∧ T4) ⟨[(0, sF 0 x1), (1, I (w64 (i58 - (((x1.getD i59.toNat []).length : Nat) : Int)))), (5, I i59)], [sR x1]⟩ ⟨hg77, trivial, trivial, trivial, trivial⟩ (Wnt ((Wsr ((Wp 2 [0] [0, 1, 5, 26] T2 ⟨[(0, sF 0 x1), (1, I (w64 (i58 - (((x1.getD i59.toNat []).length : Nat) : Int)))), (5, I i59), (26, B (decide ((w64 (i58 - (((x1.getD i59.toNat []).length : Nat) : Int))) < 0)))], [sR x1]⟩ t2 (Wnt ((iteO_e h (fun hb79 h => W_true rfl hb79 ?_) (fun hb79 h => W_false rfl hb79 ?_))))))))))))))))))
     ·refine Wsr ((Ws 1 [0] [4] ⟨[(4, I (-1))], [sR x1]⟩ (Wnt ((W_ret (blockS_r (thenS_r (thenS_r ?_))))))))
      cases h
      exact aI rfl rfl
     ·refine Ww [0] [0, 1, 5] ⟨[(0, sF 0 x1), (1, I (w64 (i58 - (((x1.getD i59.toNat []).length : Nat) : Int)))), (5, I i59)], [sR x1]⟩ (W_skip (blockS_n (thenS_n (W_region (Wp 3 [0] [0, 1, 5] T2 ⟨[(0, sF 0 x1), (1, I (w64 (i58 - (((x1.getD i59.toNat []).length : Nat) : Int)))), (5, I (w64 (i59 + 1)))], [sR x1]⟩ t2 (Wnt (?_)))))))
      exact ih _ _ h
    ·refine Ww [0] [1] ⟨[(1, I i58)], [sR x1]⟩ (W_exit (thenS_e (thenS_e ?_)))
     cases h
     exact aI rfl rfl

def laws_szStringS (n : Nat) (x1 : List Str) (i2 : Int) : Option (Int) :=
 iteO (decide ((w64 (i2 - ((x1.length : Nat) : Int))) < 0))
 (some (-1))
 (bindO (laws_szStringS_L1 x1 n (w64 (i2 - ((x1.length : Nat) : Int))) 0) fun v80 =>
 match v80 with
 | (.inl _) => (some (-1))
 | (.inr i70) => (some i70)
)

theorem laws_szStringS_ok (n : Nat) (x1 : List Str) (i2 : Int) (i41 : Int) (h : laws_szStringS n x1 i2 = some i41) : FOk EE 19 [sF 0 x1, I i2] [sR x1] (I i41) [sR x1] := by
  unfold laws_szStringS at h
  refine FOk_of_W 28 1 Tryz.func19 rfl rfl (Nat.le_of_ble_eq_true rfl) rfl (fun w X θ => ?_)
  refine Wsr ((Ws 1 [0] [0, 1] ⟨[(0, sF 0 x1), (1, I i2)], [sR x1]⟩ (Wnt ((W_seq (W_region ?_))))))
  refine Wp 5 [0] [0, 1] T3 ⟨[(0, sF 0 x1), (1, I (w64 (i2 - (lI x1))))], [sR x1]⟩ t3 (Wnt ((W_seq (Wsr ((Wp 2 [0] [0, 1, 11] T2 ⟨[(0, sF 0 x1), (1, I (w64 (i2 - (lI x1)))), (11, B (decide ((w64 (i2 - (lI x1))) < 0)))], [sR x1]⟩ t2 ?_))))))
  refine Wnt ((iteO_e h (fun hb43 h => W_true rfl hb43 ?_) (fun hb43 h => W_false rfl hb43 ?_)))
  ·refine Wsr ((Ws 1 [0] [4] ⟨[(4, I (-1))], [sR x1]⟩ (Wnt ((W_ret (thenS_r ?_))))))
   cases h
   exact ⟨[0], True, by kernel_rfl, trivial⟩
  ·refine Ww [0] [0, 1] ⟨[(0, sF 0 x1), (1, I (w64 (i2 - (lI x1))))], [sR x1]⟩ (W_skip (thenS_n (W_seq (Wsr ((Ws 1 [0] [0, 1, 5] ⟨[(0, sF 0 x1), (1, I (w64 (i2 - (lI x1)))), (5, I 0)], [sR x1]⟩ (Wnt ((W_block (W_loop (bindO_e h (fun v80 hv80 h => (WL_cut (laws_szStringS_L1_ok w X θ x1 v80 n (w64 (i2 - (lI x1))) 0 hv80) ?_)))))))))))))
   rcases v80 with _ | i70
   ·rintro _ _ ⟨rfl, rfl⟩
    refine blockS_r (thenS_r ?_)
    cases h
    exact ⟨[0], True, by kernel_rfl, trivial⟩
   ·rintro _ _ ⟨rfl, rfl⟩
    refine blockS_y (thenS_n (Wsr ((Ws 2 [0] [4] ⟨[(4, I i70)], [sR x1]⟩ (Wnt ((W_ret ?_)))))))
    cases h
    exact ⟨[0], True, by kernel_rfl, trivial⟩

/- laws.toStringS -/
def laws_toStringS_L1 (x1 : List Str) : Nat → (List Str) → Int → Option ((List Str))
| 0, _, _ => none
| n + 1, x47, i48 =>
 iteO (decide (i48 < ((x1.length : Nat) : Int)))
 (guardO (0 ≤ i48 ∧ i48 < ((x1.length : Nat) : Int)) <|
 guardO (0 ≤ i48 ∧ i48 < ((x47.length : Nat) : Int)) <|
 laws_toStringS_L1 x1 n (x47.set i48.toNat (x1.getD i48.toNat [])) (w64 (i48 + 1)))
 (some x47)

theorem laws_toStringS_L1_ok (w : World) (X : Nat → Prop) (θ : List Loc) (x1 : List Str) (x57 : (List Str)) : ∀ (n : Nat) (x47 : List Str) (i48 : Int), laws_toStringS_L1 x1 n x47 i48 = some x57 → WL EE ⟨w, X, θ, 22, 1⟩ (subC [1, 1, 0, 1, 4, 4] (bodyC Tryz.f20)) (fun (e : Exit) (s : St) => e = .exit 0 ∧ s = ⟨[(3, sF 1 x57)], [sR x1, sO x57]⟩) ⟨[(0, sF 0 x1), (3, sF 1 x47), (4, I i48)], [sR x1, sO x47]⟩ := by
  intro n
  induction n with
  | zero => intro _ _ h; exact none_e h
  | succ n ih =>
    intro x47 i48 h
    rw [laws_toStringS_L1] at h
    refine WL_round ?_
    refine W_seq (Wsr ((Wp 4 [0, 1] [0, 3, 4, 11] T3 ⟨[(0, sF 0 x1), (3, sF 1 x47), (4, I i48), (11, B (decide (i48 < (lI x1))))], [sR x1, sO x47]⟩ t3 (Wnt ((iteO_e h (fun hb60 h => W_true rfl hb60 ?_) (fun hb60 h => W_false rfl hb60 ?_)))))))
    ·refine Ww [0, 1] [0, 3, 4] ⟨[(0, sF 0 x1), (3, sF 1 x47), (4, I i48)], [sR x1, sO x47]⟩ (W_skip (thenS_n (W_seq (W_block (W_region (guardO_e h (fun hg63 h => (guardO_e h (fun hg64 h => (Wp 8 [0, 1] [0, 3, 4] ((0 ≤ i48 ∧ i48 < (lI x1)) ∧ (True ∧ ((0 ≤ i48 ∧ i48 < (lI x47)) ∧ T2))) ⟨[(0, sF 0 x1), (3, sF 1 x47), (4, I i48)], [sR x1, sO (x47.set i48.toNat (x1.getD i48.toNat []))]⟩ ⟨hg63, trivial, hg64, trivial, trivial⟩ (WO_eq (st' := ⟨[(0, sF 0 x1), (3, .one (.e (.sl 1 0 ((x47.set i48.toNat (x1.getD i48.toNat [])).length)))), (4, I i48)], [sR x1, sO (x47.set i48.toNat (x1.getD i48.toNat []))]⟩) (by simp only [sF, List.length_set]) (WO_nil rfl (blockS_n (thenS_n (W_region (Wp 3 [0, 1] [0, 3, 4] T2 ⟨[(0, sF 0 x1), (3, .one (.e (.sl 1 0 ((x47.set i48.toNat (x1.getD i48.toNat [])).length)))), (4, I (w64 (i48 + 1)))], [sR x1, sO (x47.set i48.toNat (x1.getD i48.toNat []))]⟩ t2 (Wnt (?_))))))))))))))))))
     exact ih _ _ h
    ·refine Ww [0, 1] [3] ⟨[(3, sF 1 x47)], [sR x1, sO x47]⟩ (W_exit (thenS_e (thenS_e ?_)))
     cases h
     exact aI rfl rfl

def laws_toStringS (n : Nat) (x1 : List Str) : Option ((List Str)) :=
 guardO ((((x1.length : Nat) : Int) : Int) = ((x1.length : Nat) : Int) ∧ 0 ≤ ((x1.length : Nat) : Int) ∧ ((x1.length : Nat) : Int) ≤ 1099511627776) <|
 bindO (laws_toStringS_L1 x1 n (List.replicate (((x1.length : Nat) : Int).toNat) ([] : Str)) 0) fun x57 =>
 some x57

theorem laws_toStringS_ok (n : Nat) (x1 : List Str) (x33 : List Str) (h : laws_toStringS n x1 = some x33) : FOk EE 20 [sF 0 x1] [sR x1] (sF 1 x33) [sR x1, sO x33] := by
  unfold laws_toStringS at h
  refine FOk_of_W 22 1 Tryz.func20 rfl rfl (Nat.le_of_ble_eq_true rfl) rfl (fun w X θ => ?_)
  refine Wsr ((Ws 1 [0] [0] ⟨[(0, sF 0 x1)], [sR x1]⟩ (Wnt ((W_seq (W_region ?_))))))
  refine guardO_e h (fun hg34 h => (Wp 4 [0, 1] [0, 3] (True ∧ ((((lI x1) : Int) = (lI x1) ∧ 0 ≤ (lI x1) ∧ (lI x1) ≤ 1099511627776) ∧ True)) ⟨[(0, sF 0 x1), (3, .one (.e (.sl 1 0 ((List.replicate ((lI x1).toNat) ([] : Str)).length))))], [sR x1, .row .str (List.replicate ((lI x1).toNat) ([] : Str)) true]⟩ ⟨trivial, hg34, trivial⟩ (Wnt ((W_seq (W_seq (W_region ?_)))))))
  refine Ws 1 [0, 1] [0, 3, 4] ⟨[(0, sF 0 x1), (3, .one (.e (.sl 1 0 ((List.replicate ((lI x1).toNat) ([] : Str)).length)))), (4, I 0)], [sR x1, .row .str (List.replicate ((lI x1).toNat) ([] : Str)) true]⟩ (Wnt ((W_block (W_loop (bindO_e h (fun x57 hx57 h => (WL_cut (laws_toStringS_L1_ok w X θ x1 x57 n (List.replicate ((lI x1).toNat) ([] : Str)) 0 hx57) ?_)))))))
  rintro _ _ ⟨rfl, rfl⟩
  refine blockS_y (thenS_n (Wsr ((Ws 2 [0, 1] [2] ⟨[(2, sF 1 x57)], [sR x1, sO x57]⟩ (Wnt (?_))))))
  refine W_ret ?_
  cases h
  exact ⟨[0, 1], True, by kernel_rfl, trivial⟩

/- spec.splitAt -/
def spec_splitAt_L1 (s1 : Str) (i2 : Int) : Nat → (List Str) → Int → Int → Option (((List Str) × Int))
| 0, _, _, _ => none
| n + 1, x97, i98, i99 =>
 iteO (decide (i99 < ((s1.length : Nat) : Int)))
 (guardO (0 ≤ i99 ∧ i99 < ((s1.length : Nat) : Int)) <|
 bindO (iteO (decide (((s1.getD i99.toNat 0).toNat : Int) = i2))
 (guardO (0 ≤ i98 ∧ i98 ≤ i99 ∧ i99 ≤ ((s1.length : Nat) : Int)) <|
 guardO (0 = 0 ∧ x97.length = x97.length ∧ x97.length + (([((s1.take i99.toNat).drop i98.toNat)].drop 0).take ([((s1.take i99.toNat).drop i98.toNat)].length)).length ≤ 1099511627776) <|
 some ((x97 ++ (([((s1.take i99.toNat).drop i98.toNat)].drop 0).take ([((s1.take i99.toNat).drop i98.toNat)].length))), (w64 (i99 + 1))))
 (some (x97, i98))) fun v137 =>
 match v137 with
 | (x135, i136) => (spec_splitAt_L1 s1 i2 n x135 i136 (w64 (i99 + 1)))
)
 (some (x97, i98))

theorem spec_splitAt_L1_ok (w : World) (X : Nat → Prop) (θ : List Loc) (s1 : Str) (i2 : Int) (v : ((List Str) × Int)) : ∀ (n : Nat) (x97 : List Str) (i98 : Int) (i99 : Int), spec_splitAt_L1 s1 i2 n x97 i98 i99 = some v → WL EE ⟨w, X, θ, 35, 0⟩ (subC [1, 1, 1, 0, 1, 4, 4] (bodyC Tryz.f41)) (fun (e : Exit) (s : St) => (match v with | (x119, i120) => e = .exit 0 ∧ s = ⟨[(0, S s1), (5, sF 0 x119), (6, I i120)], [sO x119]⟩ : Prop)) ⟨[(0, S s1), (1, U i2), (5, sF 0 x97), (6, I i98), (7, I i99)], [sO x97]⟩ := by
  intro n
  induction n with
  | zero => intro _ _ _ h; exact none_e h
  | succ n ih =>
    intro x97 i98 i99 h
    rw [spec_splitAt_L1] at h
    refine WL_round ?_
    refine W_seq (Wsr ((Wp 4 [0] [0, 1, 5, 6, 7, 12] T3 ⟨[(0, S s1), (1, U i2), (5, sF 0 x97), (6, I i98), (7, I i99), (12, B (decide (i99 < (lI s1))))], [sO x97]⟩ t3 (Wnt ((iteO_e h (fun hb123 h => W_true rfl hb123 ?_) (fun hb123 h => W_false rfl hb123 ?_)))))))
    ·refine Ww [0] [0, 1, 5, 6, 7] ⟨[(0, S s1), (1, U i2), (5, sF 0 x97), (6, I i98), (7, I i99)], [sO x97]⟩ (W_skip (thenS_n (W_seq (W_block (Wsr ((guardO_e h (fun hg131 h => (Wp 5 [0] [0, 1, 5, 6, 7, 19] ((0 ≤ i99 ∧ i99 < (lI s1)) ∧ T2) ⟨[(0, S s1), (1, U i2), (5, sF 0 x97), (6, I i98), (7, I i99), (19, B (decide (((s1.getD i99.toNat 0).toNat : Int) = i2)))], [sO x97]⟩ ⟨hg131, trivial, trivial⟩ (Wnt ((bindO_e h (fun v137 hv137 h => (W_cut (Q' := fun (e : Exit) (s : St) => (match v137 with | (x135, i136) => e = .normal ∧ s = ⟨[(0, S s1), (1, U i2), (5, sF 0 x135), (6, I i136), (7, I i99)], [sO x135]⟩ : Prop)) ?_ ?_))))))))))))))
     ·refine iteO_e hv137 (fun hb138 hv137 => W_true rfl hb138 ?_) (fun hb138 hv137 => W_false rfl hb138 ?_)
      ·refine Wsr ((guardO_e hv137 (fun hg139 hv137 => (guardO_e hv137 (fun hg140 hv137 => (Wp 8 [2] [0, 1, 5, 7] ((0 ≤ i98 ∧ i98 ≤ i99 ∧ i99 ≤ (lI s1)) ∧ ((0 = 0 ∧ x97.length = x97.length ∧ x97.length + (([((s1.take i99.toNat).drop i98.toNat)].drop 0).take ([((s1.take i99.toNat).drop i98.toNat)].length)).length ≤ 1099511627776) ∧ True)) ⟨[(0, S s1), (1, U i2), (5, .one (.e (.sl 0 0 ((x97 ++ (([((s1.take i99.toNat).drop i98.toNat)].drop 0).take ([((s1.take i99.toNat).drop i98.toNat)].length))).length)))), (7, I i99)], [.row .str (x97 ++ (([((s1.take i99.toNat).drop i98.toNat)].drop 0).take ([((s1.take i99.toNat).drop i98.toNat)].length))) true]⟩ ⟨hg139, hg140, trivial⟩ (Wnt ((W_region (Wp 3 [0] [0, 1, 5, 6, 7] T2 ⟨[(0, S s1), (1, U i2), (5, .one (.e (.sl 0 0 ((x97 ++ (([((s1.take i99.toNat).drop i98.toNat)].drop 0).take ([((s1.take i99.toNat).drop i98.toNat)].length))).length)))), (6, I (w64 (i99 + 1))), (7, I i99)], [.row .str (x97 ++ (([((s1.take i99.toNat).drop i98.toNat)].drop 0).take ([((s1.take i99.toNat).drop i98.toNat)].length))) true]⟩ t2 (WO_nil rfl ?_)))))))))))
       cases hv137
       exact aI rfl rfl
      ·refine Ww [0] [0, 1, 5, 6, 7] ⟨[(0, S s1), (1, U i2), (5, sF 0 x97), (6, I i98), (7, I i99)], [sO x97]⟩ (W_skip ?_)
       cases hv137
       exact aI rfl rfl
     ·obtain ⟨x135, i136⟩ := v137
      rintro _ _ ⟨rfl, rfl⟩
      refine blockS_n (thenS_n (W_region (Wp 3 [0] [0, 1, 5, 6, 7] T2 ⟨[(0, S s1), (1, U i2), (5, sF 0 x135), (6, I i136), (7, I (w64 (i99 + 1)))], [sO x135]⟩ t2 (Wnt (?_)))))
      exact ih _ _ _ h
    ·refine Ww [0] [0, 5, 6] ⟨[(0, S s1), (5, sF 0 x97), (6, I i98)], [sO x97]⟩ (W_exit (thenS_e (thenS_e ?_)))
     cases h
     exact aI rfl rfl

def spec_splitAt (n : Nat) (s1 : Str) (i2 : Int) : Option ((List Str)) :=
 bindO (spec_splitAt_L1 s1 i2 n ([] : List Str) 0 0) fun v141 =>
 match v141 with
 | (x119, i120) => (guardO (0 ≤ i120 ∧ i120 ≤ ((s1.length : Nat) : Int)) <|
 guardO (0 = 0 ∧ x119.length = x119.length ∧ x119.length + (([(s1.drop i120.toNat)].drop 0).take ([(s1.drop i120.toNat)].length)).length ≤ 1099511627776) <|
 some (x119 ++ (([(s1.drop i120.toNat)].drop 0).take ([(s1.drop i120.toNat)].length))))


theorem spec_splitAt_ok (n : Nat) (s1 : Str) (i2 : Int) (x71 : List Str) (h : spec_splitAt n s1 i2 = some x71) : FOk EE 41 [S s1, U i2] [] (sF 0 x71) [sO x71] := by
  unfold spec_splitAt at h
  refine FOk_of_W 35 0 Tryz.func41 rfl rfl (Nat.le_of_ble_eq_true rfl) rfl (fun w X θ => ?_)
  refine Wsr ((Ws 1 [] [0, 1] ⟨[(0, S s1), (1, U i2)], []⟩ (Wnt ((W_seq (W_region ?_))))))
  refine Ws 2 [0] [0, 1, 5] ⟨[(0, S s1), (1, U i2), (5, .one (.e (.sl 0 0 (([] : List Str).length))))], [sO ([] : List Str)]⟩ (Wnt ((Wsr ((Ws 1 [0] [0, 1, 5, 6] ⟨[(0, S s1), (1, U i2), (5, .one (.e (.sl 0 0 (([] : List Str).length)))), (6, I 0)], [sO ([] : List Str)]⟩ (WO_nil rfl ?_))))))
  refine thenS_n (W_seq (Wsr ((Ws 1 [0] [0, 1, 5, 6, 7] ⟨[(0, S s1), (1, U i2), (5, .one (.e (.sl 0 0 (([] : List Str).length)))), (6, I 0), (7, I 0)], [sO ([] : List Str)]⟩ (Wnt (?_))))))
  refine W_block (W_loop (bindO_e h (fun v141 hv141 h => (WL_cut (spec_splitAt_L1_ok w X θ s1 i2 v141 n ([] : List Str) 0 0 hv141) ?_))))
  obtain ⟨x119, i120⟩ := v141
  rintro _ _ ⟨rfl, rfl⟩
  refine blockS_y (thenS_n (Wsr ((guardO_e h (fun hg142 h => (guardO_e h (fun hg143 h => (Wp 7 [2] [4] ((0 ≤ i120 ∧ i120 ≤ (lI s1)) ∧ ((0 = 0 ∧ x119.length = x119.length ∧ x119.length + (([(s1.drop i120.toNat)].drop 0).take ([(s1.drop i120.toNat)].length)).length ≤ 1099511627776) ∧ True)) ⟨[(4, .one (.e (.sl 0 0 ((x119 ++ (([(s1.drop i120.toNat)].drop 0).take ([(s1.drop i120.toNat)].length))).length))))], [.row .str (x119 ++ (([(s1.drop i120.toNat)].drop 0).take ([(s1.drop i120.toNat)].length))) true]⟩ ⟨hg142, hg143, trivial⟩ ?_))))))))
  refine Wnt ((W_ret ?_))
  cases h
  exact ⟨[0], True, by kernel_rfl, trivial⟩

/- spec.inRange -/
def spec_inRange (i1 : Int) (i2 : Int) (i3 : Int) : Bool :=
((decide (i2 ≤ i1)) && (decide (i1 ≤ i3)))

theorem spec_inRange_ok (i1 : Int) (i2 : Int) (i3 : Int) : FOk EE 71 [I i1, I i2, I i3] [] (B (spec_inRange i1 i2 i3)) [] := by
  refine FOk_of_W 15 0 Tryz.func71 rfl rfl (Nat.le_of_ble_eq_true rfl) rfl (fun w X θ => ?_)
  refine Wsr ((Ws 1 [] [0, 1, 2] ⟨[(0, I i1), (1, I i2), (2, I i3)], []⟩ (Wnt ((W_seq (W_region ?_))))))
  refine Wp 4 [] [0, 2, 10] T2 ⟨[(0, I i1), (2, I i3), (10, B (decide (i2 ≤ i1)))], []⟩ t2 (WO_thru ⟨[(6, B ((decide (i2 ≤ i1)) && (decide (i1 ≤ i3))))], []⟩ ?_ ?_)
  ·refine WO_if 10 rfl (fun hb10 => ?_) (fun hb10 => ?_)
   ·refine Wp 5 [] [6] T2 ⟨[(6, B (decide (i1 ≤ i3)))], []⟩ t2 ?_
    exact WO_nil rfl ⟨rfl, by first | rfl | (rw [hb10]; first | done | rfl)⟩
   ·refine Ws 5 [] [6] ⟨[(6, B false)], []⟩ ?_
    exact WO_nil rfl ⟨rfl, by first | rfl | (rw [hb10]; first | done | rfl)⟩
  ·refine thenS_n (W_ret ?_)
   exact ⟨[], True, by kernel_rfl, trivial⟩

/- spec.decimal -/
def spec_decimal_B (rec : Int → Option (Str)) (i1 : Int) : Option (Str) :=
 iteO ((decide (i1 < 0)) && (decide (i1 = (w64 (0 - i1)))))
 (some [45, 57, 50, 50, 51, 51, 55, 50, 48, 51, 54, 56, 53, 52, 55, 55, 53, 56, 48, 56])
 (iteO (decide (i1 < 0))
 (bindO (rec (w64 (0 - i1))) fun s32 =>
 guardO ([45].length + s32.length ≤ 1099511627776) <|
 some ([45] ++ s32))
 (iteO (decide (i1 < 10))
 (some (bytesOf (([(IntKind.u8.wrap (w64 (48 + i1)))].drop 0).take ([(IntKind.u8.wrap (w64 (48 + i1)))].length))))
 (bindO (rec (w64 (i1.tdiv 10))) fun s37 =>
 guardO (s37.length + (bytesOf (([(IntKind.u8.wrap (w64 (48 + (i1.tmod 10))))].drop 0).take ([(IntKind.u8.wrap (w64 (48 + (i1.tmod 10))))].length))).length ≤ 1099511627776) <|
 some (s37 ++ (bytesOf (([(IntKind.u8.wrap (w64 (48 + (i1.tmod 10))))].drop 0).take ([(IntKind.u8.wrap (w64 (48 + (i1.tmod 10))))].length)))))))

theorem spec_decimal_B_ok (rec : Int → Option (Str)) (hrec : ∀ (i1 : Int) (s2 : Str), rec i1 = some s2 → FOk EE 24 [I i1] [] (S s2) []) (i1 : Int) (s21 : Str) (h : spec_decimal_B rec i1 = some s21) : FOk EE 24 [I i1] [] (S s21) [] := by
  unfold spec_decimal_B at h
  refine FOk_of_W 34 0 Tryz.func24 rfl rfl (Nat.le_of_ble_eq_true rfl) rfl (fun w X θ => ?_)
  refine Wsr ((Ws 1 [] [0] ⟨[(0, I i1)], []⟩ (Wnt ((W_seq (W_seq ?_))))))
  refine W_region (Wp 3 [] [0, 5] T2 ⟨[(0, I i1), (5, B (decide (i1 < 0)))], []⟩ t2 (WO_thru ⟨[(0, I i1), (10, B ((decide (i1 < 0)) && (decide (i1 = (w64 (0 - i1))))))], []⟩ ?_ ?_))
  ·refine WO_if 5 rfl (fun hb24 => ?_) (fun hb24 => ?_)
   ·refine Wp 5 [] [0, 10] T2 ⟨[(0, I i1), (10, B (decide (i1 = (w64 (0 - i1)))))], []⟩ t2 ?_
    exact WO_nil rfl ⟨rfl, by first | rfl | (rw [hb24]; first | done | rfl)⟩
   ·refine Ws 5 [] [0, 10] ⟨[(0, I i1), (10, B false)], []⟩ ?_
    exact WO_nil rfl ⟨rfl, by first | rfl | (rw [hb24]; first | done | rfl)⟩
  ·refine thenS_n (iteO_e h (fun hb26 h => W_true rfl hb26 ?_) (fun hb26 h => W_false rfl hb26 ?_))
   ·refine Wsr ((Ws 1 [] [2] ⟨[(2, S [45, 57, 50, 50, 51, 51, 55, 50, 48, 51, 54, 56, 53, 52, 55, 55, 53, 56, 48, 56])], []⟩ (Wnt ((W_ret (thenS_r ?_))))))
    cases h
    exact ⟨[], True, by kernel_rfl, trivial⟩
   ·refine Ww [] [0] ⟨[(0, I i1)], []⟩ (W_skip (thenS_n (W_seq (Wsr ((Wp 2 [] [0, 12] T2 ⟨[(0, I i1), (12, B (decide (i1 < 0)))], []⟩ t2 (Wnt ((iteO_e h (fun hb31 h => W_true rfl hb31 ?_) (fun hb31 h => W_false rfl hb31 ?_))))))))))
    ·refine Wsr ((Ws 2 [] [14] ⟨[(14, I (w64 (0 - i1)))], []⟩ (bindO_e h (fun s32 hc33 h => (Wc [] rfl rfl rfl Tryz.func24 rfl (hrec (w64 (0 - i1)) s32 hc33) (trivial) rfl (guardO_e h (fun hg34 h => (Wp 2 [] [2] (([45].length + s32.length ≤ 1099511627776) ∧ True) ⟨[(2, S ([45] ++ s32))], []⟩ ⟨hg34, trivial⟩ (Wnt ((W_ret (thenS_r ?_))))))))))))
     cases h
     exact ⟨[], True, by kernel_rfl, trivial⟩
    ·refine Ww [] [0] ⟨[(0, I i1)], []⟩ (W_skip (thenS_n (W_seq (Wsr ((Wp 2 [] [0, 18] T2 ⟨[(0, I i1), (18, B (decide (i1 < 10)))], []⟩ t2 (Wnt ((iteO_e h (fun hb36 h => W_true rfl hb36 ?_) (fun hb36 h => W_false rfl hb36 ?_))))))))))
     ·refine Wsr ((Wp 6 [] [2] T4 ⟨[(2, S (bytesOf (([(IntKind.u8.wrap (w64 (48 + i1)))].drop 0).take ([(IntKind.u8.wrap (w64 (48 + i1)))].length))))], []⟩ t4 (Wnt ((W_ret (thenS_r ?_))))))
      cases h
      exact ⟨[], True, by kernel_rfl, trivial⟩
     ·refine Ww [] [0] ⟨[(0, I i1)], []⟩ (W_skip (thenS_n (W_seq (bindO_e h (fun s37 hc38 h => (guardO_e h (fun hg39 h => (W_cut (Q' := fun (e : Exit) (s : St) => e = .normal ∧ s = ⟨[(2, S (s37 ++ (bytesOf (([(IntKind.u8.wrap (w64 (48 + (i1.tmod 10))))].drop 0).take ([(IntKind.u8.wrap (w64 (48 + (i1.tmod 10))))].length)))))], []⟩) ?_ ?_))))))))
      ·refine W_draw [] false (by kernel_rfl) (by kernel_rfl) (WD_takeQ [0, 1, 3, 4, 5, 6] [25, 30] [25, 30] (φ := (((10 : Int) ≠ 0) ∧ ((10 : Int) ≠ 0) ∧ (((10 : Int) ≠ 0) ∧ ((10 : Int) ≠ 0) ∧ (True ∧ True ∧ (True ∧ True ∧ True))))) (ls' := (tf true [2, 1, 4, 4])) (st' := ⟨[(25, I (w64 (i1.tdiv 10))), (30, U (IntKind.u8.wrap (w64 (48 + (i1.tmod 10)))))], []⟩) (n2 := 5) (by kernel_rfl) ⟨(by decide), (by decide), (by decide), (by decide), trivial, trivial, trivial, trivial, trivial⟩ rfl (WD_all [2, 7] (n := 4) (by kernel_rfl) rfl (aI ?_ (?_))))
       ·refine WM_call [] Tryz.f24 rfl rfl (by kernel_rfl) Tryz.func24 rfl (by kernel_rfl) (hrec (w64 (i1.tdiv 10)) s37 hc38) (trivial) rfl (trivial) (WD_all [7] (n := 3) (by kernel_rfl) rfl (WM_op (φ := True) (v := .one (.e (.sl 0 0 ([(IntKind.u8.wrap (w64 (48 + (i1.tmod 10))))].length)))) (H' := [.row .u8 [(IntKind.u8.wrap (w64 (48 + (i1.tmod 10))))] true]) rfl rfl (by kernel_rfl) trivial rfl (trivial) (WD_all [8] (n := 2) (by kernel_rfl) rfl (WM_op (φ := True) (v := S (bytesOf (([(IntKind.u8.wrap (w64 (48 + (i1.tmod 10))))].drop 0).take ([(IntKind.u8.wrap (w64 (48 + (i1.tmod 10))))].length)))) (H' := [.row .u8 [(IntKind.u8.wrap (w64 (48 + (i1.tmod 10))))] true]) rfl rfl (by kernel_rfl) trivial rfl (trivial) (WD_takeQ [9, 10] [2] [2] (φ := ((s37.length + (bytesOf (([(IntKind.u8.wrap (w64 (48 + (i1.tmod 10))))].drop 0).take ([(IntKind.u8.wrap (w64 (48 + (i1.tmod 10))))].length))).length ≤ 1099511627776) ∧ (s37.length + (bytesOf (([(IntKind.u8.wrap (w64 (48 + (i1.tmod 10))))].drop 0).take ([(IntKind.u8.wrap (w64 (48 + (i1.tmod 10))))].length))).length ≤ 1099511627776) ∧ True)) (ls' := (tf true [11])) (st' := ⟨[(2, S (s37 ++ (bytesOf (([(IntKind.u8.wrap (w64 (48 + (i1.tmod 10))))].drop 0).take ([(IntKind.u8.wrap (w64 (48 + (i1.tmod 10))))].length)))))], [.row .u8 [(IntKind.u8.wrap (w64 (48 + (i1.tmod 10))))] true]⟩) (n2 := 0) (by kernel_rfl) ⟨hg39, hg39, trivial⟩ rfl ?_)))))
        exact WD_done [] [2] (st' := ⟨[(2, S (s37 ++ (bytesOf (([(IntKind.u8.wrap (w64 (48 + (i1.tmod 10))))].drop 0).take ([(IntKind.u8.wrap (w64 (48 + (i1.tmod 10))))].length)))))], []⟩) (by kernel_rfl) (by kernel_rfl) (aI rfl rfl)
       ·refine WM_op (φ := True) (v := .one (.e (.sl 0 0 ([(IntKind.u8.wrap (w64 (48 + (i1.tmod 10))))].length)))) (H' := [.row .u8 [(IntKind.u8.wrap (w64 (48 + (i1.tmod 10))))] true]) rfl rfl (by kernel_rfl) trivial rfl (trivial) (WD_all [2, 8] (n := 3) (by kernel_rfl) rfl (aI ?_ (?_)))
        ·refine WM_call [] Tryz.f24 rfl rfl (by kernel_rfl) Tryz.func24 rfl (by kernel_rfl) (hrec (w64 (i1.tdiv 10)) s37 hc38) (trivial) rfl (trivial) (WD_all [8] (n := 2) (by kernel_rfl) rfl (WM_op (φ := True) (v := S (bytesOf (([(IntKind.u8.wrap (w64 (48 + (i1.tmod 10))))].drop 0).take ([(IntKind.u8.wrap (w64 (48 + (i1.tmod 10))))].length)))) (H' := [.row .u8 [(IntKind.u8.wrap (w64 (48 + (i1.tmod 10))))] true]) rfl rfl (by kernel_rfl) trivial rfl (trivial) (WD_takeQ [9, 10] [2] [2] (φ := ((s37.length + (bytesOf (([(IntKind.u8.wrap (w64 (48 + (i1.tmod 10))))].drop 0).take ([(IntKind.u8.wrap (w64 (48 + (i1.tmod 10))))].length))).length ≤ 1099511627776) ∧ (s37.length + (bytesOf (([(IntKind.u8.wrap (w64 (48 + (i1.tmod 10))))].drop 0).take ([(IntKind.u8.wrap (w64 (48 + (i1.tmod 10))))].length))).length ≤ 1099511627776) ∧ True)) (ls' := (tf true [11])) (st' := ⟨[(2, S (s37 ++ (bytesOf (([(IntKind.u8.wrap (w64 (48 + (i1.tmod 10))))].drop 0).take ([(IntKind.u8.wrap (w64 (48 + (i1.tmod 10))))].length)))))], [.row .u8 [(IntKind.u8.wrap (w64 (48 + (i1.tmod 10))))] true]⟩) (n2 := 0) (by kernel_rfl) ⟨hg39, hg39, trivial⟩ rfl ?_)))
         exact WD_done [] [2] (st' := ⟨[(2, S (s37 ++ (bytesOf (([(IntKind.u8.wrap (w64 (48 + (i1.tmod 10))))].drop 0).take ([(IntKind.u8.wrap (w64 (48 + (i1.tmod 10))))].length)))))], []⟩) (by kernel_rfl) (by kernel_rfl) (aI rfl rfl)
        ·refine WM_op (φ := True) (v := S (bytesOf (([(IntKind.u8.wrap (w64 (48 + (i1.tmod 10))))].drop 0).take ([(IntKind.u8.wrap (w64 (48 + (i1.tmod 10))))].length)))) (H' := [.row .u8 [(IntKind.u8.wrap (w64 (48 + (i1.tmod 10))))] true]) rfl rfl (by kernel_rfl) trivial rfl (trivial) (WD_all [2] (n := 2) (by kernel_rfl) rfl (WM_call [] Tryz.f24 rfl rfl (by kernel_rfl) Tryz.func24 rfl (by kernel_rfl) (hrec (w64 (i1.tdiv 10)) s37 hc38) (trivial) rfl (trivial) (WD_takeQ [9, 10] [2] [2] (φ := ((s37.length + (bytesOf (([(IntKind.u8.wrap (w64 (48 + (i1.tmod 10))))].drop 0).take ([(IntKind.u8.wrap (w64 (48 + (i1.tmod 10))))].length))).length ≤ 1099511627776) ∧ (s37.length + (bytesOf (([(IntKind.u8.wrap (w64 (48 + (i1.tmod 10))))].drop 0).take ([(IntKind.u8.wrap (w64 (48 + (i1.tmod 10))))].length))).length ≤ 1099511627776) ∧ True)) (ls' := (tf true [11])) (st' := ⟨[(2, S (s37 ++ (bytesOf (([(IntKind.u8.wrap (w64 (48 + (i1.tmod 10))))].drop 0).take ([(IntKind.u8.wrap (w64 (48 + (i1.tmod 10))))].length)))))], [.row .u8 [(IntKind.u8.wrap (w64 (48 + (i1.tmod 10))))] true]⟩) (n2 := 0) (by kernel_rfl) ⟨hg39, hg39, trivial⟩ rfl ?_)))
         exact WD_done [] [2] (st' := ⟨[(2, S (s37 ++ (bytesOf (([(IntKind.u8.wrap (w64 (48 + (i1.tmod 10))))].drop 0).take ([(IntKind.u8.wrap (w64 (48 + (i1.tmod 10))))].length)))))], []⟩) (by kernel_rfl) (by kernel_rfl) (aI rfl rfl)
      ·rintro _ _ ⟨rfl, rfl⟩
       refine thenS_n (W_ret ?_)
       cases h
       exact ⟨[], True, by kernel_rfl, trivial⟩

def spec_decimal : Nat → Int → Option (Str)
| 0, _ => none
| n + 1, i1 => spec_decimal_B (spec_decimal n) i1

theorem spec_decimal_ok : ∀ (n : Nat) (i1 : Int) (s21 : Str), spec_decimal n i1 = some s21 → FOk EE 24 [I i1] [] (S s21) [] := by
  intro n
  induction n with
  | zero => intro _ _ h; exact none_e h
  | succ n ih => intro i1 s21 h; exact spec_decimal_B_ok (spec_decimal n) ih i1 s21 h

/- spec.parseInt -/
def spec_parseInt_L1 (s1 : Str) : Nat → Int → Int → Option ((Unit) ⊕ (Int))
| 0, _, _ => none
| n + 1, i167, i168 =>
 iteO ((decide (i168 < ((s1.length : Nat) : Int))) && (decide (((s1.length : Nat) : Int) ≤ 5)))
 (guardO (0 ≤ i168 ∧ i168 < ((s1.length : Nat) : Int)) <|
 bindO (iteO (spec_inRange (w64 ((s1.getD i168.toNat 0).toNat : Int)) 48 57)
 (guardO (0 ≤ i168 ∧ i168 < ((s1.length : Nat) : Int)) <|
 some (.inl (w64 ((w64 ((w64 (10 * i167)) + (w64 ((s1.getD i168.toNat 0).toNat : Int)))) - 48))))
 (bindO (iteO (decide (0 < i168))
 (some true)
 (guardO (0 ≤ i168 ∧ i168 < ((s1.length : Nat) : Int)) <|
 some (!decide (((s1.getD i168.toNat 0).toNat : Int) = 45)))) fun b239 =>
 iteO b239
 (some (.inr ()))
 (some (.inl i167))) : Option ((Int) ⊕ (Unit))) fun v234 =>
 match v234 with
 | (.inl i233) => (spec_parseInt_L1 s1 n i233 (w64 (i168 + 1)))
 | (.inr _) => (some (.inl ()))
)
 (some (.inr i167))

theorem spec_parseInt_L1_ok (w : World) (X : Nat → Prop) (θ : List Loc) (s1 : Str) (v : (Unit) ⊕ (Int)) : ∀ (n : Nat) (i167 : Int) (i168 : Int), spec_parseInt_L1 s1 n i167 i168 = some v → WL EE ⟨w, X, θ, 63, 0⟩ (subC [1, 1, 0, 1, 4, 4] (bodyC Tryz.f42)) (fun (e : Exit) (s : St) => (match v with | (.inl _) => e = .ret ∧ s = ⟨[(2, I 0), (3, B false)], []⟩ | (.inr i202) => e = .exit 0 ∧ s = ⟨[(0, S s1), (4, I i202)], []⟩ : Prop)) ⟨[(0, S s1), (4, I i167), (5, I i168)], []⟩ := by
  intro n
  induction n with
  | zero => intro _ _ h; exact none_e h
  | succ n ih =>
    intro i167 i168 h
    rw [spec_parseInt_L1] at h
    refine WL_round ?_
    refine W_seq (Wsr ((Wp 5 [] [0, 4, 5, 10] T3 ⟨[(0, S s1), (4, I i167), (5, I i168), (10, B (decide (i168 < (lI s1))))], []⟩ t3 (WO_thru ⟨[(0, S s1), (4, I i167), (5, I i168), (14, B ((decide (i168 < (lI s1))) && (decide ((lI s1) ≤ 5))))], []⟩ ?_ ?_))))
    ·refine WO_if 10 rfl (fun hb206 => ?_) (fun hb206 => ?_)
     ·refine Wp 4 [] [0, 4, 5, 14] T3 ⟨[(0, S s1), (4, I i167), (5, I i168), (14, B (decide ((lI s1) ≤ 5)))], []⟩ t3 ?_
      exact WO_nil rfl ⟨rfl, by first | rfl | (rw [hb206]; first | done | rfl)⟩
     ·refine Ws 4 [] [0, 4, 5, 14] ⟨[(0, S s1), (4, I i167), (5, I i168), (14, B false)], []⟩ ?_
      exact WO_nil rfl ⟨rfl, by first | rfl | (rw [hb206]; first | done | rfl)⟩
    ·refine thenS_n (iteO_e h (fun hb208 h => W_true rfl hb208 ?_) (fun hb208 h => W_false rfl hb208 ?_))
     ·refine Ww [] [0, 4, 5] ⟨[(0, S s1), (4, I i167), (5, I i168)], []⟩ (W_skip (thenS_n (W_seq (W_block (Wsr ((guardO_e h (fun hg222 h => (Wp 4 [] [0, 4, 5, 20] ((0 ≤ i168 ∧ i168 < (lI s1)) ∧ T2) ⟨[(0, S s1), (4, I i167), (5, I i168), (20, I (w64 ((s1.getD i168.toNat 0).toNat : Int)))], []⟩ ⟨hg222, trivial, trivial⟩ (Wc [] rfl rfl rfl Tryz.func71 rfl (spec_inRange_ok (w64 ((s1.getD i168.toNat 0).toNat : Int)) 48 57) (trivial) rfl (Wb [] [0, 4, 5, 21] ⟨[(0, S s1), (4, I i167), (5, I i168), (21, B (spec_inRange (w64 ((s1.getD i168.toNat 0).toNat : Int)) 48 57))], []⟩ (Wnt ((bindO_e h (fun v234 hv234 h => (W_cut (Q' := fun (e : Exit) (s : St) => (match v234 with | (.inl i233) => e = .normal ∧ s = ⟨[(0, S s1), (4, I i233), (5, I i168)], []⟩ | (.inr _) => e = .ret ∧ s = ⟨[(2, I 0), (3, B false)], []⟩ : Prop)) ?_ ?_))))))))))))))))
      ·refine iteO_e hv234 (fun hb235 hv234 => W_true rfl hb235 ?_) (fun hb235 hv234 => W_false rfl hb235 ?_)
       ·refine W_region (guardO_e hv234 (fun hg236 hv234 => (Wp 9 [] [0, 4, 5] (True ∧ ((0 ≤ i168 ∧ i168 < (lI s1)) ∧ T4)) ⟨[(0, S s1), (4, I (w64 ((w64 ((w64 (10 * i167)) + (w64 ((s1.getD i168.toNat 0).toNat : Int)))) - 48))), (5, I i168)], []⟩ ⟨trivial, hg236, trivial, trivial, trivial, trivial⟩ (WO_nil rfl ?_))))
        cases hv234
        exact aI rfl rfl
       ·refine Wsr ((Wp 3 [] [0, 4, 5, 32] T2 ⟨[(0, S s1), (4, I i167), (5, I i168), (32, B (decide (0 < i168)))], []⟩ t2 (bindO_e hv234 (fun b239 hv240 hv234 => (WO_thru ⟨[(0, S s1), (4, I i167), (5, I i168), (37, B b239)], []⟩ ?_ ?_)))))
        ·refine iteO_e hv240 (fun hb241 hv240 => WO_known 32 true rfl hb241 ?_) (fun hb241 hv240 => WO_known 32 false rfl hb241 ?_)
         ·refine Ws 5 [] [0, 4, 5, 37] ⟨[(0, S s1), (4, I i167), (5, I i168), (37, B true)], []⟩ ?_
          cases hv240
          exact WO_nil rfl ⟨rfl, rfl⟩
         ·refine guardO_e hv240 (fun hg242 hv240 => (Wp 5 [] [0, 4, 5, 37] ((0 ≤ i168 ∧ i168 < (lI s1)) ∧ T2) ⟨[(0, S s1), (4, I i167), (5, I i168), (37, B (!decide (((s1.getD i168.toNat 0).toNat : Int) = 45)))], []⟩ ⟨hg242, trivial, trivial⟩ ?_))
          cases hv240
          exact WO_nil rfl ⟨rfl, rfl⟩
        ·refine thenS_n (iteO_e hv234 (fun hb244 hv234 => W_true rfl hb244 ?_) (fun hb244 hv234 => W_false rfl hb244 ?_))
         ·refine Wsr ((Ws 2 [] [2, 3] ⟨[(2, I 0), (3, B false)], []⟩ (Wnt ((W_ret ?_)))))
          cases hv234
          exact aI rfl rfl
         ·refine Ww [] [0, 4, 5] ⟨[(0, S s1), (4, I i167), (5, I i168)], []⟩ (W_skip ?_)
          cases hv234
          exact aI rfl rfl
      ·rcases v234 with i233 | _
       ·rintro _ _ ⟨rfl, rfl⟩
        refine blockS_n (thenS_n (W_region (Wp 3 [] [0, 4, 5] T2 ⟨[(0, S s1), (4, I i233), (5, I (w64 (i168 + 1)))], []⟩ t2 (Wnt (?_)))))
        exact ih _ _ h
       ·rintro _ _ ⟨rfl, rfl⟩
        refine blockS_r (thenS_r (thenS_r ?_))
        cases h
        exact aI rfl rfl
     ·refine Ww [] [0, 4] ⟨[(0, S s1), (4, I i167)], []⟩ (W_exit (thenS_e (thenS_e ?_)))
      cases h
      exact aI rfl rfl

def spec_parseInt (n : Nat) (s1 : Str) : Option (Int × Bool) :=
 bindO (spec_parseInt_L1 s1 n 0 0) fun v245 =>
 match v245 with
 | (.inl _) => (some (0, false))
 | (.inr i202) => (bindO (iteO (decide (0 < ((s1.length : Nat) : Int)))
 (guardO (0 ≤ (0 : Int) ∧ (0 : Int) < ((s1.length : Nat) : Int)) <|
 some (decide (((s1.getD ((0 : Int).toNat) 0).toNat : Int) = 45)))
 (some false)) fun b248 =>
 bindO (iteO b248
 (some (w64 (0 - i202)))
 (some i202)) fun i253 =>
 bindO (iteO (decide (((s1.length : Nat) : Int) = 0))
 (some true)
 (iteO (decide (5 < ((s1.length : Nat) : Int)))
 (some true)
 (bindO (spec_decimal n i253) fun s264 =>
 some (!decide (s264 = s1))))) fun b260 =>
 iteO b260
 (some (0, false))
 (some (i253, true)))


theorem spec_parseInt_ok (n : Nat) (s1 : Str) (i128 : Int) (b129 : Bool) (h : spec_parseInt n s1 = some (i128, b129)) : FOk EE 42 [S s1] [] (.tup [.e (cI i128), .e (cB b129)]) [] := by
  unfold spec_parseInt at h
  refine FOk_of_W 63 0 Tryz.func42 rfl rfl (Nat.le_of_ble_eq_true rfl) rfl (fun w X θ => ?_)
  refine Wsr ((Ws 2 [] [0] ⟨[(0, S s1)], []⟩ (Wnt ((W_seq (W_region ?_))))))
  refine Ws 1 [] [0, 4] ⟨[(0, S s1), (4, I 0)], []⟩ (Wnt ((W_seq (Wsr ((Ws 1 [] [0, 4, 5] ⟨[(0, S s1), (4, I 0), (5, I 0)], []⟩ ?_))))))
  refine Wnt ((W_block (W_loop (bindO_e h (fun v245 hv245 h => (WL_cut (spec_parseInt_L1_ok w X θ s1 v245 n 0 0 hv245) ?_))))))
  rcases v245 with _ | i202
  ·rintro _ _ ⟨rfl, rfl⟩
   refine blockS_r (thenS_r ?_)
   cases h
   exact ⟨[], True, by kernel_rfl, trivial⟩
  ·rintro _ _ ⟨rfl, rfl⟩
   refine blockS_y (thenS_n (W_seq (Wsr ((Wp 4 [] [0, 4, 41] T3 ⟨[(0, S s1), (4, I i202), (41, B (decide (0 < (lI s1))))], []⟩ t3 (bindO_e h (fun b248 hv249 h => (WO_thru ⟨[(0, S s1), (4, I i202), (45, B b248)], []⟩ ?_ ?_))))))))
   ·refine iteO_e hv249 (fun hb250 hv249 => WO_known 41 true rfl hb250 ?_) (fun hb250 hv249 => WO_known 41 false rfl hb250 ?_)
    ·refine guardO_e hv249 (fun hg251 hv249 => (Wp 4 [] [0, 4, 45] ((0 ≤ (0 : Int) ∧ (0 : Int) < (lI s1)) ∧ T2) ⟨[(0, S s1), (4, I i202), (45, B (decide (((s1.getD ((0 : Int).toNat) 0).toNat : Int) = 45)))], []⟩ ⟨hg251, trivial, trivial⟩ ?_))
     cases hv249
     exact WO_nil rfl ⟨rfl, rfl⟩
    ·refine Ws 4 [] [0, 4, 45] ⟨[(0, S s1), (4, I i202), (45, B false)], []⟩ ?_
     cases hv249
     exact WO_nil rfl ⟨rfl, rfl⟩
   ·refine thenS_n (bindO_e h (fun i253 hi253 h => (W_cut (Q' := fun (e : Exit) (s : St) => e = .normal ∧ s = ⟨[(0, S s1), (4, I i253)], []⟩) ?_ ?_)))
    ·refine iteO_e hi253 (fun hb255 hi253 => W_true rfl hb255 ?_) (fun hb255 hi253 => W_false rfl hb255 ?_)
     ·refine W_region (Ws 3 [] [0, 4] ⟨[(0, S s1), (4, I (w64 (0 - i202)))], []⟩ (WO_nil rfl ?_))
      cases hi253
      exact aI rfl rfl
     ·refine Ww [] [0, 4] ⟨[(0, S s1), (4, I i202)], []⟩ (W_skip ?_)
      cases hi253
      exact aI rfl rfl
    ·rintro _ _ ⟨rfl, rfl⟩
     refine thenS_n (W_seq (Wsr ((Wp 4 [] [0, 4, 51] T3 ⟨[(0, S s1), (4, I i253), (51, B (decide ((lI s1) = 0)))], []⟩ t3 (bindO_e h (fun b260 hv261 h => (WO_thru ⟨[(4, I i253), (61, B b260)], []⟩ ?_ ?_)))))))
     ·refine iteO_e hv261 (fun hb262 hv261 => WO_known 51 true rfl hb262 ?_) (fun hb262 hv261 => WO_known 51 false rfl hb262 ?_)
      ·refine Ws 10 [] [4, 61] ⟨[(4, I i253), (61, B true)], []⟩ ?_
       cases hv261
       exact WO_nil rfl ⟨rfl, rfl⟩
      ·refine Wp 5 [] [0, 4, 56] T3 ⟨[(0, S s1), (4, I i253), (56, B (decide (5 < (lI s1))))], []⟩ t3 (iteO_e hv261 (fun hb263 hv261 => WO_known 56 true rfl hb263 ?_) (fun hb263 hv261 => WO_known 56 false rfl hb263 ?_))
       ·refine Ws 5 [] [4, 61] ⟨[(4, I i253), (61, B true)], []⟩ ?_
        cases hv261
        exact WO_nil rfl ⟨rfl, rfl⟩
       ·refine Ws 1 [] [0, 4, 56, 57] ⟨[(0, S s1), (4, I i253), (56, B false), (57, I i253)], []⟩ (bindO_e hv261 (fun s264 hc265 hv261 => (Wc [] rfl rfl rfl Tryz.func24 rfl (spec_decimal_ok n i253 s264 hc265) (trivial) rfl (Wp 3 [] [4, 61] T2 ⟨[(4, I i253), (61, B (!decide (s264 = s1)))], []⟩ t2 ?_))))
        cases hv261
        exact WO_nil rfl ⟨rfl, rfl⟩
     ·refine thenS_n (iteO_e h (fun hb267 h => W_true rfl hb267 ?_) (fun hb267 h => W_false rfl hb267 ?_))
      ·refine Wsr ((Ws 2 [] [2, 3] ⟨[(2, I 0), (3, B false)], []⟩ (Wnt ((W_ret (thenS_r ?_))))))
       cases h
       exact ⟨[], True, by kernel_rfl, trivial⟩
      ·refine Ww [] [4] ⟨[(4, I i253)], []⟩ (W_skip (thenS_n (Wsr ((Ws 3 [] [2, 3] ⟨[(2, I i253), (3, B true)], []⟩ (Wnt ((W_ret ?_))))))))
       cases h
       exact ⟨[], True, by kernel_rfl, trivial⟩

/- spec.pathTo -/
def spec_pathTo_L1 (x1 : List Nod) : Nat → (List Int) → Int → Option ((List Int))
| 0, _, _ => none
| n + 1, x46, i47 =>
 iteO (decide (0 < i47))
 (guardO (0 ≤ i47 ∧ i47 < ((x1.length : Nat) : Int)) <|
 guardO (0 = 0 ∧ [(x1.getD i47.toNat dnod).parent].length = [(x1.getD i47.toNat dnod).parent].length ∧ [(x1.getD i47.toNat dnod).parent].length + ((x46.drop 0).take x46.length).length ≤ 1099511627776) <|
 spec_pathTo_L1 x1 n ([(x1.getD i47.toNat dnod).parent] ++ ((x46.drop 0).take x46.length)) ((x1.getD i47.toNat dnod).parent))
 (some x46)

theorem spec_pathTo_L1_ok (w : World) (X : Nat → Prop) (θ : List Loc) (x1 : List Nod) (x56 : (List Int)) : ∀ (n : Nat) (x46 : List Int) (i47 : Int), spec_pathTo_L1 x1 n x46 i47 = some x56 → WL EE ⟨w, X, θ, 20, 1⟩ (subC [1, 1, 0, 4, 4] (bodyC Tryz.f107)) (fun (e : Exit) (s : St) => e = .exit 0 ∧ s = ⟨[(5, sF 1 x56)], [nR x1, iO x56]⟩) ⟨[(0, sF 0 x1), (1, I i47), (5, sF 1 x46)], [nR x1, iO x46]⟩ := by
  intro n
  induction n with
  | zero => intro _ _ h; exact none_e h
  | succ n ih =>
    intro x46 i47 h
    rw [spec_pathTo_L1] at h
    refine WL_round ?_
    refine W_seq (Wsr ((Wp 2 [0, 1] [0, 1, 5, 9] T2 ⟨[(0, sF 0 x1), (1, I i47), (5, sF 1 x46), (9, B (decide (0 < i47)))], [nR x1, iO x46]⟩ t2 (Wnt ((iteO_e h (fun hb59 h => W_true rfl hb59 ?_) (fun hb59 h => W_false rfl hb59 ?_)))))))
    ·refine Ww [0, 1] [0, 1, 5] ⟨[(0, sF 0 x1), (1, I i47), (5, sF 1 x46)], [nR x1, iO x46]⟩ (W_skip (thenS_n (W_block (Wsr ((guardO_e h (fun hg62 h => (Wp 6 [0, 1] [0, 1, 5] ((0 ≤ i47 ∧ i47 < (lI x1)) ∧ T2) ⟨[(0, sF 0 x1), (1, I ((x1.getD i47.toNat dnod).parent)), (5, sF 1 x46)], [nR x1, iO x46]⟩ ⟨hg62, trivial, trivial⟩ (Wnt ((W_region (guardO_e h (fun hg63 h => (Wp 5 [0, 3] [0, 1, 5] ((0 = 0 ∧ [(x1.getD i47.toNat dnod).parent].length = [(x1.getD i47.toNat dnod).parent].length ∧ [(x1.getD i47.toNat dnod).parent].length + ((x46.drop 0).take x46.length).length ≤ 1099511627776) ∧ True) ⟨[(0, sF 0 x1), (1, I ((x1.getD i47.toNat dnod).parent)), (5, .one (.e (.sl 1 0 (([(x1.getD i47.toNat dnod).parent] ++ ((x46.drop 0).take x46.length)).length))))], [nR x1, .row .int ([(x1.getD i47.toNat dnod).parent] ++ ((x46.drop 0).take x46.length)) true]⟩ ⟨hg63, trivial⟩ (WO_nil rfl (blockS_n (thenS_n ?_)))))))))))))))))
     exact ih _ _ h
    ·refine Ww [0, 1] [5] ⟨[(5, sF 1 x46)], [nR x1, iO x46]⟩ (W_exit (thenS_e (thenS_e ?_)))
     cases h
     exact aI rfl rfl

def spec_pathTo (n : Nat) (x1 : List Nod) (i2 : Int) : Option ((List Int)) :=
 bindO (spec_pathTo_L1 x1 n [i2] i2) fun x56 =>
 some x56

theorem spec_pathTo_ok (n : Nat) (x1 : List Nod) (i2 : Int) (x33 : List Int) (h : spec_pathTo n x1 i2 = some x33) : FOk EE 107 [sF 0 x1, I i2] [nR x1] (sF 1 x33) [nR x1, iO x33] := by
  unfold spec_pathTo at h
  refine FOk_of_W 20 1 Tryz.func107 rfl rfl (Nat.le_of_ble_eq_true rfl) rfl (fun w X θ => ?_)
  refine Wsr ((Ws 1 [0] [0, 1] ⟨[(0, sF 0 x1), (1, I i2)], [nR x1]⟩ (Wnt ((W_seq (W_region ?_))))))
  refine Ws 3 [0, 1] [0, 1, 5] ⟨[(0, sF 0 x1), (1, I i2), (5, SL 1 0 ([i2].length))], [nR x1, .row .int [i2] true]⟩ (Wnt ((W_seq (W_block (W_loop (bindO_e h (fun x56 hx56 h => ?_)))))))
  refine WL_cut (spec_pathTo_L1_ok w X θ x1 x56 n [i2] i2 hx56) ?_
  rintro _ _ ⟨rfl, rfl⟩
  refine blockS_y (thenS_n (Wsr ((Ws 2 [0, 1] [4] ⟨[(4, sF 1 x56)], [nR x1, iO x56]⟩ (Wnt (?_))))))
  refine W_ret ?_
  cases h
  exact ⟨[0, 1], True, by kernel_rfl, trivial⟩

/- spec.pathText -/
def spec_pathText_L1 (x1 : List Nod) (i2 : Int) (x48 : List Int) : Nat → Str → Int → Option (Str)
| 0, _, _ => none
| n + 1, s66, i67 =>
 iteO (decide (i67 < ((x48.length : Nat) : Int)))
 (guardO (s66.length + [47].length ≤ 1099511627776) <|
 guardO (0 ≤ i67 ∧ i67 < ((x48.length : Nat) : Int)) <|
 guardO (0 ≤ (x48.getD i67.toNat 0) ∧ (x48.getD i67.toNat 0) < ((x1.length : Nat) : Int)) <|
 guardO ((s66 ++ [47]).length + ((x1.getD ((x48.getD i67.toNat 0).toNat) dnod).name).length ≤ 1099511627776) <|
 spec_pathText_L1 x1 i2 x48 n ((s66 ++ [47]) ++ ((x1.getD ((x48.getD i67.toNat 0).toNat) dnod).name)) (w64 (i67 + 1)))
 (some s66)

theorem spec_pathText_L1_ok (w : World) (X : Nat → Prop) (θ : List Loc) (x1 : List Nod) (i2 : Int) (x48 : List Int) (s80 : Str) : ∀ (n : Nat) (s66 : Str) (i67 : Int), spec_pathText_L1 x1 i2 x48 n s66 i67 = some s80 → WL EE ⟨w, X, θ, 31, 1⟩ (subC [1, 1, 1, 0, 1, 4, 4] (bodyC Tryz.f72)) (fun (e : Exit) (s : St) => e = .exit 0 ∧ s = ⟨[(1, I i2), (5, S s80)], [nR x1]⟩) ⟨[(0, sF 0 x1), (1, I i2), (5, S s66), (6, sF 1 x48), (7, I i67)], [nR x1, iO x48]⟩ := by
  intro n
  induction n with
  | zero => intro _ _ h; exact none_e h
  | succ n ih =>
    intro s66 i67 h
    rw [spec_pathText_L1] at h
    refine WL_round ?_
    refine W_seq (Wsr ((Wp 4 [0, 1] [0, 1, 5, 6, 7, 14] T3 ⟨[(0, sF 0 x1), (1, I i2), (5, S s66), (6, sF 1 x48), (7, I i67), (14, B (decide (i67 < (lI x48))))], [nR x1, iO x48]⟩ t3 (Wnt ((iteO_e h (fun hb83 h => W_true rfl hb83 ?_) (fun hb83 h => W_false rfl hb83 ?_)))))))
    ·refine Ww [0, 1] [0, 1, 5, 6, 7] ⟨[(0, sF 0 x1), (1, I i2), (5, S s66), (6, sF 1 x48), (7, I i67)], [nR x1, iO x48]⟩ (W_skip (thenS_n (W_seq (W_block (W_region (guardO_e h (fun hg88 h => (guardO_e h (fun hg89 h => (guardO_e h (fun hg90 h => (guardO_e h (fun hg91 h => (Wp 12 [0, 1] [0, 1, 5, 6, 7] ((s66.length + [47].length ≤ 1099511627776) ∧ ((0 ≤ i67 ∧ i67 < (lI x48)) ∧ (True ∧ ((0 ≤ (x48.getD i67.toNat 0) ∧ (x48.getD i67.toNat 0) < (lI x1)) ∧ (True ∧ (((s66 ++ [47]).length + ((x1.getD ((x48.getD i67.toNat 0).toNat) dnod).name).length ≤ 1099511627776) ∧ True)))))) ⟨[(0, sF 0 x1), (1, I i2), (5, S ((s66 ++ [47]) ++ ((x1.getD ((x48.getD i67.toNat 0).toNat) dnod).name))), (6, sF 1 x48), (7, I i67)], [nR x1, iO x48]⟩ ⟨hg88, hg89, trivial, hg90, trivial, hg91, trivial⟩ (WO_nil rfl (blockS_n (thenS_n (W_region (Wp 3 [0, 1] [0, 1, 5, 6, 7] T2 ⟨[(0, sF 0 x1), (1, I i2), (5, S ((s66 ++ [47]) ++ ((x1.getD ((x48.getD i67.toNat 0).toNat) dnod).name))), (6, sF 1 x48), (7, I (w64 (i67 + 1)))], [nR x1, iO x48]⟩ t2 (Wnt (?_)))))))))))))))))))))
     exact ih _ _ h
    ·refine Ww [0] [1, 5] ⟨[(1, I i2), (5, S s66)], [nR x1]⟩ (W_exit (thenS_e (thenS_e ?_)))
     cases h
     exact aI rfl rfl

def spec_pathText (n : Nat) (x1 : List Nod) (i2 : Int) : Option (Str) :=
 bindO (spec_pathTo n x1 i2) fun x48 =>
 bindO (spec_pathText_L1 x1 i2 x48 n [] 1) fun s80 =>
 iteO (decide (i2 = 0))
 (some [47])
 (some s80)

theorem spec_pathText_ok (n : Nat) (x1 : List Nod) (i2 : Int) (s47 : Str) (h : spec_pathText n x1 i2 = some s47) : FOk EE 72 [sF 0 x1, I i2] [nR x1] (S s47) [nR x1] := by
  unfold spec_pathText at h
  refine FOk_of_W 31 1 Tryz.func72 rfl rfl (Nat.le_of_ble_eq_true rfl) rfl (fun w X θ => ?_)
  refine Wsr ((Ws 1 [0] [0, 1] ⟨[(0, sF 0 x1), (1, I i2)], [nR x1]⟩ (Wnt ((W_seq (W_region ?_))))))
  refine Ws 1 [0] [0, 1, 5] ⟨[(0, sF 0 x1), (1, I i2), (5, S [])], [nR x1]⟩ (Wnt ((Wsr ((Ws 2 [0] [0, 1, 5, 8, 9] ⟨[(0, sF 0 x1), (1, I i2), (5, S []), (8, sF 0 x1), (9, I i2)], [nR x1]⟩ (bindO_e h (fun x48 hc49 h => ?_)))))))
  refine Wc [.ro 0] rfl rfl rfl Tryz.func107 rfl (spec_pathTo_ok n x1 i2 x48 hc49) (aI (aI rfl rfl) (trivial)) rfl (Ws 1 [0, 1] [0, 1, 5, 6] ⟨[(0, sF 0 x1), (1, I i2), (5, S []), (6, sF 1 x48)], [nR x1, iO x48]⟩ (Wnt ((W_seq (W_seq (W_region ?_))))))
  refine Ws 1 [0, 1] [0, 1, 5, 6, 7] ⟨[(0, sF 0 x1), (1, I i2), (5, S []), (6, sF 1 x48), (7, I 1)], [nR x1, iO x48]⟩ (Wnt ((W_block (W_loop (bindO_e h (fun s80 hs80 h => (WL_cut (spec_pathText_L1_ok w X θ x1 i2 x48 s80 n [] 1 hs80) ?_)))))))
  rintro _ _ ⟨rfl, rfl⟩
  refine blockS_y (thenS_n (W_seq (Wsr ((Wp 2 [0] [5, 29] T2 ⟨[(5, S s80), (29, B (decide (i2 = 0)))], [nR x1]⟩ t2 (WO_nil rfl ?_))))))
  refine thenS_n (iteO_e h (fun hb94 h => W_true rfl hb94 ?_) (fun hb94 h => W_false rfl hb94 ?_))
  ·refine Wsr ((Ws 1 [0] [4] ⟨[(4, S [47])], [nR x1]⟩ (Wnt ((W_ret (thenS_r ?_))))))
   cases h
   exact ⟨[0], True, by kernel_rfl, trivial⟩
  ·refine Ww [0] [5] ⟨[(5, S s80)], [nR x1]⟩ (W_skip (thenS_n (Wsr ((Ws 2 [0] [4] ⟨[(4, S s80)], [nR x1]⟩ (Wnt ((W_ret ?_))))))))
   cases h
   exact ⟨[0], True, by kernel_rfl, trivial⟩

/- spec.resolve -/
def spec_resolve_L1 (x1 : List Nod) (s2 : Str) : Nat → Int → Option ((Int) ⊕ (Unit))
| 0, _ => none
| n + 1, i56 =>
 iteO (decide (i56 < ((x1.length : Nat) : Int)))
 (bindO (spec_pathText n x1 i56) fun s76 =>
 iteO (decide (s76 = s2))
 (some (.inl i56))
 (spec_resolve_L1 x1 s2 n (w64 (i56 + 1))))
 (some (.inr ()))

theorem spec_resolve_L1_ok (w : World) (X : Nat → Prop) (θ : List Loc) (x1 : List Nod) (s2 : Str) (v : (Int) ⊕ (Unit)) : ∀ (n : Nat) (i56 : Int), spec_resolve_L1 x1 s2 n i56 = some v → WL EE ⟨w, X, θ, 18, 1⟩ (subC [1, 0, 1, 4, 4] (bodyC Tryz.f44)) (fun (e : Exit) (s : St) => (match v with | (.inl i68) => e = .ret ∧ s = ⟨[(4, I i68)], [nR x1]⟩ | (.inr _) => e = .exit 0 ∧ s = ⟨[], [nR x1]⟩ : Prop)) ⟨[(0, sF 0 x1), (1, S s2), (5, I i56)], [nR x1]⟩ := by
  intro n
  induction n with
  | zero => intro _ h; exact none_e h
  | succ n ih =>
    intro i56 h
    rw [spec_resolve_L1] at h
    refine WL_round ?_
    refine W_seq (Wsr ((Wp 4 [0] [0, 1, 5, 9] T3 ⟨[(0, sF 0 x1), (1, S s2), (5, I i56), (9, B (decide (i56 < (lI x1))))], [nR x1]⟩ t3 (Wnt ((iteO_e h (fun hb71 h => W_true rfl hb71 ?_) (fun hb71 h => W_false rfl hb71 ?_)))))))
    ·refine Ww [0] [0, 1, 5] ⟨[(0, sF 0 x1), (1, S s2), (5, I i56)], [nR x1]⟩ (W_skip (thenS_n (W_seq (W_block (Wsr ((Ws 2 [0] [0, 1, 5, 12, 13] ⟨[(0, sF 0 x1), (1, S s2), (5, I i56), (12, sF 0 x1), (13, I i56)], [nR x1]⟩ (bindO_e h (fun s76 hc77 h => (Wc [.ro 0] rfl rfl rfl Tryz.func72 rfl (spec_pathText_ok n x1 i56 s76 hc77) (aI (aI rfl rfl) (trivial)) rfl (Wp 2 [0] [0, 1, 5, 16] T2 ⟨[(0, sF 0 x1), (1, S s2), (5, I i56), (16, B (decide (s76 = s2)))], [nR x1]⟩ t2 (Wnt ((iteO_e h (fun hb79 h => W_true rfl hb79 ?_) (fun hb79 h => W_false rfl hb79 ?_)))))))))))))))
     ·refine Wsr ((Ws 2 [0] [4] ⟨[(4, I i56)], [nR x1]⟩ (Wnt ((W_ret (blockS_r (thenS_r (thenS_r ?_))))))))
      cases h
      exact aI rfl rfl
     ·refine Ww [0] [0, 1, 5] ⟨[(0, sF 0 x1), (1, S s2), (5, I i56)], [nR x1]⟩ (W_skip (blockS_n (thenS_n (W_region (Wp 3 [0] [0, 1, 5] T2 ⟨[(0, sF 0 x1), (1, S s2), (5, I (w64 (i56 + 1)))], [nR x1]⟩ t2 (Wnt (?_)))))))
      exact ih _ h
    ·refine Ww [0] [] ⟨[], [nR x1]⟩ (W_exit (thenS_e (thenS_e ?_)))
     cases h
     exact aI rfl rfl

def spec_resolve (n : Nat) (x1 : List Nod) (s2 : Str) : Option (Int) :=
 bindO (spec_resolve_L1 x1 s2 n 0) fun v80 =>
 match v80 with
 | (.inl i68) => (some i68)
 | (.inr _) => (some (-1))


theorem spec_resolve_ok (n : Nat) (x1 : List Nod) (s2 : Str) (i41 : Int) (h : spec_resolve n x1 s2 = some i41) : FOk EE 44 [sF 0 x1, S s2] [nR x1] (I i41) [nR x1] := by
  unfold spec_resolve at h
  refine FOk_of_W 18 1 Tryz.func44 rfl rfl (Nat.le_of_ble_eq_true rfl) rfl (fun w X θ => ?_)
  refine Wsr ((Ws 1 [0] [0, 1] ⟨[(0, sF 0 x1), (1, S s2)], [nR x1]⟩ (Wnt ((W_seq (W_seq ?_))))))
  refine W_region (Ws 1 [0] [0, 1, 5] ⟨[(0, sF 0 x1), (1, S s2), (5, I 0)], [nR x1]⟩ (Wnt ((W_block (W_loop (bindO_e h (fun v80 hv80 h => ?_)))))))
  refine WL_cut (spec_resolve_L1_ok w X θ x1 s2 v80 n 0 hv80) ?_
  rcases v80 with i68 | _
  ·rintro _ _ ⟨rfl, rfl⟩
   refine blockS_r (thenS_r ?_)
   cases h
   exact ⟨[0], True, by kernel_rfl, trivial⟩
  ·rintro _ _ ⟨rfl, rfl⟩
   refine blockS_y (thenS_n (Wsr ((Ws 1 [0] [4] ⟨[(4, I (-1))], [nR x1]⟩ (Wnt ((W_ret ?_)))))))
   cases h
   exact ⟨[0], True, by kernel_rfl, trivial⟩

/- spec.cut -/
def spec_cut_L1 (s1 : Str) : Nat → Int → Option ((Str × Str) ⊕ (Unit))
| 0, _ => none
| n + 1, i86 =>
 iteO (decide (0 < i86))
 (guardO (0 ≤ i86 ∧ i86 < ((s1.length : Nat) : Int)) <|
 iteO (decide (((s1.getD i86.toNat 0).toNat : Int) = 47))
 (guardO (0 ≤ i86 ∧ i86 ≤ ((s1.length : Nat) : Int)) <|
 guardO (0 ≤ (w64 (i86 + 1)) ∧ (w64 (i86 + 1)) ≤ ((s1.length : Nat) : Int)) <|
 some (.inl ((s1.take i86.toNat), (s1.drop ((w64 (i86 + 1)).toNat)))))
 (spec_cut_L1 s1 n (w64 (i86 - 1))))
 (some (.inr ()))

theorem spec_cut_L1_ok (w : World) (X : Nat → Prop) (θ : List Loc) (s1 : Str) (v : (Str × Str) ⊕ (Unit)) : ∀ (n : Nat) (i86 : Int), spec_cut_L1 s1 n i86 = some v → WL EE ⟨w, X, θ, 28, 0⟩ (subC [1, 0, 1, 4, 4] (bodyC Tryz.f43)) (fun (e : Exit) (s : St) => (match v with | (.inl (s104, s105)) => e = .ret ∧ s = ⟨[(2, S s104), (3, S s105)], []⟩ | (.inr _) => e = .exit 0 ∧ s = ⟨[(0, S s1)], []⟩ : Prop)) ⟨[(0, S s1), (4, I i86)], []⟩ := by
  intro n
  induction n with
  | zero => intro _ h; exact none_e h
  | succ n ih =>
    intro i86 h
    rw [spec_cut_L1] at h
    refine WL_round ?_
    refine W_seq (Wsr ((Wp 2 [] [0, 4, 9] T2 ⟨[(0, S s1), (4, I i86), (9, B (decide (0 < i86)))], []⟩ t2 (Wnt ((iteO_e h (fun hb108 h => W_true rfl hb108 ?_) (fun hb108 h => W_false rfl hb108 ?_)))))))
    ·refine Ww [] [0, 4] ⟨[(0, S s1), (4, I i86)], []⟩ (W_skip (thenS_n (W_seq (W_block (Wsr ((guardO_e h (fun hg116 h => (Wp 4 [] [0, 4, 15] ((0 ≤ i86 ∧ i86 < (lI s1)) ∧ T2) ⟨[(0, S s1), (4, I i86), (15, B (decide (((s1.getD i86.toNat 0).toNat : Int) = 47)))], []⟩ ⟨hg116, trivial, trivial⟩ (Wnt ((iteO_e h (fun hb120 h => W_true rfl hb120 ?_) (fun hb120 h => W_false rfl hb120 ?_)))))))))))))
     ·refine W_seq (guardO_e h (fun hg121 h => (guardO_e h (fun hg122 h => (W_cut (Q' := fun (e : Exit) (s : St) => e = .normal ∧ s = ⟨[(2, S (s1.take i86.toNat)), (3, S (s1.drop ((w64 (i86 + 1)).toNat)))], []⟩) ?_ ?_)))))
      ·refine W_draw [] true (by kernel_rfl) (by kernel_rfl) (WD_takeQ [0, 1, 2, 3, 4, 5, 6, 7, 8] [2, 3] [2, 3] (φ := ((0 ≤ i86 ∧ i86 ≤ (lI s1)) ∧ (0 ≤ i86 ∧ i86 ≤ (lI s1)) ∧ (True ∧ True ∧ ((0 ≤ (w64 (i86 + 1)) ∧ (w64 (i86 + 1)) ≤ (lI s1)) ∧ (0 ≤ (w64 (i86 + 1)) ∧ (w64 (i86 + 1)) ≤ (lI s1)) ∧ True)))) (ls' := (tf true [9])) (st' := ⟨[(2, S (s1.take i86.toNat)), (3, S (s1.drop ((w64 (i86 + 1)).toNat)))], []⟩) (n2 := 0) (by kernel_rfl) ⟨hg121, hg121, trivial, trivial, hg122, hg122, trivial⟩ rfl ?_)
       exact WD_done [] [2, 3] (st' := ⟨[(2, S (s1.take i86.toNat)), (3, S (s1.drop ((w64 (i86 + 1)).toNat)))], []⟩) (by kernel_rfl) (by kernel_rfl) (aI rfl rfl)
      ·rintro _ _ ⟨rfl, rfl⟩
       refine thenS_n (W_ret (blockS_r (thenS_r (thenS_r ?_))))
       cases h
       exact aI rfl rfl
     ·refine Ww [] [0, 4] ⟨[(0, S s1), (4, I i86)], []⟩ (W_skip (blockS_n (thenS_n (W_region (Wp 3 [] [0, 4] T2 ⟨[(0, S s1), (4, I (w64 (i86 - 1)))], []⟩ t2 (Wnt (?_)))))))
      exact ih _ h
    ·refine Ww [] [0] ⟨[(0, S s1)], []⟩ (W_exit (thenS_e (thenS_e ?_)))
     cases h
     exact aI rfl rfl

def spec_cut (n : Nat) (s1 : Str) : Option (Str × Str) :=
 bindO (spec_cut_L1 s1 n (w64 (((s1.length : Nat) : Int) - 1))) fun v123 =>
 match v123 with
 | (.inl (s104, s105)) => (some (s104, s105))
 | (.inr _) => (iteO (decide (((s1.length : Nat) : Int) = 0))
 (some ([], []))
 (guardO (0 ≤ (1 : Int) ∧ (1 : Int) ≤ ((s1.length : Nat) : Int)) <|
 some ([47], (s1.drop 1))))


theorem spec_cut_ok (n : Nat) (s1 : Str) (s63 : Str) (s64 : Str) (h : spec_cut n s1 = some (s63, s64)) : FOk EE 43 [S s1] [] (.tup [.e (cS s63), .e (cS s64)]) [] := by
  unfold spec_cut at h
  refine FOk_of_W 28 0 Tryz.func43 rfl rfl (Nat.le_of_ble_eq_true rfl) rfl (fun w X θ => ?_)
  refine Wsr ((Ws 2 [] [0] ⟨[(0, S s1)], []⟩ (Wnt ((W_seq (W_seq ?_))))))
  refine W_region (Wp 4 [] [0, 4] T3 ⟨[(0, S s1), (4, I (w64 ((lI s1) - 1)))], []⟩ t3 (Wnt ((W_block (W_loop (bindO_e h (fun v123 hv123 h => ?_)))))))
  refine WL_cut (spec_cut_L1_ok w X θ s1 v123 n (w64 ((lI s1) - 1)) hv123) ?_
  rcases v123 with ⟨s104, s105⟩ | _
  ·rintro _ _ ⟨rfl, rfl⟩
   refine blockS_r (thenS_r ?_)
   cases h
   exact ⟨[], True, by kernel_rfl, trivial⟩
  ·rintro _ _ ⟨rfl, rfl⟩
   refine blockS_y (thenS_n (W_seq (Wsr ((Wp 3 [] [0, 25] T3 ⟨[(0, S s1), (25, B (decide ((lI s1) = 0)))], []⟩ t3 (Wnt ((iteO_e h (fun hb125 h => W_true rfl hb125 ?_) (fun hb125 h => W_false rfl hb125 ?_)))))))))
   ·refine Wsr ((Ws 2 [] [2, 3] ⟨[(2, S []), (3, S [])], []⟩ (Wnt ((W_ret (thenS_r ?_))))))
    cases h
    exact ⟨[], True, by kernel_rfl, trivial⟩
   ·refine Ww [] [0] ⟨[(0, S s1)], []⟩ (W_skip (thenS_n (W_seq (guardO_e h (fun hg126 h => (W_cut (Q' := fun (e : Exit) (s : St) => e = .normal ∧ s = ⟨[(2, S [47]), (3, S (s1.drop 1))], []⟩) ?_ ?_))))))
    ·refine W_draw [] true (by kernel_rfl) (by kernel_rfl) (WD_takeQ [0, 1, 2, 3] [2, 3] [2, 3] (φ := ((0 ≤ (1 : Int) ∧ (1 : Int) ≤ (lI s1)) ∧ (0 ≤ (1 : Int) ∧ (1 : Int) ≤ (lI s1)) ∧ True)) (ls' := #[true, true, true, true]) (st' := ⟨[(2, S [47]), (3, S (s1.drop 1))], []⟩) (n2 := 0) (by kernel_rfl) ⟨hg126, hg126, trivial⟩ rfl ?_)
     exact WD_done [] [2, 3] (st' := ⟨[(2, S [47]), (3, S (s1.drop 1))], []⟩) (by kernel_rfl) (by kernel_rfl) (aI rfl rfl)
    ·rintro _ _ ⟨rfl, rfl⟩
     refine thenS_n (W_ret ?_)
     cases h
     exact ⟨[], True, by kernel_rfl, trivial⟩

/- spec.held -/
def spec_held_L1 (x1 : List Lck) (i2 : Int) (i3 : Int) : Nat → Int → Option ((Int) ⊕ (Unit))
| 0, _ => none
| n + 1, i113 =>
 iteO (decide (i113 < ((x1.length : Nat) : Int)))
 (guardO (0 ≤ i113 ∧ i113 < ((x1.length : Nat) : Int)) <|
 bindO (iteO (decide (((x1.getD i113.toNat dlck).who) = i2))
 (guardO (0 ≤ i113 ∧ i113 < ((x1.length : Nat) : Int)) <|
 some (decide (((x1.getD i113.toNat dlck).node) = i3)))
 (some false)) fun b157 =>
 iteO b157
 (guardO (0 ≤ i113 ∧ i113 < ((x1.length : Nat) : Int)) <|
 some (.inl ((x1.getD i113.toNat dlck).mode)))
 (spec_held_L1 x1 i2 i3 n (w64 (i113 + 1))))
 (some (.inr ()))

theorem spec_held_L1_ok (w : World) (X : Nat → Prop) (θ : List Loc) (x1 : List Lck) (i2 : Int) (i3 : Int) (v : (Int) ⊕ (Unit)) : ∀ (n : Nat) (i113 : Int), spec_held_L1 x1 i2 i3 n i113 = some v → WL EE ⟨w, X, θ, 35, 1⟩ (subC [1, 0, 1, 4, 4] (bodyC Tryz.f125)) (fun (e : Exit) (s : St) => (match v with | (.inl i139) => e = .ret ∧ s = ⟨[(6, I i139)], [lR x1]⟩ | (.inr _) => e = .exit 0 ∧ s = ⟨[], [lR x1]⟩ : Prop)) ⟨[(0, sF 0 x1), (1, I i2), (2, I i3), (7, I i113)], [lR x1]⟩ := by
  intro n
  induction n with
  | zero => intro _ h; exact none_e h
  | succ n ih =>
    intro i113 h
    rw [spec_held_L1] at h
    refine WL_round ?_
    refine W_seq (Wsr ((Wp 4 [0] [0, 1, 2, 7, 11] T3 ⟨[(0, sF 0 x1), (1, I i2), (2, I i3), (7, I i113), (11, B (decide (i113 < (lI x1))))], [lR x1]⟩ t3 (Wnt ((iteO_e h (fun hb142 h => W_true rfl hb142 ?_) (fun hb142 h => W_false rfl hb142 ?_)))))))
    ·refine Ww [0] [0, 1, 2, 7] ⟨[(0, sF 0 x1), (1, I i2), (2, I i3), (7, I i113)], [lR x1]⟩ (W_skip (thenS_n (W_seq (W_block (Wsr ((guardO_e h (fun hg154 h => (Wp 8 [0] [0, 1, 2, 7, 21] ((0 ≤ i113 ∧ i113 < (lI x1)) ∧ T3) ⟨[(0, sF 0 x1), (1, I i2), (2, I i3), (7, I i113), (21, B (decide (((x1.getD i113.toNat dlck).who) = i2)))], [lR x1]⟩ ⟨hg154, trivial, trivial, trivial⟩ (bindO_e h (fun b157 hv158 h => (WO_thru ⟨[(0, sF 0 x1), (1, I i2), (2, I i3), (7, I i113), (29, B b157)], [lR x1]⟩ ?_ ?_))))))))))))
     ·refine iteO_e hv158 (fun hb159 hv158 => WO_known 21 true rfl hb159 ?_) (fun hb159 hv158 => WO_known 21 false rfl hb159 ?_)
      ·refine guardO_e hv158 (fun hg160 hv158 => (Wp 8 [0] [0, 1, 2, 7, 29] ((0 ≤ i113 ∧ i113 < (lI x1)) ∧ T3) ⟨[(0, sF 0 x1), (1, I i2), (2, I i3), (7, I i113), (29, B (decide (((x1.getD i113.toNat dlck).node) = i3)))], [lR x1]⟩ ⟨hg160, trivial, trivial, trivial⟩ ?_))
       cases hv158
       exact WO_nil rfl ⟨rfl, rfl⟩
      ·refine Ws 8 [0] [0, 1, 2, 7, 29] ⟨[(0, sF 0 x1), (1, I i2), (2, I i3), (7, I i113), (29, B false)], [lR x1]⟩ ?_
       cases hv158
       exact WO_nil rfl ⟨rfl, rfl⟩
     ·refine thenS_n (iteO_e h (fun hb163 h => W_true rfl hb163 ?_) (fun hb163 h => W_false rfl hb163 ?_))
      ·refine Wsr ((guardO_e h (fun hg164 h => (Wp 6 [0] [6] ((0 ≤ i113 ∧ i113 < (lI x1)) ∧ T2) ⟨[(6, I ((x1.getD i113.toNat dlck).mode))], [lR x1]⟩ ⟨hg164, trivial, trivial⟩ (Wnt ((W_ret (blockS_r (thenS_r (thenS_r ?_))))))))))
       cases h
       exact aI rfl rfl
      ·refine Ww [0] [0, 1, 2, 7] ⟨[(0, sF 0 x1), (1, I i2), (2, I i3), (7, I i113)], [lR x1]⟩ (W_skip (blockS_n (thenS_n (W_region (Wp 3 [0] [0, 1, 2, 7] T2 ⟨[(0, sF 0 x1), (1, I i2), (2, I i3), (7, I (w64 (i113 + 1)))], [lR x1]⟩ t2 (Wnt (?_)))))))
       exact ih _ h
    ·refine Ww [0] [] ⟨[], [lR x1]⟩ (W_exit (thenS_e (thenS_e ?_)))
     cases h
     exact aI rfl rfl

def spec_held (n : Nat) (x1 : List Lck) (i2 : Int) (i3 : Int) : Option (Int) :=
 bindO (spec_held_L1 x1 i2 i3 n 0) fun v165 =>
 match v165 with
 | (.inl i139) => (some i139)
 | (.inr _) => (some 0)


theorem spec_held_ok (n : Nat) (x1 : List Lck) (i2 : Int) (i3 : Int) (i84 : Int) (h : spec_held n x1 i2 i3 = some i84) : FOk EE 125 [sF 0 x1, I i2, I i3] [lR x1] (I i84) [lR x1] := by
  unfold spec_held at h
  refine FOk_of_W 35 1 Tryz.func125 rfl rfl (Nat.le_of_ble_eq_true rfl) rfl (fun w X θ => ?_)
  refine Wsr ((Ws 1 [0] [0, 1, 2] ⟨[(0, sF 0 x1), (1, I i2), (2, I i3)], [lR x1]⟩ (Wnt ((W_seq (W_seq ?_))))))
  refine W_region (Ws 1 [0] [0, 1, 2, 7] ⟨[(0, sF 0 x1), (1, I i2), (2, I i3), (7, I 0)], [lR x1]⟩ (Wnt ((W_block (W_loop (bindO_e h (fun v165 hv165 h => ?_)))))))
  refine WL_cut (spec_held_L1_ok w X θ x1 i2 i3 v165 n 0 hv165) ?_
  rcases v165 with i139 | _
  ·rintro _ _ ⟨rfl, rfl⟩
   refine blockS_r (thenS_r ?_)
   cases h
   exact ⟨[0], True, by kernel_rfl, trivial⟩
  ·rintro _ _ ⟨rfl, rfl⟩
   refine blockS_y (thenS_n (Wsr ((Ws 1 [0] [6] ⟨[(6, I 0)], [lR x1]⟩ (Wnt ((W_ret ?_)))))))
   cases h
   exact ⟨[0], True, by kernel_rfl, trivial⟩

/- spec.mayWrite -/
def spec_mayWrite_L1 (x2 : List Lck) (i3 : Int) (x50 : List Int) (x1 : List Nod) : Nat → Int → Option ((Unit) ⊕ (Unit))
| 0, _ => none
| n + 1, i67 =>
 iteO (decide (i67 < ((x50.length : Nat) : Int)))
 (guardO (0 ≤ i67 ∧ i67 < ((x50.length : Nat) : Int)) <|
 bindO (spec_held n x2 i3 (x50.getD i67.toNat 0)) fun i90 =>
 iteO (decide (i90 = 5))
 (some (.inl ()))
 (spec_mayWrite_L1 x2 i3 x50 x1 n (w64 (i67 + 1))))
 (some (.inr ()))

theorem spec_mayWrite_L1_ok (w : World) (X : Nat → Prop) (θ : List Loc) (x2 : List Lck) (i3 : Int) (x50 : List Int) (x1 : List Nod) (v : (Unit) ⊕ (Unit)) : ∀ (n : Nat) (i67 : Int), spec_mayWrite_L1 x2 i3 x50 x1 n i67 = some v → WL EE ⟨w, X, θ, 28, 2⟩ (subC [1, 1, 0, 1, 4, 4] (bodyC Tryz.f90)) (fun (e : Exit) (s : St) => (match v with | (.inl _) => e = .ret ∧ s = ⟨[(8, B true)], [nR x1, lR x2]⟩ | (.inr _) => e = .exit 0 ∧ s = ⟨[], [nR x1, lR x2]⟩ : Prop)) ⟨[(1, sF 1 x2), (2, I i3), (9, sF 2 x50), (10, I i67)], [nR x1, lR x2, iO x50]⟩ := by
  intro n
  induction n with
  | zero => intro _ h; exact none_e h
  | succ n ih =>
    intro i67 h
    rw [spec_mayWrite_L1] at h
    refine WL_round ?_
    refine W_seq (Wsr ((Wp 4 [0, 1, 2] [1, 2, 9, 10, 17] T3 ⟨[(1, sF 1 x2), (2, I i3), (9, sF 2 x50), (10, I i67), (17, B (decide (i67 < (lI x50))))], [nR x1, lR x2, iO x50]⟩ t3 (Wnt ((iteO_e h (fun hb83 h => W_true rfl hb83 ?_) (fun hb83 h => W_false rfl hb83 ?_)))))))
    ·refine Ww [0, 1, 2] [1, 2, 9, 10] ⟨[(1, sF 1 x2), (2, I i3), (9, sF 2 x50), (10, I i67)], [nR x1, lR x2, iO x50]⟩ (W_skip (thenS_n (W_seq (W_block (Wsr ((guardO_e h (fun hg89 h => (Wp 6 [0, 1, 2] [1, 2, 9, 10, 20, 21, 25] ((0 ≤ i67 ∧ i67 < (lI x50)) ∧ T2) ⟨[(1, sF 1 x2), (2, I i3), (9, sF 2 x50), (10, I i67), (20, sF 1 x2), (21, I i3), (25, I (x50.getD i67.toNat 0))], [nR x1, lR x2, iO x50]⟩ ⟨hg89, trivial, trivial⟩ (bindO_e h (fun i90 hc91 h => (Wc [.ro 1] rfl rfl rfl Tryz.func125 rfl (spec_held_ok n x2 i3 (x50.getD i67.toNat 0) i90 hc91) (aI (aI rfl rfl) (trivial)) rfl (Wp 1 [0, 1, 2] [1, 2, 9, 10, 27] T2 ⟨[(1, sF 1 x2), (2, I i3), (9, sF 2 x50), (10, I i67), (27, B (decide (i90 = 5)))], [nR x1, lR x2, iO x50]⟩ t2 (Wnt ((iteO_e h (fun hb93 h => W_true rfl hb93 ?_) (fun hb93 h => W_false rfl hb93 ?_)))))))))))))))))
     ·refine Wsr ((Ws 1 [0, 1] [8] ⟨[(8, B true)], [nR x1, lR x2]⟩ (Wnt ((W_ret (blockS_r (thenS_r (thenS_r ?_))))))))
      cases h
      exact aI rfl rfl
     ·refine Ww [0, 1, 2] [1, 2, 9, 10] ⟨[(1, sF 1 x2), (2, I i3), (9, sF 2 x50), (10, I i67)], [nR x1, lR x2, iO x50]⟩ (W_skip (blockS_n (thenS_n (W_region (Wp 3 [0, 1, 2] [1, 2, 9, 10] T2 ⟨[(1, sF 1 x2), (2, I i3), (9, sF 2 x50), (10, I (w64 (i67 + 1)))], [nR x1, lR x2, iO x50]⟩ t2 (Wnt (?_)))))))
      exact ih _ h
    ·refine Ww [0, 1] [] ⟨[], [nR x1, lR x2]⟩ (W_exit (thenS_e (thenS_e ?_)))
     cases h
     exact aI rfl rfl

def spec_mayWrite (n : Nat) (x1 : List Nod) (x2 : List Lck) (i3 : Int) (i4 : Int) : Option (Bool) :=
 bindO (spec_pathTo n x1 i4) fun x50 =>
 bindO (spec_mayWrite_L1 x2 i3 x50 x1 n 0) fun v94 =>
 match v94 with
 | (.inl _) => (some true)
 | (.inr _) => (some false)


theorem spec_mayWrite_ok (n : Nat) (x1 : List Nod) (x2 : List Lck) (i3 : Int) (i4 : Int) (b49 : Bool) (h : spec_mayWrite n x1 x2 i3 i4 = some b49) : FOk EE 90 [sF 0 x1, sF 1 x2, I i3, I i4] [nR x1, lR x2] (B b49) [nR x1, lR x2] := by
  unfold spec_mayWrite at h
  refine FOk_of_W 28 2 Tryz.func90 rfl rfl (Nat.le_of_ble_eq_true rfl) rfl (fun w X θ => ?_)
  refine Wsr ((Ws 1 [0, 1] [0, 1, 2, 3] ⟨[(0, sF 0 x1), (1, sF 1 x2), (2, I i3), (3, I i4)], [nR x1, lR x2]⟩ (Wnt ((W_seq (W_region ?_))))))
  refine Ws 2 [0, 1] [1, 2, 11, 12] ⟨[(1, sF 1 x2), (2, I i3), (11, sF 0 x1), (12, I i4)], [nR x1, lR x2]⟩ (bindO_e h (fun x50 hc51 h => (Wc [.ro 0] rfl rfl rfl Tryz.func107 rfl (spec_pathTo_ok n x1 i4 x50 hc51) (aI (aI rfl rfl) (trivial)) rfl (Ws 1 [0, 1, 2] [1, 2, 9] ⟨[(1, sF 1 x2), (2, I i3), (9, sF 2 x50)], [nR x1, lR x2, iO x50]⟩ (Wnt ((W_seq ?_)))))))
  refine Wsr ((Ws 1 [0, 1, 2] [1, 2, 9, 10] ⟨[(1, sF 1 x2), (2, I i3), (9, sF 2 x50), (10, I 0)], [nR x1, lR x2, iO x50]⟩ (Wnt ((W_block (W_loop ?_))))))
  refine bindO_e h (fun v94 hv94 h => (WL_cut (spec_mayWrite_L1_ok w X θ x2 i3 x50 x1 v94 n 0 hv94) ?_))
  rcases v94 with _ | _
  ·rintro _ _ ⟨rfl, rfl⟩
   refine blockS_r (thenS_r ?_)
   cases h
   exact ⟨[0, 1], True, by kernel_rfl, trivial⟩
  ·rintro _ _ ⟨rfl, rfl⟩
   refine blockS_y (thenS_n (Wsr ((Ws 1 [0, 1] [8] ⟨[(8, B false)], [nR x1, lR x2]⟩ (Wnt ((W_ret ?_)))))))
   cases h
   exact ⟨[0, 1], True, by kernel_rfl, trivial⟩

/- spec.validName -/
def spec_validName_L1 (s1 : Str) : Nat → Int → Option ((Unit) ⊕ (Unit))
| 0, _ => none
| n + 1, i44 =>
 iteO (decide (i44 < ((s1.length : Nat) : Int)))
 (guardO (0 ≤ i44 ∧ i44 < ((s1.length : Nat) : Int)) <|
 iteO (!(spec_inRange (w64 ((s1.getD i44.toNat 0).toNat : Int)) 97 122))
 (some (.inl ()))
 (spec_validName_L1 s1 n (w64 (i44 + 1))))
 (some (.inr ()))

theorem spec_validName_L1_ok (w : World) (X : Nat → Prop) (θ : List Loc) (s1 : Str) (v : (Unit) ⊕ (Unit)) : ∀ (n : Nat) (i44 : Int), spec_validName_L1 s1 n i44 = some v → WL EE ⟨w, X, θ, 19, 0⟩ (subC [1, 0, 1, 4, 4] (bodyC Tryz.f108)) (fun (e : Exit) (s : St) => (match v with | (.inl _) => e = .ret ∧ s = ⟨[(2, B false)], []⟩ | (.inr _) => e = .exit 0 ∧ s = ⟨[(0, S s1)], []⟩ : Prop)) ⟨[(0, S s1), (3, I i44)], []⟩ := by
  intro n
  induction n with
  | zero => intro _ h; exact none_e h
  | succ n ih =>
    intro i44 h
    rw [spec_validName_L1] at h
    refine WL_round ?_
    refine W_seq (Wsr ((Wp 4 [] [0, 3, 7] T3 ⟨[(0, S s1), (3, I i44), (7, B (decide (i44 < (lI s1))))], []⟩ t3 (Wnt ((iteO_e h (fun hb56 h => W_true rfl hb56 ?_) (fun hb56 h => W_false rfl hb56 ?_)))))))
    ·refine Ww [] [0, 3] ⟨[(0, S s1), (3, I i44)], []⟩ (W_skip (thenS_n (W_seq (W_block (Wsr ((guardO_e h (fun hg60 h => (Wp 4 [] [0, 3, 13] ((0 ≤ i44 ∧ i44 < (lI s1)) ∧ T2) ⟨[(0, S s1), (3, I i44), (13, I (w64 ((s1.getD i44.toNat 0).toNat : Int)))], []⟩ ⟨hg60, trivial, trivial⟩ (Wc [] rfl rfl rfl Tryz.func71 rfl (spec_inRange_ok (w64 ((s1.getD i44.toNat 0).toNat : Int)) 97 122) (trivial) rfl (Ws 1 [] [0, 3, 15] ⟨[(0, S s1), (3, I i44), (15, B (!(spec_inRange (w64 ((s1.getD i44.toNat 0).toNat : Int)) 97 122)))], []⟩ (Wnt ((iteO_e h (fun hb62 h => W_true rfl hb62 ?_) (fun hb62 h => W_false rfl hb62 ?_)))))))))))))))
     ·refine Wsr ((Ws 1 [] [2] ⟨[(2, B false)], []⟩ (Wnt ((W_ret (blockS_r (thenS_r (thenS_r ?_))))))))
      cases h
      exact aI rfl rfl
     ·refine Ww [] [0, 3] ⟨[(0, S s1), (3, I i44)], []⟩ (W_skip (blockS_n (thenS_n (W_region (Wp 3 [] [0, 3] T2 ⟨[(0, S s1), (3, I (w64 (i44 + 1)))], []⟩ t2 (Wnt (?_)))))))
      exact ih _ h
    ·refine Ww [] [0] ⟨[(0, S s1)], []⟩ (W_exit (thenS_e (thenS_e ?_)))
     cases h
     exact aI rfl rfl

def spec_validName (n : Nat) (s1 : Str) : Option (Bool) :=
 bindO (spec_validName_L1 s1 n 0) fun v63 =>
 match v63 with
 | (.inl _) => (some false)
 | (.inr _) => (some (spec_inRange ((s1.length : Nat) : Int) 1 4))


theorem spec_validName_ok (n : Nat) (s1 : Str) (b32 : Bool) (h : spec_validName n s1 = some b32) : FOk EE 108 [S s1] [] (B b32) [] := by
  unfold spec_validName at h
  refine FOk_of_W 19 0 Tryz.func108 rfl rfl (Nat.le_of_ble_eq_true rfl) rfl (fun w X θ => ?_)
  refine Wsr ((Ws 1 [] [0] ⟨[(0, S s1)], []⟩ (Wnt ((W_seq (W_seq ?_))))))
  refine W_region (Ws 1 [] [0, 3] ⟨[(0, S s1), (3, I 0)], []⟩ (Wnt ((W_block (W_loop (bindO_e h (fun v63 hv63 h => ?_)))))))
  refine WL_cut (spec_validName_L1_ok w X θ s1 v63 n 0 hv63) ?_
  rcases v63 with _ | _
  ·rintro _ _ ⟨rfl, rfl⟩
   refine blockS_r (thenS_r ?_)
   cases h
   exact ⟨[], True, by kernel_rfl, trivial⟩
  ·rintro _ _ ⟨rfl, rfl⟩
   refine blockS_y (thenS_n (Wsr ((Wp 2 [] [17] T2 ⟨[(17, I (lI s1))], []⟩ t2 (Wc [] rfl rfl rfl Tryz.func71 rfl (spec_inRange_ok (lI s1) 1 4) (trivial) rfl (Ws 1 [] [2] ⟨[(2, B (spec_inRange (lI s1) 1 4))], []⟩ (Wnt ((W_ret ?_)))))))))
   cases h
   exact ⟨[], True, by kernel_rfl, trivial⟩

/- spec.kid -/
def spec_kid_L1 (x1 : List Nod) (i2 : Int) (s3 : Str) : Nat → Int → Option ((Int) ⊕ (Unit))
| 0, _ => none
| n + 1, i97 =>
 iteO (decide (i97 < ((x1.length : Nat) : Int)))
 (guardO (0 ≤ i97 ∧ i97 < ((x1.length : Nat) : Int)) <|
 bindO (iteO (decide (((x1.getD i97.toNat dnod).parent) = i2))
 (guardO (0 ≤ i97 ∧ i97 < ((x1.length : Nat) : Int)) <|
 some (decide (((x1.getD i97.toNat dnod).name) = s3)))
 (some false)) fun b135 =>
 iteO b135
 (some (.inl i97))
 (spec_kid_L1 x1 i2 s3 n (w64 (i97 + 1))))
 (some (.inr ()))

theorem spec_kid_L1_ok (w : World) (X : Nat → Prop) (θ : List Loc) (x1 : List Nod) (i2 : Int) (s3 : Str) (v : (Int) ⊕ (Unit)) : ∀ (n : Nat) (i97 : Int), spec_kid_L1 x1 i2 s3 n i97 = some v → WL EE ⟨w, X, θ, 31, 1⟩ (subC [1, 0, 1, 4, 4] (bodyC Tryz.f109)) (fun (e : Exit) (s : St) => (match v with | (.inl i119) => e = .ret ∧ s = ⟨[(6, I i119)], [nR x1]⟩ | (.inr _) => e = .exit 0 ∧ s = ⟨[], [nR x1]⟩ : Prop)) ⟨[(0, sF 0 x1), (1, I i2), (2, S s3), (7, I i97)], [nR x1]⟩ := by
  intro n
  induction n with
  | zero => intro _ h; exact none_e h
  | succ n ih =>
    intro i97 h
    rw [spec_kid_L1] at h
    refine WL_round ?_
    refine W_seq (Wsr ((Wp 4 [0] [0, 1, 2, 7, 11] T3 ⟨[(0, sF 0 x1), (1, I i2), (2, S s3), (7, I i97), (11, B (decide (i97 < (lI x1))))], [nR x1]⟩ t3 (Wnt ((iteO_e h (fun hb122 h => W_true rfl hb122 ?_) (fun hb122 h => W_false rfl hb122 ?_)))))))
    ·refine Ww [0] [0, 1, 2, 7] ⟨[(0, sF 0 x1), (1, I i2), (2, S s3), (7, I i97)], [nR x1]⟩ (W_skip (thenS_n (W_seq (W_block (Wsr ((guardO_e h (fun hg132 h => (Wp 8 [0] [0, 1, 2, 7, 21] ((0 ≤ i97 ∧ i97 < (lI x1)) ∧ T3) ⟨[(0, sF 0 x1), (1, I i2), (2, S s3), (7, I i97), (21, B (decide (((x1.getD i97.toNat dnod).parent) = i2)))], [nR x1]⟩ ⟨hg132, trivial, trivial, trivial⟩ (bindO_e h (fun b135 hv136 h => (WO_thru ⟨[(0, sF 0 x1), (1, I i2), (2, S s3), (7, I i97), (29, B b135)], [nR x1]⟩ ?_ ?_))))))))))))
     ·refine iteO_e hv136 (fun hb137 hv136 => WO_known 21 true rfl hb137 ?_) (fun hb137 hv136 => WO_known 21 false rfl hb137 ?_)
      ·refine guardO_e hv136 (fun hg138 hv136 => (Wp 8 [0] [0, 1, 2, 7, 29] ((0 ≤ i97 ∧ i97 < (lI x1)) ∧ T3) ⟨[(0, sF 0 x1), (1, I i2), (2, S s3), (7, I i97), (29, B (decide (((x1.getD i97.toNat dnod).name) = s3)))], [nR x1]⟩ ⟨hg138, trivial, trivial, trivial⟩ ?_))
       cases hv136
       exact WO_nil rfl ⟨rfl, rfl⟩
      ·refine Ws 8 [0] [0, 1, 2, 7, 29] ⟨[(0, sF 0 x1), (1, I i2), (2, S s3), (7, I i97), (29, B false)], [nR x1]⟩ ?_
       cases hv136
       exact WO_nil rfl ⟨rfl, rfl⟩
     ·refine thenS_n (iteO_e h (fun hb140 h => W_true rfl hb140 ?_) (fun hb140 h => W_false rfl hb140 ?_))
      ·refine Wsr ((Ws 2 [0] [6] ⟨[(6, I i97)], [nR x1]⟩ (Wnt ((W_ret (blockS_r (thenS_r (thenS_r ?_))))))))
       cases h
       exact aI rfl rfl
      ·refine Ww [0] [0, 1, 2, 7] ⟨[(0, sF 0 x1), (1, I i2), (2, S s3), (7, I i97)], [nR x1]⟩ (W_skip (blockS_n (thenS_n (W_region (Wp 3 [0] [0, 1, 2, 7] T2 ⟨[(0, sF 0 x1), (1, I i2), (2, S s3), (7, I (w64 (i97 + 1)))], [nR x1]⟩ t2 (Wnt (?_)))))))
       exact ih _ h
    ·refine Ww [0] [] ⟨[], [nR x1]⟩ (W_exit (thenS_e (thenS_e ?_)))
     cases h
     exact aI rfl rfl

def spec_kid (n : Nat) (x1 : List Nod) (i2 : Int) (s3 : Str) : Option (Int) :=
 bindO (spec_kid_L1 x1 i2 s3 n 1) fun v141 =>
 match v141 with
 | (.inl i119) => (some i119)
 | (.inr _) => (some (-1))


theorem spec_kid_ok (n : Nat) (x1 : List Nod) (i2 : Int) (s3 : Str) (i72 : Int) (h : spec_kid n x1 i2 s3 = some i72) : FOk EE 109 [sF 0 x1, I i2, S s3] [nR x1] (I i72) [nR x1] := by
  unfold spec_kid at h
  refine FOk_of_W 31 1 Tryz.func109 rfl rfl (Nat.le_of_ble_eq_true rfl) rfl (fun w X θ => ?_)
  refine Wsr ((Ws 1 [0] [0, 1, 2] ⟨[(0, sF 0 x1), (1, I i2), (2, S s3)], [nR x1]⟩ (Wnt ((W_seq (W_seq ?_))))))
  refine W_region (Ws 1 [0] [0, 1, 2, 7] ⟨[(0, sF 0 x1), (1, I i2), (2, S s3), (7, I 1)], [nR x1]⟩ (Wnt ((W_block (W_loop (bindO_e h (fun v141 hv141 h => ?_)))))))
  refine WL_cut (spec_kid_L1_ok w X θ x1 i2 s3 v141 n 1 hv141) ?_
  rcases v141 with i119 | _
  ·rintro _ _ ⟨rfl, rfl⟩
   refine blockS_r (thenS_r ?_)
   cases h
   exact ⟨[0], True, by kernel_rfl, trivial⟩
  ·rintro _ _ ⟨rfl, rfl⟩
   refine blockS_y (thenS_n (Wsr ((Ws 1 [0] [6] ⟨[(6, I (-1))], [nR x1]⟩ (Wnt ((W_ret ?_)))))))
   cases h
   exact ⟨[0], True, by kernel_rfl, trivial⟩

/- spec.depth -/
def spec_depth_L1 (x1 : List Nod) : Nat → Int → Int → Option (Int)
| 0, _, _ => none
| n + 1, i42, i43 =>
 guardO (0 ≤ i42 ∧ i42 < ((x1.length : Nat) : Int)) <|
 iteO (decide (0 ≤ ((x1.getD i42.toNat dnod).parent)))
 (guardO (0 ≤ i42 ∧ i42 < ((x1.length : Nat) : Int)) <|
 spec_depth_L1 x1 n ((x1.getD i42.toNat dnod).parent) (w64 (i43 + 1)))
 (some i43)

theorem spec_depth_L1_ok (w : World) (X : Nat → Prop) (θ : List Loc) (x1 : List Nod) (i51 : Int) : ∀ (n : Nat) (i42 : Int) (i43 : Int), spec_depth_L1 x1 n i42 i43 = some i51 → WL EE ⟨w, X, θ, 20, 1⟩ (subC [1, 1, 0, 4, 4] (bodyC Tryz.f110)) (fun (e : Exit) (s : St) => e = .exit 0 ∧ s = ⟨[(5, I i51)], [nR x1]⟩) ⟨[(0, sF 0 x1), (1, I i42), (5, I i43)], [nR x1]⟩ := by
  intro n
  induction n with
  | zero => intro _ _ h; exact none_e h
  | succ n ih =>
    intro i42 i43 h
    rw [spec_depth_L1] at h
    refine WL_round ?_
    refine W_seq (Wsr ((guardO_e h (fun hg53 h => (Wp 6 [0] [0, 1, 5, 11] ((0 ≤ i42 ∧ i42 < (lI x1)) ∧ T3) ⟨[(0, sF 0 x1), (1, I i42), (5, I i43), (11, B (decide (0 ≤ ((x1.getD i42.toNat dnod).parent))))], [nR x1]⟩ ⟨hg53, trivial, trivial, trivial⟩ (Wnt (?_)))))))
    refine iteO_e h (fun hb55 h => W_true rfl hb55 ?_) (fun hb55 h => W_false rfl hb55 ?_)
    ·refine Ww [0] [0, 1, 5] ⟨[(0, sF 0 x1), (1, I i42), (5, I i43)], [nR x1]⟩ (W_skip (thenS_n (W_block (Wsr ((guardO_e h (fun hg57 h => (Wp 6 [0] [0, 1, 5] ((0 ≤ i42 ∧ i42 < (lI x1)) ∧ T2) ⟨[(0, sF 0 x1), (1, I ((x1.getD i42.toNat dnod).parent)), (5, I i43)], [nR x1]⟩ ⟨hg57, trivial, trivial⟩ (Wnt ((W_region (Wp 3 [0] [0, 1, 5] T2 ⟨[(0, sF 0 x1), (1, I ((x1.getD i42.toNat dnod).parent)), (5, I (w64 (i43 + 1)))], [nR x1]⟩ t2 (WO_nil rfl (blockS_n (thenS_n ?_)))))))))))))))
     exact ih _ _ h
    ·refine Ww [0] [5] ⟨[(5, I i43)], [nR x1]⟩ (W_exit (thenS_e (thenS_e ?_)))
     cases h
     exact aI rfl rfl

def spec_depth (n : Nat) (x1 : List Nod) (i2 : Int) : Option (Int) :=
 bindO (spec_depth_L1 x1 n i2 0) fun i51 =>
 some i51

theorem spec_depth_ok (n : Nat) (x1 : List Nod) (i2 : Int) (i30 : Int) (h : spec_depth n x1 i2 = some i30) : FOk EE 110 [sF 0 x1, I i2] [nR x1] (I i30) [nR x1] := by
  unfold spec_depth at h
  refine FOk_of_W 20 1 Tryz.func110 rfl rfl (Nat.le_of_ble_eq_true rfl) rfl (fun w X θ => ?_)
  refine Wsr ((Ws 1 [0] [0, 1] ⟨[(0, sF 0 x1), (1, I i2)], [nR x1]⟩ (Wnt ((W_seq (W_region ?_))))))
  refine Ws 1 [0] [0, 1, 5] ⟨[(0, sF 0 x1), (1, I i2), (5, I 0)], [nR x1]⟩ (Wnt ((W_seq (W_block (W_loop (bindO_e h (fun i51 hi51 h => ?_)))))))
  refine WL_cut (spec_depth_L1_ok w X θ x1 i51 n i2 0 hi51) ?_
  rintro _ _ ⟨rfl, rfl⟩
  refine blockS_y (thenS_n (Wsr ((Ws 2 [0] [4] ⟨[(4, I i51)], [nR x1]⟩ (Wnt (?_))))))
  refine W_ret ?_
  cases h
  exact ⟨[0], True, by kernel_rfl, trivial⟩

/- spec.validNode -/
def spec_validNode (n : Nat) (x1 : List Nod) (i2 : Int) : Option (Bool) :=
 guardO (0 ≤ i2 ∧ i2 < ((x1.length : Nat) : Int)) <|
 iteO (!(spec_inRange ((x1.getD i2.toNat dnod).value) (-1000) 1000))
 (some false)
 (iteO (decide (i2 = 0))
 (guardO (0 ≤ i2 ∧ i2 < ((x1.length : Nat) : Int)) <|
 bindO (iteO (decide (((x1.getD i2.toNat dnod).parent) = (-1)))
 (guardO (0 ≤ i2 ∧ i2 < ((x1.length : Nat) : Int)) <|
 some (decide (((x1.getD i2.toNat dnod).name) = [])))
 (some false)) fun b54 =>
 some b54)
 (guardO (0 ≤ i2 ∧ i2 < ((x1.length : Nat) : Int)) <|
 bindO (iteO (spec_inRange ((x1.getD i2.toNat dnod).parent) 0 (w64 (i2 - 1)))
 (guardO (0 ≤ i2 ∧ i2 < ((x1.length : Nat) : Int)) <|
 bindO (spec_validName n ((x1.getD i2.toNat dnod).name)) fun b61 =>
 iteO b61
 (guardO (0 ≤ i2 ∧ i2 ≤ ((x1.length : Nat) : Int)) <|
 guardO (0 ≤ i2 ∧ i2 < ((x1.length : Nat) : Int)) <|
 guardO (0 ≤ i2 ∧ i2 < ((x1.length : Nat) : Int)) <|
 bindO (spec_kid n ((x1.drop 0).take i2.toNat) ((x1.getD i2.toNat dnod).parent) ((x1.getD i2.toNat dnod).name)) fun i67 =>
 iteO (decide (i67 < 0))
 (bindO (spec_depth n x1 i2) fun i70 =>
 some (decide (i70 ≤ 4)))
 (some false))
 (some false))
 (some false)) fun b72 =>
 some b72))

theorem spec_validNode_ok (n : Nat) (x1 : List Nod) (i2 : Int) (b38 : Bool) (h : spec_validNode n x1 i2 = some b38) : FOk EE 73 [sF 0 x1, I i2] [nR x1] (B b38) [nR x1] := by
  unfold spec_validNode at h
  refine FOk_of_W 67 1 Tryz.func73 rfl rfl (Nat.le_of_ble_eq_true rfl) rfl (fun w X θ => ?_)
  refine Wsr ((Ws 1 [0] [0, 1] ⟨[(0, sF 0 x1), (1, I i2)], [nR x1]⟩ (Wnt ((W_seq (W_seq ?_))))))
  refine W_region (guardO_e h (fun hg39 h => (Wp 5 [0] [0, 1, 9] ((0 ≤ i2 ∧ i2 < (lI x1)) ∧ T2) ⟨[(0, sF 0 x1), (1, I i2), (9, I ((x1.getD i2.toNat dnod).value))], [nR x1]⟩ ⟨hg39, trivial, trivial⟩ (Wc [] rfl rfl rfl Tryz.func71 rfl (spec_inRange_ok ((x1.getD i2.toNat dnod).value) (-1000) 1000) (trivial) rfl (Ws 1 [0] [0, 1, 11] ⟨[(0, sF 0 x1), (1, I i2), (11, B (!(spec_inRange ((x1.getD i2.toNat dnod).value) (-1000) 1000)))], [nR x1]⟩ (Wnt (?_)))))))
  refine iteO_e h (fun hb41 h => W_true rfl hb41 ?_) (fun hb41 h => W_false rfl hb41 ?_)
  ·refine Wsr ((Ws 1 [0] [4] ⟨[(4, B false)], [nR x1]⟩ (Wnt ((W_ret (thenS_r ?_))))))
   cases h
   exact ⟨[0], True, by kernel_rfl, trivial⟩
  ·refine Ww [0] [0, 1] ⟨[(0, sF 0 x1), (1, I i2)], [nR x1]⟩ (W_skip (thenS_n (W_seq (Wsr ((Wp 2 [0] [0, 1, 13] T2 ⟨[(0, sF 0 x1), (1, I i2), (13, B (decide (i2 = 0)))], [nR x1]⟩ t2 (Wnt ((iteO_e h (fun hb50 h => W_true rfl hb50 ?_) (fun hb50 h => W_false rfl hb50 ?_))))))))))
   ·refine Wsr ((guardO_e h (fun hg51 h => (Wp 7 [0] [0, 1, 20] ((0 ≤ i2 ∧ i2 < (lI x1)) ∧ T3) ⟨[(0, sF 0 x1), (1, I i2), (20, B (decide (((x1.getD i2.toNat dnod).parent) = (-1))))], [nR x1]⟩ ⟨hg51, trivial, trivial, trivial⟩ (bindO_e h (fun b54 hv55 h => (WO_thru ⟨[(4, B b54)], [nR x1]⟩ ?_ ?_)))))))
    ·refine iteO_e hv55 (fun hb56 hv55 => WO_known 20 true rfl hb56 ?_) (fun hb56 hv55 => WO_known 20 false rfl hb56 ?_)
     ·refine guardO_e hv55 (fun hg57 hv55 => (Wp 8 [0] [4] ((0 ≤ i2 ∧ i2 < (lI x1)) ∧ T3) ⟨[(4, B (decide (((x1.getD i2.toNat dnod).name) = [])))], [nR x1]⟩ ⟨hg57, trivial, trivial, trivial⟩ ?_))
      cases hv55
      exact WO_nil rfl ⟨rfl, rfl⟩
     ·refine Ws 8 [0] [4] ⟨[(4, B false)], [nR x1]⟩ ?_
      cases hv55
      exact WO_nil rfl ⟨rfl, rfl⟩
    ·refine thenS_n (W_ret (thenS_r ?_))
     cases h
     exact ⟨[0], True, by kernel_rfl, trivial⟩
   ·refine Ww [0] [0, 1] ⟨[(0, sF 0 x1), (1, I i2)], [nR x1]⟩ (W_skip (thenS_n (W_seq (guardO_e h (fun hg58 h => (bindO_e h (fun b72 hv73 h => (W_cut (Q' := fun (e : Exit) (s : St) => e = .normal ∧ s = ⟨[(4, B b72)], [nR x1]⟩) ?_ ?_))))))))
    ·refine iteO_e hv73 (fun hb59 hv73 => ?_) (fun hb59 hv73 => ?_)
     ·refine guardO_e hv73 (fun hg60 hv73 => (bindO_e hv73 (fun b61 hc62 hv73 => (iteO_e hv73 (fun hb63 hv73 => ?_) (fun hb63 hv73 => ?_)))))
      ·refine guardO_e hv73 (fun hg64 hv73 => (guardO_e hv73 (fun hg65 hv73 => (guardO_e hv73 (fun hg66 hv73 => (bindO_e hv73 (fun i67 hc68 hv73 => (iteO_e hv73 (fun hb69 hv73 => ?_) (fun hb69 hv73 => ?_)))))))))
       ·refine bindO_e hv73 (fun i70 hc71 hv73 => (W_draw [] false (by kernel_rfl) (by kernel_rfl) (WD_takeQ [0, 1, 2, 3, 4, 5, 6] [0, 1, 32, 34] [0, 1, 32, 34] (φ := ((0 ≤ i2 ∧ i2 < (lI x1)) ∧ (0 ≤ i2 ∧ i2 < (lI x1)) ∧ (True ∧ True ∧ (True ∧ True ∧ True)))) (ls' := (tf true [7, 33])) (st' := ⟨[(0, sF 0 x1), (1, I i2), (32, I ((x1.getD i2.toNat dnod).parent)), (34, I (w64 (i2 - 1)))], [nR x1]⟩) (n2 := 33) (by kernel_rfl) ⟨hg58, hg58, trivial, trivial, trivial, trivial, trivial⟩ rfl (WD_all [7] (n := 32) (by kernel_rfl) rfl (WM_call [] Tryz.f71 rfl rfl (by kernel_rfl) Tryz.func71 rfl (by kernel_rfl) (spec_inRange_ok ((x1.getD i2.toNat dnod).parent) 0 (w64 (i2 - 1))) (trivial) rfl (aI rfl (trivial)) (WD_takeQ [8] [0, 1, 36] [0, 1, 36] (φ := True) (ls' := (tf true [9, 31])) (st' := ⟨[(0, sF 0 x1), (1, I i2), (36, B (spec_inRange ((x1.getD i2.toNat dnod).parent) 0 (w64 (i2 - 1))))], [nR x1]⟩) (n2 := 31) (by kernel_rfl) trivial rfl (WD_known 36 true rfl rfl hb59 (WD_takeQ [9, 10, 11, 12, 13] [0, 1, 36, 41] [0, 1, 36, 41] (φ := ((0 ≤ i2 ∧ i2 < (lI x1)) ∧ (0 ≤ i2 ∧ i2 < (lI x1)) ∧ (True ∧ True ∧ True))) (ls' := (tf true [14, 26])) (st' := ⟨[(0, sF 0 x1), (1, I i2), (36, B true), (41, S ((x1.getD i2.toNat dnod).name))], [nR x1]⟩) (n2 := 26) (by kernel_rfl) ⟨hg60, hg60, trivial, trivial, trivial⟩ rfl (WD_all [14] (n := 25) (by kernel_rfl) rfl (WM_call [] Tryz.f108 rfl rfl (by kernel_rfl) Tryz.func108 rfl (by kernel_rfl) (spec_validName_ok n ((x1.getD i2.toNat dnod).name) b61 hc62) (trivial) rfl (aI rfl (trivial)) (WD_takeQ [15, 16] [0, 1, 44] [0, 1, 44] (φ := True) (ls' := (tf true [17, 23])) (st' := ⟨[(0, sF 0 x1), (1, I i2), (44, B b61)], [nR x1]⟩) (n2 := 23) (by kernel_rfl) trivial rfl (WD_known 44 true rfl rfl hb63 (WD_takeQ [17, 18, 20, 21, 22, 23, 24, 25, 26, 27, 28, 29] [0, 1, 44, 45, 46, 52, 57] [0, 1, 44, 45, 46, 52, 57] (φ := ((0 ≤ i2 ∧ i2 < (lI x1)) ∧ (0 ≤ i2 ∧ i2 < (lI x1)) ∧ (True ∧ True ∧ ((0 ≤ i2 ∧ i2 < (lI x1)) ∧ (0 ≤ i2 ∧ i2 < (lI x1)) ∧ (True ∧ True ∧ True))))) (ls' := (tf true [19, 1, 10, 10])) (st' := ⟨[(0, sF 0 x1), (1, I i2), (44, B true), (45, sF 0 x1), (46, I i2), (52, I ((x1.getD i2.toNat dnod).parent)), (57, S ((x1.getD i2.toNat dnod).name))], [nR x1]⟩) (n2 := 11) (by kernel_rfl) ⟨hg65, hg65, trivial, trivial, hg66, hg66, trivial, trivial, trivial⟩ rfl (WD_all [19] (n := 10) (by kernel_rfl) rfl (WM_op (φ := 0 ≤ i2 ∧ i2 ≤ (lI x1)) (v := .one (.e (.sl 0 0 i2.toNat))) (H' := [nR x1]) rfl rfl (by kernel_rfl) hg64 rfl (aI rfl (trivial)) (WD_all [30] (n := 9) (by kernel_rfl) rfl (WM_call [.view 0] Tryz.f109 rfl rfl (by kernel_rfl) Tryz.func109 rfl (by kernel_rfl) (spec_kid_ok n ((x1.drop 0).take i2.toNat) ((x1.getD i2.toNat dnod).parent) ((x1.getD i2.toNat dnod).name) i67 hc68) (trivial) rfl (aI rfl (trivial)) (WD_takeQ [31, 32, 33] [0, 1, 61] [0, 1, 61] (φ := (True ∧ True ∧ True)) (ls' := (tf true [34, 6])) (st' := ⟨[(0, sF 0 x1), (1, I i2), (61, B (decide (i67 < 0)))], [nR x1]⟩) (n2 := 6) (by kernel_rfl) t3 rfl (WD_known 61 true rfl rfl hb69 (WD_takeQ [34, 35] [61, 62, 63] [61, 62, 63] (φ := True) (ls' := (tf true [36, 4])) (st' := ⟨[(61, B true), (62, sF 0 x1), (63, I i2)], [nR x1]⟩) (n2 := 4) (by kernel_rfl) trivial rfl (WD_all [36] (n := 3) (by kernel_rfl) rfl (WM_call [.ro 0] Tryz.f110 rfl rfl (by kernel_rfl) Tryz.func110 rfl (by kernel_rfl) (spec_depth_ok n x1 i2 i70 hc71) (aI (aI rfl rfl) (trivial)) rfl (aI rfl (trivial)) (WD_takeQ [37, 38, 39] [4] [4] (φ := (True ∧ True ∧ True)) (ls' := (tf true [40])) (st' := ⟨[(4, B (decide (i70 ≤ 4)))], [nR x1]⟩) (n2 := 0) (by kernel_rfl) t3 rfl ?_)))))))))))))))))))))))
        exact WD_done [0] [4] (st' := ⟨[(4, B (decide (i70 ≤ 4)))], [nR x1]⟩) (by kernel_rfl) (by kernel_rfl) (aI rfl (by cases hv73; rfl))
       ·refine W_draw [] false (by kernel_rfl) (by kernel_rfl) (WD_takeQ [0, 1, 2, 3, 4, 5, 6] [0, 1, 32, 34] [0, 1, 32, 34] (φ := ((0 ≤ i2 ∧ i2 < (lI x1)) ∧ (0 ≤ i2 ∧ i2 < (lI x1)) ∧ (True ∧ True ∧ (True ∧ True ∧ True)))) (ls' := (tf true [7, 33])) (st' := ⟨[(0, sF 0 x1), (1, I i2), (32, I ((x1.getD i2.toNat dnod).parent)), (34, I (w64 (i2 - 1)))], [nR x1]⟩) (n2 := 33) (by kernel_rfl) ⟨hg58, hg58, trivial, trivial, trivial, trivial, trivial⟩ rfl (WD_all [7] (n := 32) (by kernel_rfl) rfl (WM_call [] Tryz.f71 rfl rfl (by kernel_rfl) Tryz.func71 rfl (by kernel_rfl) (spec_inRange_ok ((x1.getD i2.toNat dnod).parent) 0 (w64 (i2 - 1))) (trivial) rfl (aI rfl (trivial)) (WD_takeQ [8] [0, 1, 36] [0, 1, 36] (φ := True) (ls' := (tf true [9, 31])) (st' := ⟨[(0, sF 0 x1), (1, I i2), (36, B (spec_inRange ((x1.getD i2.toNat dnod).parent) 0 (w64 (i2 - 1))))], [nR x1]⟩) (n2 := 31) (by kernel_rfl) trivial rfl (WD_known 36 true rfl rfl hb59 (WD_takeQ [9, 10, 11, 12, 13] [0, 1, 36, 41] [0, 1, 36, 41] (φ := ((0 ≤ i2 ∧ i2 < (lI x1)) ∧ (0 ≤ i2 ∧ i2 < (lI x1)) ∧ (True ∧ True ∧ True))) (ls' := (tf true [14, 26])) (st' := ⟨[(0, sF 0 x1), (1, I i2), (36, B true), (41, S ((x1.getD i2.toNat dnod).name))], [nR x1]⟩) (n2 := 26) (by kernel_rfl) ⟨hg60, hg60, trivial, trivial, trivial⟩ rfl (WD_all [14] (n := 25) (by kernel_rfl) rfl (WM_call [] Tryz.f108 rfl rfl (by kernel_rfl) Tryz.func108 rfl (by kernel_rfl) (spec_validName_ok n ((x1.getD i2.toNat dnod).name) b61 hc62) (trivial) rfl (aI rfl (trivial)) (WD_takeQ [15, 16] [0, 1, 44] [0, 1, 44] (φ := True) (ls' := (tf true [17, 23])) (st' := ⟨[(0, sF 0 x1), (1, I i2), (44, B b61)], [nR x1]⟩) (n2 := 23) (by kernel_rfl) trivial rfl (WD_known 44 true rfl rfl hb63 (WD_takeQ [17, 18, 20, 21, 22, 23, 24, 25, 26, 27, 28, 29] [0, 1, 44, 45, 46, 52, 57] [0, 1, 44, 45, 46, 52, 57] (φ := ((0 ≤ i2 ∧ i2 < (lI x1)) ∧ (0 ≤ i2 ∧ i2 < (lI x1)) ∧ (True ∧ True ∧ ((0 ≤ i2 ∧ i2 < (lI x1)) ∧ (0 ≤ i2 ∧ i2 < (lI x1)) ∧ (True ∧ True ∧ True))))) (ls' := (tf true [19, 1, 10, 10])) (st' := ⟨[(0, sF 0 x1), (1, I i2), (44, B true), (45, sF 0 x1), (46, I i2), (52, I ((x1.getD i2.toNat dnod).parent)), (57, S ((x1.getD i2.toNat dnod).name))], [nR x1]⟩) (n2 := 11) (by kernel_rfl) ⟨hg65, hg65, trivial, trivial, hg66, hg66, trivial, trivial, trivial⟩ rfl (WD_all [19] (n := 10) (by kernel_rfl) rfl (WM_op (φ := 0 ≤ i2 ∧ i2 ≤ (lI x1)) (v := .one (.e (.sl 0 0 i2.toNat))) (H' := [nR x1]) rfl rfl (by kernel_rfl) hg64 rfl (aI rfl (trivial)) (WD_all [30] (n := 9) (by kernel_rfl) rfl (WM_call [.view 0] Tryz.f109 rfl rfl (by kernel_rfl) Tryz.func109 rfl (by kernel_rfl) (spec_kid_ok n ((x1.drop 0).take i2.toNat) ((x1.getD i2.toNat dnod).parent) ((x1.getD i2.toNat dnod).name) i67 hc68) (trivial) rfl (aI rfl (trivial)) (WD_takeQ [31, 32, 33] [0, 1, 61] [0, 1, 61] (φ := (True ∧ True ∧ True)) (ls' := (tf true [34, 6])) (st' := ⟨[(0, sF 0 x1), (1, I i2), (61, B (decide (i67 < 0)))], [nR x1]⟩) (n2 := 6) (by kernel_rfl) t3 rfl (WD_known 61 false rfl rfl hb69 (WD_takeQ [34, 35, 36, 37, 38, 39] [4] [4] (φ := True) (ls' := (tf true [40])) (st' := ⟨[(4, B false)], [nR x1]⟩) (n2 := 0) (by kernel_rfl) trivial rfl ?_))))))))))))))))))
        exact WD_done [0] [4] (st' := ⟨[(4, B false)], [nR x1]⟩) (by kernel_rfl) (by kernel_rfl) (aI rfl (by cases hv73; rfl))
      ·refine W_draw [] false (by kernel_rfl) (by kernel_rfl) (WD_takeQ [0, 1, 2, 3, 4, 5, 6] [0, 1, 32, 34] [0, 1, 32, 34] (φ := ((0 ≤ i2 ∧ i2 < (lI x1)) ∧ (0 ≤ i2 ∧ i2 < (lI x1)) ∧ (True ∧ True ∧ (True ∧ True ∧ True)))) (ls' := (tf true [7, 33])) (st' := ⟨[(0, sF 0 x1), (1, I i2), (32, I ((x1.getD i2.toNat dnod).parent)), (34, I (w64 (i2 - 1)))], [nR x1]⟩) (n2 := 33) (by kernel_rfl) ⟨hg58, hg58, trivial, trivial, trivial, trivial, trivial⟩ rfl (WD_all [7] (n := 32) (by kernel_rfl) rfl (WM_call [] Tryz.f71 rfl rfl (by kernel_rfl) Tryz.func71 rfl (by kernel_rfl) (spec_inRange_ok ((x1.getD i2.toNat dnod).parent) 0 (w64 (i2 - 1))) (trivial) rfl (aI rfl (trivial)) (WD_takeQ [8] [0, 1, 36] [0, 1, 36] (φ := True) (ls' := (tf true [9, 31])) (st' := ⟨[(0, sF 0 x1), (1, I i2), (36, B (spec_inRange ((x1.getD i2.toNat dnod).parent) 0 (w64 (i2 - 1))))], [nR x1]⟩) (n2 := 31) (by kernel_rfl) trivial rfl (WD_known 36 true rfl rfl hb59 (WD_takeQ [9, 10, 11, 12, 13] [0, 1, 36, 41] [0, 1, 36, 41] (φ := ((0 ≤ i2 ∧ i2 < (lI x1)) ∧ (0 ≤ i2 ∧ i2 < (lI x1)) ∧ (True ∧ True ∧ True))) (ls' := (tf true [14, 26])) (st' := ⟨[(0, sF 0 x1), (1, I i2), (36, B true), (41, S ((x1.getD i2.toNat dnod).name))], [nR x1]⟩) (n2 := 26) (by kernel_rfl) ⟨hg60, hg60, trivial, trivial, trivial⟩ rfl (WD_all [14] (n := 25) (by kernel_rfl) rfl (WM_call [] Tryz.f108 rfl rfl (by kernel_rfl) Tryz.func108 rfl (by kernel_rfl) (spec_validName_ok n ((x1.getD i2.toNat dnod).name) b61 hc62) (trivial) rfl (aI rfl (trivial)) (WD_takeQ [15, 16] [0, 1, 44] [0, 1, 44] (φ := True) (ls' := (tf true [17, 23])) (st' := ⟨[(0, sF 0 x1), (1, I i2), (44, B b61)], [nR x1]⟩) (n2 := 23) (by kernel_rfl) trivial rfl (WD_known 44 false rfl rfl hb63 (WD_takeQ [17, 18, 19, 20, 21, 22, 23, 24, 25, 26, 27, 28, 29, 30, 31, 32, 33, 34, 35, 36, 37, 38, 39] [4] [4] (φ := True) (ls' := (tf true [40])) (st' := ⟨[(4, B false)], [nR x1]⟩) (n2 := 0) (by kernel_rfl) trivial rfl ?_)))))))))))
       exact WD_done [0] [4] (st' := ⟨[(4, B false)], [nR x1]⟩) (by kernel_rfl) (by kernel_rfl) (aI rfl (by cases hv73; rfl))
     ·refine W_draw [] false (by kernel_rfl) (by kernel_rfl) (WD_takeQ [0, 1, 2, 3, 4, 5, 6] [0, 1, 32, 34] [0, 1, 32, 34] (φ := ((0 ≤ i2 ∧ i2 < (lI x1)) ∧ (0 ≤ i2 ∧ i2 < (lI x1)) ∧ (True ∧ True ∧ (True ∧ True ∧ True)))) (ls' := (tf true [7, 33])) (st' := ⟨[(0, sF 0 x1), (1, I i2), (32, I ((x1.getD i2.toNat dnod).parent)), (34, I (w64 (i2 - 1)))], [nR x1]⟩) (n2 := 33) (by kernel_rfl) ⟨hg58, hg58, trivial, trivial, trivial, trivial, trivial⟩ rfl (WD_all [7] (n := 32) (by kernel_rfl) rfl (WM_call [] Tryz.f71 rfl rfl (by kernel_rfl) Tryz.func71 rfl (by kernel_rfl) (spec_inRange_ok ((x1.getD i2.toNat dnod).parent) 0 (w64 (i2 - 1))) (trivial) rfl (aI rfl (trivial)) (WD_takeQ [8] [0, 1, 36] [0, 1, 36] (φ := True) (ls' := (tf true [9, 31])) (st' := ⟨[(0, sF 0 x1), (1, I i2), (36, B (spec_inRange ((x1.getD i2.toNat dnod).parent) 0 (w64 (i2 - 1))))], [nR x1]⟩) (n2 := 31) (by kernel_rfl) trivial rfl (WD_known 36 false rfl rfl hb59 (WD_takeQ [9, 10, 11, 12, 13, 14, 15, 16, 17, 18, 19, 20, 21, 22, 23, 24, 25, 26, 27, 28, 29, 30, 31, 32, 33, 34, 35, 36, 37, 38, 39] [4] [4] (φ := True) (ls' := (tf true [40])) (st' := ⟨[(4, B false)], [nR x1]⟩) (n2 := 0) (by kernel_rfl) trivial rfl ?_))))))
      exact WD_done [0] [4] (st' := ⟨[(4, B false)], [nR x1]⟩) (by kernel_rfl) (by kernel_rfl) (aI rfl (by cases hv73; rfl))
    ·rintro _ _ ⟨rfl, rfl⟩
     refine thenS_n (W_ret ?_)
     cases h
     exact ⟨[0], True, by kernel_rfl, trivial⟩

/- spec.validTree -/
def spec_validTree_L1 (x1 : List Nod) : Nat → Int → Option ((Unit) ⊕ (Unit))
| 0, _ => none
| n + 1, i52 =>
 iteO (decide (i52 < ((x1.length : Nat) : Int)))
 (bindO (spec_validNode n x1 i52) fun b71 =>
 iteO (!b71)
 (some (.inl ()))
 (spec_validTree_L1 x1 n (w64 (i52 + 1))))
 (some (.inr ()))

theorem spec_validTree_L1_ok (w : World) (X : Nat → Prop) (θ : List Loc) (x1 : List Nod) (v : (Unit) ⊕ (Unit)) : ∀ (n : Nat) (i52 : Int), spec_validTree_L1 x1 n i52 = some v → WL EE ⟨w, X, θ, 17, 1⟩ (subC [1, 0, 1, 4, 4] (bodyC Tryz.f45)) (fun (e : Exit) (s : St) => (match v with | (.inl _) => e = .ret ∧ s = ⟨[(2, B false)], [nR x1]⟩ | (.inr _) => e = .exit 0 ∧ s = ⟨[(0, sF 0 x1)], [nR x1]⟩ : Prop)) ⟨[(0, sF 0 x1), (3, I i52)], [nR x1]⟩ := by
  intro n
  induction n with
  | zero => intro _ h; exact none_e h
  | succ n ih =>
    intro i52 h
    rw [spec_validTree_L1] at h
    refine WL_round ?_
    refine W_seq (Wsr ((Wp 4 [0] [0, 3, 7] T3 ⟨[(0, sF 0 x1), (3, I i52), (7, B (decide (i52 < (lI x1))))], [nR x1]⟩ t3 (Wnt ((iteO_e h (fun hb66 h => W_true rfl hb66 ?_) (fun hb66 h => W_false rfl hb66 ?_)))))))
    ·refine Ww [0] [0, 3] ⟨[(0, sF 0 x1), (3, I i52)], [nR x1]⟩ (W_skip (thenS_n (W_seq (W_block (Wsr ((Ws 2 [0] [0, 3, 10, 11] ⟨[(0, sF 0 x1), (3, I i52), (10, sF 0 x1), (11, I i52)], [nR x1]⟩ (bindO_e h (fun b71 hc72 h => (Wc [.ro 0] rfl rfl rfl Tryz.func73 rfl (spec_validNode_ok n x1 i52 b71 hc72) (aI (aI rfl rfl) (trivial)) rfl (Ws 1 [0] [0, 3, 13] ⟨[(0, sF 0 x1), (3, I i52), (13, B (!b71))], [nR x1]⟩ (Wnt ((iteO_e h (fun hb74 h => W_true rfl hb74 ?_) (fun hb74 h => W_false rfl hb74 ?_)))))))))))))))
     ·refine Wsr ((Ws 1 [0] [2] ⟨[(2, B false)], [nR x1]⟩ (Wnt ((W_ret (blockS_r (thenS_r (thenS_r ?_))))))))
      cases h
      exact aI rfl rfl
     ·refine Ww [0] [0, 3] ⟨[(0, sF 0 x1), (3, I i52)], [nR x1]⟩ (W_skip (blockS_n (thenS_n (W_region (Wp 3 [0] [0, 3] T2 ⟨[(0, sF 0 x1), (3, I (w64 (i52 + 1)))], [nR x1]⟩ t2 (Wnt (?_)))))))
      exact ih _ h
    ·refine Ww [0] [0] ⟨[(0, sF 0 x1)], [nR x1]⟩ (W_exit (thenS_e (thenS_e ?_)))
     cases h
     exact aI rfl rfl

def spec_validTree (n : Nat) (x1 : List Nod) : Option (Bool) :=
 bindO (spec_validTree_L1 x1 n 0) fun v75 =>
 match v75 with
 | (.inl _) => (some false)
 | (.inr _) => (some (spec_inRange ((x1.length : Nat) : Int) 1 12))


theorem spec_validTree_ok (n : Nat) (x1 : List Nod) (b38 : Bool) (h : spec_validTree n x1 = some b38) : FOk EE 45 [sF 0 x1] [nR x1] (B b38) [nR x1] := by
  unfold spec_validTree at h
  refine FOk_of_W 17 1 Tryz.func45 rfl rfl (Nat.le_of_ble_eq_true rfl) rfl (fun w X θ => ?_)
  refine Wsr ((Ws 1 [0] [0] ⟨[(0, sF 0 x1)], [nR x1]⟩ (Wnt ((W_seq (W_seq ?_))))))
  refine W_region (Ws 1 [0] [0, 3] ⟨[(0, sF 0 x1), (3, I 0)], [nR x1]⟩ (Wnt ((W_block (W_loop (bindO_e h (fun v75 hv75 h => ?_)))))))
  refine WL_cut (spec_validTree_L1_ok w X θ x1 v75 n 0 hv75) ?_
  rcases v75 with _ | _
  ·rintro _ _ ⟨rfl, rfl⟩
   refine blockS_r (thenS_r ?_)
   cases h
   exact ⟨[0], True, by kernel_rfl, trivial⟩
  ·rintro _ _ ⟨rfl, rfl⟩
   refine blockS_y (thenS_n (Wsr ((Wp 2 [0] [15] T2 ⟨[(15, I (lI x1))], [nR x1]⟩ t2 (Wc [] rfl rfl rfl Tryz.func71 rfl (spec_inRange_ok (lI x1) 1 12) (trivial) rfl (Ws 1 [0] [2] ⟨[(2, B (spec_inRange (lI x1) 1 12))], [nR x1]⟩ (Wnt ((W_ret ?_)))))))))
   cases h
   exact ⟨[0], True, by kernel_rfl, trivial⟩

/- spec.above -/
def spec_above_L1 (x1 : List Nod) (i2 : Int) : Nat → Int → Option (Int)
| 0, _ => none
| n + 1, i33 =>
 iteO (decide (i2 < i33))
 (guardO (0 ≤ i33 ∧ i33 < ((x1.length : Nat) : Int)) <|
 spec_above_L1 x1 i2 n ((x1.getD i33.toNat dnod).parent))
 (some i33)

theorem spec_above_L1_ok (w : World) (X : Nat → Prop) (θ : List Loc) (x1 : List Nod) (i2 : Int) (i39 : Int) : ∀ (n : Nat) (i33 : Int), spec_above_L1 x1 i2 n i33 = some i39 → WL EE ⟨w, X, θ, 18, 1⟩ (subC [1, 0, 4, 4] (bodyC Tryz.f173)) (fun (e : Exit) (s : St) => e = .exit 0 ∧ s = ⟨[(1, I i2), (2, I i39)], [nR x1]⟩) ⟨[(0, sF 0 x1), (1, I i2), (2, I i33)], [nR x1]⟩ := by
  intro n
  induction n with
  | zero => intro _ h; exact none_e h
  | succ n ih =>
    intro i33 h
    rw [spec_above_L1] at h
    refine WL_round ?_
    refine W_seq (Wsr ((Wp 3 [0] [0, 1, 2, 9] T2 ⟨[(0, sF 0 x1), (1, I i2), (2, I i33), (9, B (decide (i2 < i33)))], [nR x1]⟩ t2 (Wnt ((iteO_e h (fun hb42 h => W_true rfl hb42 ?_) (fun hb42 h => W_false rfl hb42 ?_)))))))
    ·refine Ww [0] [0, 1, 2] ⟨[(0, sF 0 x1), (1, I i2), (2, I i33)], [nR x1]⟩ (W_skip (thenS_n (W_block (W_region (guardO_e h (fun hg44 h => (Wp 6 [0] [0, 1, 2] ((0 ≤ i33 ∧ i33 < (lI x1)) ∧ T2) ⟨[(0, sF 0 x1), (1, I i2), (2, I ((x1.getD i33.toNat dnod).parent))], [nR x1]⟩ ⟨hg44, trivial, trivial⟩ (WO_nil rfl (blockS_n (thenS_n ?_))))))))))
     exact ih _ h
    ·refine Ww [0] [1, 2] ⟨[(1, I i2), (2, I i33)], [nR x1]⟩ (W_exit (thenS_e (thenS_e ?_)))
     cases h
     exact aI rfl rfl

def spec_above (n : Nat) (x1 : List Nod) (i2 : Int) (i3 : Int) : Option (Bool) :=
 bindO (spec_above_L1 x1 i2 n i3) fun i39 =>
 some (decide (i39 = i2))

theorem spec_above_ok (n : Nat) (x1 : List Nod) (i2 : Int) (i3 : Int) (b24 : Bool) (h : spec_above n x1 i2 i3 = some b24) : FOk EE 173 [sF 0 x1, I i2, I i3] [nR x1] (B b24) [nR x1] := by
  unfold spec_above at h
  refine FOk_of_W 18 1 Tryz.func173 rfl rfl (Nat.le_of_ble_eq_true rfl) rfl (fun w X θ => ?_)
  refine Wsr ((Ws 1 [0] [0, 1, 2] ⟨[(0, sF 0 x1), (1, I i2), (2, I i3)], [nR x1]⟩ (Wnt ((W_seq (W_block ?_))))))
  refine W_loop (bindO_e h (fun i39 hi39 h => (WL_cut (spec_above_L1_ok w X θ x1 i2 i39 n i3 hi39) ?_)))
  rintro _ _ ⟨rfl, rfl⟩
  refine blockS_y (thenS_n (Wsr ((Wp 4 [0] [6] T2 ⟨[(6, B (decide (i39 = i2)))], [nR x1]⟩ t2 (Wnt (?_))))))
  refine W_ret ?_
  cases h
  exact ⟨[0], True, by kernel_rfl, trivial⟩

/- spec.without -/
def spec_without_L1 (x1 : List Nod) (i2 : Int) : Nat → (List Nod) → (List Int) → Int → Option ((List Nod))
| 0, _, _, _ => none
| n + 1, x94, x95, i96 =>
 iteO (decide (i96 < ((x1.length : Nat) : Int)))
 (bindO (bindO (spec_above n x1 i2 i96) fun b134 =>
 iteO b134
 (some (x94, x95))
 (guardO (0 ≤ i96 ∧ i96 < ((x1.length : Nat) : Int)) <|
 bindO (iteO (decide (0 < i96))
 (guardO (0 ≤ (x1.getD i96.toNat dnod).parent ∧ (x1.getD i96.toNat dnod).parent < ((x95.length : Nat) : Int)) <|
 some (x95.getD (((x1.getD i96.toNat dnod).parent).toNat) 0))
 (some ((x1.getD i96.toNat dnod).parent))) fun i141 =>
 guardO (0 ≤ i96 ∧ i96 < ((x95.length : Nat) : Int)) <|
 guardO (0 = 0 ∧ x94.length = x94.length ∧ x94.length + (([(⟨i141, (x1.getD i96.toNat dnod).name, (x1.getD i96.toNat dnod).value⟩ : Nod)].drop 0).take ([(⟨i141, (x1.getD i96.toNat dnod).name, (x1.getD i96.toNat dnod).value⟩ : Nod)].length)).length ≤ 1099511627776) <|
 some ((x94 ++ (([(⟨i141, (x1.getD i96.toNat dnod).name, (x1.getD i96.toNat dnod).value⟩ : Nod)].drop 0).take ([(⟨i141, (x1.getD i96.toNat dnod).name, (x1.getD i96.toNat dnod).value⟩ : Nod)].length))), (x95.set i96.toNat ((x94.length : Nat) : Int))))) fun v133 =>
 match v133 with
 | (x131, x132) => (spec_without_L1 x1 i2 n x131 x132 (w64 (i96 + 1)))
)
 (some x94)

theorem spec_without_L1_ok (w : World) (X : Nat → Prop) (θ : List Loc) (x1 : List Nod) (i2 : Int) (x116 : (List Nod)) : ∀ (n : Nat) (x94 : List Nod) (x95 : List Int) (i96 : Int), spec_without_L1 x1 i2 n x94 x95 i96 = some x116 → WL EE ⟨w, X, θ, 45, 1⟩ (subC [1, 1, 1, 0, 1, 4, 4] (bodyC Tryz.f170)) (fun (e : Exit) (s : St) => e = .exit 0 ∧ s = ⟨[(5, sF 1 x116)], [nR x1, nO x116]⟩) ⟨[(0, sF 0 x1), (1, I i2), (5, sF 1 x94), (6, sF 2 x95), (7, I i96)], [nR x1, nO x94, iO x95]⟩ := by
  intro n
  induction n with
  | zero => intro _ _ _ h; exact none_e h
  | succ n ih =>
    intro x94 x95 i96 h
    rw [spec_without_L1] at h
    refine WL_round ?_
    refine W_seq (Wsr ((Wp 4 [0, 1, 2] [0, 1, 5, 6, 7, 16] T3 ⟨[(0, sF 0 x1), (1, I i2), (5, sF 1 x94), (6, sF 2 x95), (7, I i96), (16, B (decide (i96 < (lI x1))))], [nR x1, nO x94, iO x95]⟩ t3 (Wnt ((iteO_e h (fun hb119 h => W_true rfl hb119 ?_) (fun hb119 h => W_false rfl hb119 ?_)))))))
    ·refine Ww [0, 1, 2] [0, 1, 5, 6, 7] ⟨[(0, sF 0 x1), (1, I i2), (5, sF 1 x94), (6, sF 2 x95), (7, I i96)], [nR x1, nO x94, iO x95]⟩ (W_skip (thenS_n (W_seq (bindO_e h (fun v133 hv133 h => (W_cut (Q' := fun (e : Exit) (s : St) => (match v133 with | (x131, x132) => e = .normal ∧ s = ⟨[(0, sF 0 x1), (1, I i2), (5, sF 1 x131), (6, sF 2 x132), (7, I i96)], [nR x1, nO x131, iO x132]⟩ : Prop)) ?_ ?_))))))
     ·refine W_block (W_seq (Wsr ((Ws 3 [0, 1, 2] [0, 1, 5, 6, 7, 19, 20, 21] ⟨[(0, sF 0 x1), (1, I i2), (5, sF 1 x94), (6, sF 2 x95), (7, I i96), (19, sF 0 x1), (20, I i2), (21, I i96)], [nR x1, nO x94, iO x95]⟩ (bindO_e hv133 (fun b134 hc135 hv133 => (Wc [.ro 0] rfl rfl rfl Tryz.func173 rfl (spec_above_ok n x1 i2 i96 b134 hc135) (aI (aI rfl rfl) (trivial)) rfl (Wb [0, 1, 2] [0, 1, 5, 6, 7, 22] ⟨[(0, sF 0 x1), (1, I i2), (5, sF 1 x94), (6, sF 2 x95), (7, I i96), (22, B b134)], [nR x1, nO x94, iO x95]⟩ (Wnt ((iteO_e hv133 (fun hb137 hv133 => W_true rfl hb137 ?_) (fun hb137 hv133 => W_false rfl hb137 ?_))))))))))))
      ·refine Ww [0, 1, 2] [0, 1, 5, 6, 7] ⟨[(0, sF 0 x1), (1, I i2), (5, sF 1 x94), (6, sF 2 x95), (7, I i96)], [nR x1, nO x94, iO x95]⟩ (W_exit (thenS_e (blockS_y ?_)))
       cases hv133
       exact aI rfl rfl
      ·refine Ww [0, 1, 2] [0, 1, 5, 6, 7] ⟨[(0, sF 0 x1), (1, I i2), (5, sF 1 x94), (6, sF 2 x95), (7, I i96)], [nR x1, nO x94, iO x95]⟩ (W_skip (thenS_n (Wsr ((guardO_e hv133 (fun hg138 hv133 => (Wp 6 [0, 1, 2, 3] [0, 1, 5, 6, 7, 8] ((0 ≤ i96 ∧ i96 < (lI x1)) ∧ T4) ⟨[(0, sF 0 x1), (1, I i2), (5, sF 1 x94), (6, sF 2 x95), (7, I i96), (8, pA 3 0)], [nR x1, nO x94, iO x95, .cells [cI ((x1.getD i96.toNat dnod).parent), cS ((x1.getD i96.toNat dnod).name), cI ((x1.getD i96.toNat dnod).value)]]⟩ ⟨hg138, trivial, trivial, trivial, trivial⟩ (Wnt ((W_seq (Wsr ((Wp 2 [0, 1, 2, 3] [0, 1, 5, 6, 7, 8, 28] T2 ⟨[(0, sF 0 x1), (1, I i2), (5, sF 1 x94), (6, sF 2 x95), (7, I i96), (8, pA 3 0), (28, B (decide (0 < i96)))], [nR x1, nO x94, iO x95, .cells [cI ((x1.getD i96.toNat dnod).parent), cS ((x1.getD i96.toNat dnod).name), cI ((x1.getD i96.toNat dnod).value)]]⟩ t2 (Wnt ((bindO_e hv133 (fun i141 hi141 hv133 => (W_cut (Q' := fun (e : Exit) (s : St) => e = .normal ∧ s = ⟨[(0, sF 0 x1), (1, I i2), (5, sF 1 x94), (6, sF 2 x95), (7, I i96), (8, pA 3 0)], [nR x1, nO x94, iO x95, .cells [cI i141, cS ((x1.getD i96.toNat dnod).name), cI ((x1.getD i96.toNat dnod).value)]]⟩) ?_ ?_))))))))))))))))))
       ·refine iteO_e hi141 (fun hb143 hi141 => W_true rfl hb143 ?_) (fun hb143 hi141 => W_false rfl hb143 ?_)
        ·refine W_region (guardO_e hi141 (fun hg144 hi141 => (Wp 7 [0, 1, 2, 3] [0, 1, 5, 6, 7, 8] (True ∧ ((0 ≤ (x1.getD i96.toNat dnod).parent ∧ (x1.getD i96.toNat dnod).parent < (lI x95)) ∧ T3)) ⟨[(0, sF 0 x1), (1, I i2), (5, sF 1 x94), (6, sF 2 x95), (7, I i96), (8, pA 3 0)], [nR x1, nO x94, iO x95, .cells [cI (x95.getD (((x1.getD i96.toNat dnod).parent).toNat) 0), cS ((x1.getD i96.toNat dnod).name), cI ((x1.getD i96.toNat dnod).value)]]⟩ ⟨trivial, hg144, trivial, trivial, trivial⟩ (WO_nil rfl ?_))))
         cases hi141
         exact aI rfl rfl
        ·refine Ww [0, 1, 2, 3] [0, 1, 5, 6, 7, 8] ⟨[(0, sF 0 x1), (1, I i2), (5, sF 1 x94), (6, sF 2 x95), (7, I i96), (8, pA 3 0)], [nR x1, nO x94, iO x95, .cells [cI ((x1.getD i96.toNat dnod).parent), cS ((x1.getD i96.toNat dnod).name), cI ((x1.getD i96.toNat dnod).value)]]⟩ (W_skip ?_)
         cases hi141
         exact aI rfl rfl
       ·rintro _ _ ⟨rfl, rfl⟩
        refine thenS_n (Wsr ((guardO_e hv133 (fun hg145 hv133 => (Wp 6 [0, 1, 2, 3] [0, 1, 5, 6, 7, 8] (True ∧ ((0 ≤ i96 ∧ i96 < (lI x95)) ∧ T2)) ⟨[(0, sF 0 x1), (1, I i2), (5, sF 1 x94), (6, sF 2 x95), (7, I i96), (8, pA 3 0)], [nR x1, nO x94, .row .int (x95.set i96.toNat (lI x94)) true, .cells [cI i141, cS ((x1.getD i96.toNat dnod).name), cI ((x1.getD i96.toNat dnod).value)]]⟩ ⟨trivial, hg145, trivial, trivial⟩ (WO_eq (st' := ⟨[(0, sF 0 x1), (1, I i2), (5, sF 1 x94), (6, .one (.e (.sl 2 0 ((x95.set i96.toNat (lI x94)).length)))), (7, I i96), (8, pA 3 0)], [nR x1, nO x94, .row .int (x95.set i96.toNat (lI x94)) true, .cells [cI i141, cS ((x1.getD i96.toNat dnod).name), cI ((x1.getD i96.toNat dnod).value)]]⟩) (by simp only [sF, List.length_set]) (Wnt ((W_region (guardO_e hv133 (fun hg146 hv133 => (Wp 5 [0, 5, 2] [0, 1, 5, 6, 7] (True ∧ ((0 = 0 ∧ x94.length = x94.length ∧ x94.length + (([(⟨i141, (x1.getD i96.toNat dnod).name, (x1.getD i96.toNat dnod).value⟩ : Nod)].drop 0).take ([(⟨i141, (x1.getD i96.toNat dnod).name, (x1.getD i96.toNat dnod).value⟩ : Nod)].length)).length ≤ 1099511627776) ∧ True)) ⟨[(0, sF 0 x1), (1, I i2), (5, .one (.e (.sl 1 0 ((x94 ++ (([(⟨i141, (x1.getD i96.toNat dnod).name, (x1.getD i96.toNat dnod).value⟩ : Nod)].drop 0).take ([(⟨i141, (x1.getD i96.toNat dnod).name, (x1.getD i96.toNat dnod).value⟩ : Nod)].length))).length)))), (6, .one (.e (.sl 2 0 ((x95.set i96.toNat (lI x94)).length)))), (7, I i96)], [nR x1, .row .nod (x94 ++ (([(⟨i141, (x1.getD i96.toNat dnod).name, (x1.getD i96.toNat dnod).value⟩ : Nod)].drop 0).take ([(⟨i141, (x1.getD i96.toNat dnod).name, (x1.getD i96.toNat dnod).value⟩ : Nod)].length))) true, .row .int (x95.set i96.toNat (lI x94)) true]⟩ ⟨trivial, hg146, trivial⟩ (WO_nil rfl (blockS_n ?_))))))))))))))
        cases hv133
        exact aI rfl rfl
     ·obtain ⟨x131, x132⟩ := v133
      rintro _ _ ⟨rfl, rfl⟩
      refine thenS_n (W_region (Wp 3 [0, 1, 2] [0, 1, 5, 6, 7] T2 ⟨[(0, sF 0 x1), (1, I i2), (5, sF 1 x131), (6, sF 2 x132), (7, I (w64 (i96 + 1)))], [nR x1, nO x131, iO x132]⟩ t2 (Wnt (?_))))
      exact ih _ _ _ h
    ·refine Ww [0, 1] [5] ⟨[(5, sF 1 x94)], [nR x1, nO x94]⟩ (W_exit (thenS_e (thenS_e ?_)))
     cases h
     exact aI rfl rfl

def spec_without (n : Nat) (x1 : List Nod) (i2 : Int) : Option ((List Nod)) :=
 guardO ((((x1.length : Nat) : Int) : Int) = ((x1.length : Nat) : Int) ∧ 0 ≤ ((x1.length : Nat) : Int) ∧ ((x1.length : Nat) : Int) ≤ 1099511627776) <|
 bindO (spec_without_L1 x1 i2 n ([] : List Nod) (List.replicate (((x1.length : Nat) : Int).toNat) (0 : Int)) 0) fun x116 =>
 some x116

theorem spec_without_ok (n : Nat) (x1 : List Nod) (i2 : Int) (x68 : List Nod) (h : spec_without n x1 i2 = some x68) : FOk EE 170 [sF 0 x1, I i2] [nR x1] (sF 1 x68) [nR x1, nO x68] := by
  unfold spec_without at h
  refine FOk_of_W 45 1 Tryz.func170 rfl rfl (Nat.le_of_ble_eq_true rfl) rfl (fun w X θ => ?_)
  refine Wsr ((Ws 1 [0] [0, 1] ⟨[(0, sF 0 x1), (1, I i2)], [nR x1]⟩ (Wnt ((W_seq (W_region ?_))))))
  refine Ws 2 [0, 1] [0, 1, 5] ⟨[(0, sF 0 x1), (1, I i2), (5, .one (.e (.sl 1 0 (([] : List Nod).length))))], [nR x1, nO ([] : List Nod)]⟩ (Wnt ((Wsr ((guardO_e h (fun hg69 h => (Wp 4 [0, 1, 2] [0, 1, 5, 6] (True ∧ ((((lI x1) : Int) = (lI x1) ∧ 0 ≤ (lI x1) ∧ (lI x1) ≤ 1099511627776) ∧ True)) ⟨[(0, sF 0 x1), (1, I i2), (5, .one (.e (.sl 1 0 (([] : List Nod).length)))), (6, .one (.e (.sl 2 0 ((List.replicate ((lI x1).toNat) (0 : Int)).length))))], [nR x1, nO ([] : List Nod), .row .int (List.replicate ((lI x1).toNat) (0 : Int)) true]⟩ ⟨trivial, hg69, trivial⟩ ?_)))))))
  refine Wnt ((W_seq (Wsr ((Ws 1 [0, 1, 2] [0, 1, 5, 6, 7] ⟨[(0, sF 0 x1), (1, I i2), (5, .one (.e (.sl 1 0 (([] : List Nod).length)))), (6, .one (.e (.sl 2 0 ((List.replicate ((lI x1).toNat) (0 : Int)).length)))), (7, I 0)], [nR x1, nO ([] : List Nod), .row .int (List.replicate ((lI x1).toNat) (0 : Int)) true]⟩ (WO_nil rfl ?_))))))
  refine thenS_n (W_block (W_loop (bindO_e h (fun x116 hx116 h => (WL_cut (spec_without_L1_ok w X θ x1 i2 x116 n ([] : List Nod) (List.replicate ((lI x1).toNat) (0 : Int)) 0 hx116) ?_)))))
  rintro _ _ ⟨rfl, rfl⟩
  refine blockS_y (thenS_n (Wsr ((Ws 2 [0, 1] [4] ⟨[(4, sF 1 x116)], [nR x1, nO x116]⟩ (Wnt (?_))))))
  refine W_ret ?_
  cases h
  exact ⟨[0, 1], True, by kernel_rfl, trivial⟩

/- spec.DropNode -/
def spec_DropNode (n : Nat) (x1 : List Nod) (i2 : Int) : Option ((List Nod) × Bool) :=
 bindO (spec_validTree n x1) fun b14 =>
 iteO ((!b14) || (!(spec_inRange i2 1 (w64 (((x1.length : Nat) : Int) - 1)))))
 (some (([] : List Nod), false))
 (bindO (spec_without n x1 i2) fun x21 =>
 some (x21, true))

theorem spec_DropNode_ok (n : Nat) (x1 : List Nod) (i2 : Int) (x12 : List Nod) (b13 : Bool) (h : spec_DropNode n x1 i2 = some (x12, b13)) : FOk EE 151 [sF 0 x1, I i2] [nR x1] (.tup [.e (.sl 1 0 x12.length), .e (cB b13)]) [nR x1, nO x12] := by
  unfold spec_DropNode at h
  refine FOk_of_W 20 1 Tryz.func151 rfl rfl (Nat.le_of_ble_eq_true rfl) rfl (fun w X θ => ?_)
  refine Wsr ((Ws 2 [0] [0, 1] ⟨[(0, sF 0 x1), (1, I i2)], [nR x1]⟩ (Wnt ((W_seq (W_seq ?_))))))
  refine W_region (Ws 1 [0] [0, 1, 6] ⟨[(0, sF 0 x1), (1, I i2), (6, sF 0 x1)], [nR x1]⟩ (bindO_e h (fun b14 hc15 h => (Wc [.ro 0] rfl rfl rfl Tryz.func45 rfl (spec_validTree_ok n x1 b14 hc15) (aI (aI rfl rfl) (trivial)) rfl (Ws 2 [0] [0, 1, 9] ⟨[(0, sF 0 x1), (1, I i2), (9, B (!b14))], [nR x1]⟩ (WO_thru ⟨[(0, sF 0 x1), (1, I i2), (16, B ((!b14) || (!(spec_inRange i2 1 (w64 ((lI x1) - 1))))))], [nR x1]⟩ ?_ ?_))))))
  ·refine WO_if 9 rfl (fun hb18 => ?_) (fun hb18 => ?_)
   ·refine Ws 7 [0] [0, 1, 16] ⟨[(0, sF 0 x1), (1, I i2), (16, B true)], [nR x1]⟩ ?_
    exact WO_nil rfl ⟨rfl, by first | rfl | (rw [hb18]; first | done | rfl)⟩
   ·refine Wp 4 [0] [0, 1, 9, 10, 13] T3 ⟨[(0, sF 0 x1), (1, I i2), (9, B false), (10, I i2), (13, I (w64 ((lI x1) - 1)))], [nR x1]⟩ t3 (Wc [] rfl rfl rfl Tryz.func71 rfl (spec_inRange_ok i2 1 (w64 ((lI x1) - 1))) (trivial) rfl (Ws 2 [0] [0, 1, 16] ⟨[(0, sF 0 x1), (1, I i2), (16, B (!(spec_inRange i2 1 (w64 ((lI x1) - 1)))))], [nR x1]⟩ ?_))
    exact WO_nil rfl ⟨rfl, by first | rfl | (rw [hb18]; first | done | rfl)⟩
  ·refine thenS_n (iteO_e h (fun hb20 h => W_true rfl hb20 ?_) (fun hb20 h => W_false rfl hb20 ?_))
   ·refine Wsr ((Ws 2 [0] [4, 5] ⟨[(4, .one (.e (.nsl))), (5, B false)], [nR x1]⟩ (WO_nilrow 4 .nod rfl (Wb [0, 1] [4, 5] ⟨[(4, .one (.e (.sl 1 0 (([] : List Nod).length)))), (5, B false)], [nR x1, nO ([] : List Nod)]⟩ (Wnt ((W_ret (thenS_r ?_))))))))
    cases h
    exact ⟨[0, 1], True, by kernel_rfl, trivial⟩
   ·refine Ww [0] [0, 1] ⟨[(0, sF 0 x1), (1, I i2)], [nR x1]⟩ (W_skip (thenS_n (Wsr ((Ws 2 [0] [17, 18] ⟨[(17, sF 0 x1), (18, I i2)], [nR x1]⟩ (bindO_e h (fun x21 hc22 h => (Wc [.ro 0] rfl rfl rfl Tryz.func170 rfl (spec_without_ok n x1 i2 x21 hc22) (aI (aI rfl rfl) (trivial)) rfl (Ws 2 [0, 1] [4, 5] ⟨[(4, sF 1 x21), (5, B true)], [nR x1, nO x21]⟩ (Wnt ((W_ret ?_))))))))))))
    cases h
    exact ⟨[0, 1], True, by kernel_rfl, trivial⟩

/- spec.SetValue -/
def spec_SetValue (n : Nat) (x1 : List Nod) (i2 : Int) (i3 : Int) : Option ((List Nod) × Bool) :=
 bindO (spec_validTree n x1) fun b17 =>
 iteO ((!b17) || ((!(spec_inRange i2 0 (w64 (((x1.length : Nat) : Int) - 1)))) || (!(spec_inRange i3 (-1000) 1000))))
 (some (([] : List Nod), false))
 (guardO (0 = 0 ∧ ([] : List Nod).length = ([] : List Nod).length ∧ ([] : List Nod).length + ((x1.drop 0).take x1.length).length ≤ 1099511627776) <|
 guardO (0 ≤ i2 ∧ i2 < (((([] : List Nod) ++ ((x1.drop 0).take x1.length)).length : Nat) : Int)) <|
 some (((([] : List Nod) ++ ((x1.drop 0).take x1.length)).set i2.toNat (⟨((([] : List Nod) ++ ((x1.drop 0).take x1.length)).getD i2.toNat dnod).parent, ((([] : List Nod) ++ ((x1.drop 0).take x1.length)).getD i2.toNat dnod).name, i3⟩ : Nod)), true))

theorem spec_SetValue_ok (n : Nat) (x1 : List Nod) (i2 : Int) (i3 : Int) (x15 : List Nod) (b16 : Bool) (h : spec_SetValue n x1 i2 i3 = some (x15, b16)) : FOk EE 152 [sF 0 x1, I i2, I i3] [nR x1] (.tup [.e (.sl 1 0 x15.length), .e (cB b16)]) [nR x1, nO x15] := by
  unfold spec_SetValue at h
  refine FOk_of_W 34 1 Tryz.func152 rfl rfl (Nat.le_of_ble_eq_true rfl) rfl (fun w X θ => ?_)
  refine Wsr ((Ws 2 [0] [0, 1, 2] ⟨[(0, sF 0 x1), (1, I i2), (2, I i3)], [nR x1]⟩ (Wnt ((W_seq (W_seq ?_))))))
  refine W_region (Ws 1 [0] [0, 1, 2, 9] ⟨[(0, sF 0 x1), (1, I i2), (2, I i3), (9, sF 0 x1)], [nR x1]⟩ (bindO_e h (fun b17 hc18 h => (Wc [.ro 0] rfl rfl rfl Tryz.func45 rfl (spec_validTree_ok n x1 b17 hc18) (aI (aI rfl rfl) (trivial)) rfl (Ws 2 [0] [0, 1, 2, 12] ⟨[(0, sF 0 x1), (1, I i2), (2, I i3), (12, B (!b17))], [nR x1]⟩ (WO_thru ⟨[(0, sF 0 x1), (1, I i2), (2, I i3), (24, B ((!b17) || ((!(spec_inRange i2 0 (w64 ((lI x1) - 1)))) || (!(spec_inRange i3 (-1000) 1000)))))], [nR x1]⟩ ?_ ?_))))))
  ·refine WO_if 12 rfl (fun hb22 => ?_) (fun hb22 => ?_)
   ·refine Ws 12 [0] [0, 1, 2, 24] ⟨[(0, sF 0 x1), (1, I i2), (2, I i3), (24, B true)], [nR x1]⟩ ?_
    exact WO_nil rfl ⟨rfl, by first | rfl | (rw [hb22]; first | done | rfl)⟩
   ·refine Wp 4 [0] [0, 1, 2, 12, 13, 16] T3 ⟨[(0, sF 0 x1), (1, I i2), (2, I i3), (12, B false), (13, I i2), (16, I (w64 ((lI x1) - 1)))], [nR x1]⟩ t3 (Wc [] rfl rfl rfl Tryz.func71 rfl (spec_inRange_ok i2 0 (w64 ((lI x1) - 1))) (trivial) rfl (Ws 3 [0] [0, 1, 2, 20] ⟨[(0, sF 0 x1), (1, I i2), (2, I i3), (20, B (!(spec_inRange i2 0 (w64 ((lI x1) - 1)))))], [nR x1]⟩ (WO_if 20 rfl (fun hb23 => ?_) (fun hb23 => ?_))))
    ·refine Ws 4 [0] [0, 1, 2, 24] ⟨[(0, sF 0 x1), (1, I i2), (2, I i3), (24, B true)], [nR x1]⟩ ?_
     exact WO_nil rfl ⟨rfl, by first | rfl | (simp only [hb22, hb23]; first | done | rfl)⟩
    ·refine Ws 1 [0] [0, 1, 2, 20, 21] ⟨[(0, sF 0 x1), (1, I i2), (2, I i3), (20, B false), (21, I i3)], [nR x1]⟩ (Wc [] rfl rfl rfl Tryz.func71 rfl (spec_inRange_ok i3 (-1000) 1000) (trivial) rfl (Ws 2 [0] [0, 1, 2, 24] ⟨[(0, sF 0 x1), (1, I i2), (2, I i3), (24, B (!(spec_inRange i3 (-1000) 1000)))], [nR x1]⟩ ?_))
     exact WO_nil rfl ⟨rfl, by first | rfl | (simp only [hb22, hb23]; first | done | rfl)⟩
  ·refine thenS_n (iteO_e h (fun hb25 h => W_true rfl hb25 ?_) (fun hb25 h => W_false rfl hb25 ?_))
   ·refine Wsr ((Ws 2 [0] [6, 7] ⟨[(6, .one (.e (.nsl))), (7, B false)], [nR x1]⟩ (WO_nilrow 6 .nod rfl (Wb [0, 1] [6, 7] ⟨[(6, .one (.e (.sl 1 0 (([] : List Nod).length)))), (7, B false)], [nR x1, nO ([] : List Nod)]⟩ (Wnt ((W_ret (thenS_r ?_))))))))
    cases h
    exact ⟨[0, 1], True, by kernel_rfl, trivial⟩
   ·refine Ww [0] [0, 1, 2] ⟨[(0, sF 0 x1), (1, I i2), (2, I i3)], [nR x1]⟩ (W_skip (thenS_n (Wsr ((guardO_e h (fun hg26 h => (Wp 4 [0, 2] [1, 2, 8] ((0 = 0 ∧ ([] : List Nod).length = ([] : List Nod).length ∧ ([] : List Nod).length + ((x1.drop 0).take x1.length).length ≤ 1099511627776) ∧ True) ⟨[(1, I i2), (2, I i3), (8, .one (.e (.sl 1 0 ((([] : List Nod) ++ ((x1.drop 0).take x1.length)).length))))], [nR x1, .row .nod (([] : List Nod) ++ ((x1.drop 0).take x1.length)) true]⟩ ⟨hg26, trivial⟩ (Wnt ((Wsr ((guardO_e h (fun hg27 h => (Wp 6 [0, 1] [8] ((0 ≤ i2 ∧ i2 < (((([] : List Nod) ++ ((x1.drop 0).take x1.length)).length : Nat) : Int)) ∧ T2) ⟨[(8, .one (.e (.sl 1 0 ((([] : List Nod) ++ ((x1.drop 0).take x1.length)).length))))], [nR x1, .row .nod ((([] : List Nod) ++ ((x1.drop 0).take x1.length)).set i2.toNat (⟨((([] : List Nod) ++ ((x1.drop 0).take x1.length)).getD i2.toNat dnod).parent, ((([] : List Nod) ++ ((x1.drop 0).take x1.length)).getD i2.toNat dnod).name, i3⟩ : Nod)) true]⟩ ⟨hg27, trivial, trivial⟩ (WO_eq (st' := ⟨[(8, .one (.e (.sl 1 0 (((([] : List Nod) ++ ((x1.drop 0).take x1.length)).set i2.toNat (⟨((([] : List Nod) ++ ((x1.drop 0).take x1.length)).getD i2.toNat dnod).parent, ((([] : List Nod) ++ ((x1.drop 0).take x1.length)).getD i2.toNat dnod).name, i3⟩ : Nod)).length))))], [nR x1, .row .nod ((([] : List Nod) ++ ((x1.drop 0).take x1.length)).set i2.toNat (⟨((([] : List Nod) ++ ((x1.drop 0).take x1.length)).getD i2.toNat dnod).parent, ((([] : List Nod) ++ ((x1.drop 0).take x1.length)).getD i2.toNat dnod).name, i3⟩ : Nod)) true]⟩) (by simp only [sF, List.length_set]) (Wnt ((Wsr ((Ws 3 [0, 1] [6, 7] ⟨[(6, .one (.e (.sl 1 0 (((([] : List Nod) ++ ((x1.drop 0).take x1.length)).set i2.toNat (⟨((([] : List Nod) ++ ((x1.drop 0).take x1.length)).getD i2.toNat dnod).parent, ((([] : List Nod) ++ ((x1.drop 0).take x1.length)).getD i2.toNat dnod).name, i3⟩ : Nod)).length)))), (7, B true)], [nR x1, .row .nod ((([] : List Nod) ++ ((x1.drop 0).take x1.length)).set i2.toNat (⟨((([] : List Nod) ++ ((x1.drop 0).take x1.length)).getD i2.toNat dnod).parent, ((([] : List Nod) ++ ((x1.drop 0).take x1.length)).getD i2.toNat dnod).name, i3⟩ : Nod)) true]⟩ (Wnt ((W_ret ?_)))))))))))))))))))))))
    cases h
    exact ⟨[0, 1], True, by kernel_rfl, trivial⟩

/- spec.AddNode -/
def spec_AddNode (n : Nat) (x1 : List Nod) (i2 : Int) (s3 : Str) (i4 : Int) : Option ((List Nod) × Int × Bool) :=
 bindO (spec_validTree n x1) fun b21 =>
 iteO ((!b21) || (decide (((x1.length : Nat) : Int) = 12)))
 (some (([] : List Nod), (-1), false))
 (guardO (0 = 0 ∧ ([] : List Nod).length = ([] : List Nod).length ∧ ([] : List Nod).length + ((x1.drop 0).take x1.length).length ≤ 1099511627776) <|
 guardO (0 = 0 ∧ (([] : List Nod) ++ ((x1.drop 0).take x1.length)).length = (([] : List Nod) ++ ((x1.drop 0).take x1.length)).length ∧ (([] : List Nod) ++ ((x1.drop 0).take x1.length)).length + (([(⟨i2, s3, i4⟩ : Nod)].drop 0).take ([(⟨i2, s3, i4⟩ : Nod)].length)).length ≤ 1099511627776) <|
 bindO (spec_validTree n ((([] : List Nod) ++ ((x1.drop 0).take x1.length)) ++ (([(⟨i2, s3, i4⟩ : Nod)].drop 0).take ([(⟨i2, s3, i4⟩ : Nod)].length)))) fun b30 =>
 iteO (!b30)
 (some (([] : List Nod), (-1), false))
 (some (((([] : List Nod) ++ ((x1.drop 0).take x1.length)) ++ (([(⟨i2, s3, i4⟩ : Nod)].drop 0).take ([(⟨i2, s3, i4⟩ : Nod)].length))), ((x1.length : Nat) : Int), true)))

theorem spec_AddNode_ok (n : Nat) (x1 : List Nod) (i2 : Int) (s3 : Str) (i4 : Int) (x18 : List Nod) (i19 : Int) (b20 : Bool) (h : spec_AddNode n x1 i2 s3 i4 = some (x18, i19, b20)) : FOk EE 97 [sF 0 x1, I i2, S s3, I i4] [nR x1] (.tup [.e (.sl 1 0 x18.length), .e (cI i19), .e (cB b20)]) [nR x1, nO x18] := by
  unfold spec_AddNode at h
  refine FOk_of_W 35 1 Tryz.func97 rfl rfl (Nat.le_of_ble_eq_true rfl) rfl (fun w X θ => ?_)
  refine Wsr ((Ws 3 [0] [0, 1, 2, 3] ⟨[(0, sF 0 x1), (1, I i2), (2, S s3), (3, I i4)], [nR x1]⟩ (Wnt ((W_seq (W_seq ?_))))))
  refine W_region (Ws 1 [0] [0, 1, 2, 3, 12] ⟨[(0, sF 0 x1), (1, I i2), (2, S s3), (3, I i4), (12, sF 0 x1)], [nR x1]⟩ (bindO_e h (fun b21 hc22 h => (Wc [.ro 0] rfl rfl rfl Tryz.func45 rfl (spec_validTree_ok n x1 b21 hc22) (aI (aI rfl rfl) (trivial)) rfl (Ws 2 [0] [0, 1, 2, 3, 15] ⟨[(0, sF 0 x1), (1, I i2), (2, S s3), (3, I i4), (15, B (!b21))], [nR x1]⟩ (WO_thru ⟨[(0, sF 0 x1), (1, I i2), (2, S s3), (3, I i4), (19, B ((!b21) || (decide ((lI x1) = 12))))], [nR x1]⟩ ?_ ?_))))))
  ·refine WO_if 15 rfl (fun hb25 => ?_) (fun hb25 => ?_)
   ·refine Ws 4 [0] [0, 1, 2, 3, 19] ⟨[(0, sF 0 x1), (1, I i2), (2, S s3), (3, I i4), (19, B true)], [nR x1]⟩ ?_
    exact WO_nil rfl ⟨rfl, by first | rfl | (rw [hb25]; first | done | rfl)⟩
   ·refine Wp 4 [0] [0, 1, 2, 3, 19] T3 ⟨[(0, sF 0 x1), (1, I i2), (2, S s3), (3, I i4), (19, B (decide ((lI x1) = 12)))], [nR x1]⟩ t3 ?_
    exact WO_nil rfl ⟨rfl, by first | rfl | (rw [hb25]; first | done | rfl)⟩
  ·refine thenS_n (iteO_e h (fun hb27 h => W_true rfl hb27 ?_) (fun hb27 h => W_false rfl hb27 ?_))
   ·refine Wsr ((Ws 3 [0] [8, 9, 10] ⟨[(8, .one (.e (.nsl))), (9, I (-1)), (10, B false)], [nR x1]⟩ (WO_nilrow 8 .nod rfl (Wb [0, 1] [8, 9, 10] ⟨[(8, .one (.e (.sl 1 0 (([] : List Nod).length)))), (9, I (-1)), (10, B false)], [nR x1, nO ([] : List Nod)]⟩ (Wnt ((W_ret (thenS_r ?_))))))))
    cases h
    exact ⟨[0, 1], True, by kernel_rfl, trivial⟩
   ·refine Ww [0] [0, 1, 2, 3] ⟨[(0, sF 0 x1), (1, I i2), (2, S s3), (3, I i4)], [nR x1]⟩ (W_skip (thenS_n (Wsr ((guardO_e h (fun hg28 h => (guardO_e h (fun hg29 h => (Wp 10 [0, 4] [0, 11] ((0 = 0 ∧ ([] : List Nod).length = ([] : List Nod).length ∧ ([] : List Nod).length + ((x1.drop 0).take x1.length).length ≤ 1099511627776) ∧ ((0 = 0 ∧ (([] : List Nod) ++ ((x1.drop 0).take x1.length)).length = (([] : List Nod) ++ ((x1.drop 0).take x1.length)).length ∧ (([] : List Nod) ++ ((x1.drop 0).take x1.length)).length + (([(⟨i2, s3, i4⟩ : Nod)].drop 0).take ([(⟨i2, s3, i4⟩ : Nod)].length)).length ≤ 1099511627776) ∧ True)) ⟨[(0, sF 0 x1), (11, .one (.e (.sl 1 0 (((([] : List Nod) ++ ((x1.drop 0).take x1.length)) ++ (([(⟨i2, s3, i4⟩ : Nod)].drop 0).take ([(⟨i2, s3, i4⟩ : Nod)].length))).length))))], [nR x1, .row .nod ((([] : List Nod) ++ ((x1.drop 0).take x1.length)) ++ (([(⟨i2, s3, i4⟩ : Nod)].drop 0).take ([(⟨i2, s3, i4⟩ : Nod)].length))) true]⟩ ⟨hg28, hg29, trivial⟩ (Wnt ((W_seq (Wsr ((Ws 1 [0, 1] [0, 11, 29] ⟨[(0, sF 0 x1), (11, .one (.e (.sl 1 0 (((([] : List Nod) ++ ((x1.drop 0).take x1.length)) ++ (([(⟨i2, s3, i4⟩ : Nod)].drop 0).take ([(⟨i2, s3, i4⟩ : Nod)].length))).length)))), (29, .one (.e (.sl 1 0 (((([] : List Nod) ++ ((x1.drop 0).take x1.length)) ++ (([(⟨i2, s3, i4⟩ : Nod)].drop 0).take ([(⟨i2, s3, i4⟩ : Nod)].length))).length))))], [nR x1, .row .nod ((([] : List Nod) ++ ((x1.drop 0).take x1.length)) ++ (([(⟨i2, s3, i4⟩ : Nod)].drop 0).take ([(⟨i2, s3, i4⟩ : Nod)].length))) true]⟩ (bindO_e h (fun b30 hc31 h => (Wc [.ro 1] rfl rfl rfl Tryz.func45 rfl (spec_validTree_ok n ((([] : List Nod) ++ ((x1.drop 0).take x1.length)) ++ (([(⟨i2, s3, i4⟩ : Nod)].drop 0).take ([(⟨i2, s3, i4⟩ : Nod)].length))) b30 hc31) (aI (aI rfl rfl) (trivial)) rfl (Ws 1 [0, 1] [0, 11, 31] ⟨[(0, sF 0 x1), (11, .one (.e (.sl 1 0 (((([] : List Nod) ++ ((x1.drop 0).take x1.length)) ++ (([(⟨i2, s3, i4⟩ : Nod)].drop 0).take ([(⟨i2, s3, i4⟩ : Nod)].length))).length)))), (31, B (!b30))], [nR x1, .row .nod ((([] : List Nod) ++ ((x1.drop 0).take x1.length)) ++ (([(⟨i2, s3, i4⟩ : Nod)].drop 0).take ([(⟨i2, s3, i4⟩ : Nod)].length))) true]⟩ (Wnt ((iteO_e h (fun hb33 h => W_true rfl hb33 ?_) (fun hb33 h => W_false rfl hb33 ?_)))))))))))))))))))))))
    ·refine Wsr ((Ws 3 [0] [8, 9, 10] ⟨[(8, .one (.e (.nsl))), (9, I (-1)), (10, B false)], [nR x1]⟩ (WO_nilrow 8 .nod rfl (Wb [0, 1] [8, 9, 10] ⟨[(8, .one (.e (.sl 1 0 (([] : List Nod).length)))), (9, I (-1)), (10, B false)], [nR x1, nO ([] : List Nod)]⟩ (Wnt ((W_ret (thenS_r ?_))))))))
     cases h
     exact ⟨[0, 1], True, by kernel_rfl, trivial⟩
    ·refine Ww [0, 1] [0, 11] ⟨[(0, sF 0 x1), (11, .one (.e (.sl 1 0 (((([] : List Nod) ++ ((x1.drop 0).take x1.length)) ++ (([(⟨i2, s3, i4⟩ : Nod)].drop 0).take ([(⟨i2, s3, i4⟩ : Nod)].length))).length))))], [nR x1, .row .nod ((([] : List Nod) ++ ((x1.drop 0).take x1.length)) ++ (([(⟨i2, s3, i4⟩ : Nod)].drop 0).take ([(⟨i2, s3, i4⟩ : Nod)].length))) true]⟩ (W_skip (thenS_n (Wsr ((Wp 6 [0, 1] [8, 9, 10] T2 ⟨[(8, .one (.e (.sl 1 0 (((([] : List Nod) ++ ((x1.drop 0).take x1.length)) ++ (([(⟨i2, s3, i4⟩ : Nod)].drop 0).take ([(⟨i2, s3, i4⟩ : Nod)].length))).length)))), (9, I (lI x1)), (10, B true)], [nR x1, .row .nod ((([] : List Nod) ++ ((x1.drop 0).take x1.length)) ++ (([(⟨i2, s3, i4⟩ : Nod)].drop 0).take ([(⟨i2, s3, i4⟩ : Nod)].length))) true]⟩ t2 (Wnt ((W_ret ?_))))))))
     cases h
     exact ⟨[0, 1], True, by kernel_rfl, trivial⟩

/- spec.apply -/
def spec_apply (n : Nat) (x1 : List Nod) (x2 : Edt) : Option ((List Nod) × Bool) :=
 bindO (spec_resolve n x1 x2.path) fun i53 =>
 iteO ((decide (x2.kind = 1)) && (decide (x2.value = 0)))
 (bindO (spec_DropNode n x1 i53) fun (x64, b65) =>
 some (x64, b65))
 (iteO (!decide (x2.kind = 0))
 (some (([] : List Nod), false))
 (iteO (decide (0 ≤ i53))
 (bindO (spec_SetValue n x1 i53 x2.value) fun (x76, b77) =>
 some (x76, b77))
 (bindO (spec_cut n x2.path) fun (s80, s81) =>
 bindO (spec_resolve n x1 s80) fun i83 =>
 bindO (spec_AddNode n x1 i83 s81 x2.value) fun (x85, i86, b87) =>
 bindO (iteO (!b87)
 (some true)
 (bindO (spec_resolve n x85 x2.path) fun i96 =>
 some (decide (i96 < 0)))) fun b93 =>
 iteO b93
 (some (([] : List Nod), false))
 (some (x85, true)))))

theorem spec_apply_ok (n : Nat) (x1 : List Nod) (x2 : Edt) (x51 : List Nod) (b52 : Bool) (h : spec_apply n x1 x2 = some (x51, b52)) : FOk EE 126 [sF 0 x1, AGG [cI x2.kind, cS x2.path, cI x2.value]] [nR x1] (.tup [.e (.sl 1 0 x51.length), .e (cB b52)]) [nR x1, nO x51] := by
  unfold spec_apply at h
  refine FOk_of_W 69 1 Tryz.func126 rfl rfl (Nat.le_of_ble_eq_true rfl) rfl (fun w X θ => ?_)
  refine Wsr ((Wp 3 [0, 1] [0, 3] T2 ⟨[(0, sF 0 x1), (3, pA 1 0)], [nR x1, .cells [cI x2.kind, cS x2.path, cI x2.value]]⟩ t2 (Wnt ((W_seq (W_region ?_))))))
  refine Wp 3 [0, 1] [0, 3, 12, 14] T2 ⟨[(0, sF 0 x1), (3, pA 1 0), (12, sF 0 x1), (14, S x2.path)], [nR x1, .cells [cI x2.kind, cS x2.path, cI x2.value]]⟩ t2 (bindO_e h (fun i53 hc54 h => (Wc [.ro 0] rfl rfl rfl Tryz.func44 rfl (spec_resolve_ok n x1 x2.path i53 hc54) (aI (aI rfl rfl) (trivial)) rfl (Ws 1 [0, 1] [0, 3, 6] ⟨[(0, sF 0 x1), (3, pA 1 0), (6, I i53)], [nR x1, .cells [cI x2.kind, cS x2.path, cI x2.value]]⟩ (Wnt ((W_seq ?_)))))))
  refine Wsr ((Wp 4 [0, 1] [0, 3, 6, 19] T3 ⟨[(0, sF 0 x1), (3, pA 1 0), (6, I i53), (19, B (decide (x2.kind = 1)))], [nR x1, .cells [cI x2.kind, cS x2.path, cI x2.value]]⟩ t3 (WO_thru ⟨[(0, sF 0 x1), (3, pA 1 0), (6, I i53), (23, B ((decide (x2.kind = 1)) && (decide (x2.value = 0))))], [nR x1, .cells [cI x2.kind, cS x2.path, cI x2.value]]⟩ ?_ ?_)))
  ·refine WO_if 19 rfl (fun hb57 => ?_) (fun hb57 => ?_)
   ·refine Wp 4 [0, 1] [0, 3, 6, 23] T3 ⟨[(0, sF 0 x1), (3, pA 1 0), (6, I i53), (23, B (decide (x2.value = 0)))], [nR x1, .cells [cI x2.kind, cS x2.path, cI x2.value]]⟩ t3 ?_
    exact WO_nil rfl ⟨rfl, by first | rfl | (rw [hb57]; first | done | rfl)⟩
   ·refine Ws 4 [0, 1] [0, 3, 6, 23] ⟨[(0, sF 0 x1), (3, pA 1 0), (6, I i53), (23, B false)], [nR x1, .cells [cI x2.kind, cS x2.path, cI x2.value]]⟩ ?_
    exact WO_nil rfl ⟨rfl, by first | rfl | (rw [hb57]; first | done | rfl)⟩
  ·refine thenS_n (iteO_e h (fun hb63 h => W_true rfl hb63 ?_) (fun hb63 h => W_false rfl hb63 ?_))
   ·refine Wsr ((Ws 2 [0] [24, 25] ⟨[(24, sF 0 x1), (25, I i53)], [nR x1]⟩ (bindO_e h (fun v67 hc66 h => ?_))))
    obtain ⟨x64, b65⟩ := v67
    refine Wc [.ro 0] rfl rfl rfl Tryz.func151 rfl (spec_DropNode_ok n x1 i53 x64 b65 hc66) (aI (aI rfl rfl) (trivial)) rfl (Ws 4 [0, 1] [4, 5] ⟨[(4, sF 1 x64), (5, B b65)], [nR x1, nO x64]⟩ (Wnt ((W_ret (thenS_r ?_)))))
    cases h
    exact ⟨[0, 1], True, by kernel_rfl, trivial⟩
   ·refine Ww [0, 1] [0, 3, 6] ⟨[(0, sF 0 x1), (3, pA 1 0), (6, I i53)], [nR x1, .cells [cI x2.kind, cS x2.path, cI x2.value]]⟩ (W_skip (thenS_n (W_seq (Wsr ((Wp 3 [0, 1] [0, 3, 6, 31] T3 ⟨[(0, sF 0 x1), (3, pA 1 0), (6, I i53), (31, B (!decide (x2.kind = 0)))], [nR x1, .cells [cI x2.kind, cS x2.path, cI x2.value]]⟩ t3 (Wnt ((iteO_e h (fun hb69 h => W_true rfl hb69 ?_) (fun hb69 h => W_false rfl hb69 ?_))))))))))
    ·refine Wsr ((Ws 2 [0] [4, 5] ⟨[(4, .one (.e (.nsl))), (5, B false)], [nR x1]⟩ (WO_nilrow 4 .nod rfl (Wb [0, 1] [4, 5] ⟨[(4, .one (.e (.sl 1 0 (([] : List Nod).length)))), (5, B false)], [nR x1, nO ([] : List Nod)]⟩ (Wnt ((W_ret (thenS_r ?_))))))))
     cases h
     exact ⟨[0, 1], True, by kernel_rfl, trivial⟩
    ·refine Ww [0, 1] [0, 3, 6] ⟨[(0, sF 0 x1), (3, pA 1 0), (6, I i53)], [nR x1, .cells [cI x2.kind, cS x2.path, cI x2.value]]⟩ (W_skip (thenS_n (W_seq (Wsr ((Wp 2 [0, 1] [0, 3, 6, 33] T2 ⟨[(0, sF 0 x1), (3, pA 1 0), (6, I i53), (33, B (decide (0 ≤ i53)))], [nR x1, .cells [cI x2.kind, cS x2.path, cI x2.value]]⟩ t2 (Wnt ((iteO_e h (fun hb75 h => W_true rfl hb75 ?_) (fun hb75 h => W_false rfl hb75 ?_))))))))))
     ·refine Wsr ((Wp 4 [0] [34, 35, 37] T2 ⟨[(34, sF 0 x1), (35, I i53), (37, I x2.value)], [nR x1]⟩ t2 (bindO_e h (fun v79 hc78 h => ?_))))
      obtain ⟨x76, b77⟩ := v79
      refine Wc [.ro 0] rfl rfl rfl Tryz.func152 rfl (spec_SetValue_ok n x1 i53 x2.value x76 b77 hc78) (aI (aI rfl rfl) (trivial)) rfl (Ws 4 [0, 1] [4, 5] ⟨[(4, sF 1 x76), (5, B b77)], [nR x1, nO x76]⟩ (Wnt ((W_ret (thenS_r ?_)))))
      cases h
      exact ⟨[0, 1], True, by kernel_rfl, trivial⟩
     ·refine Ww [0, 1] [0, 3] ⟨[(0, sF 0 x1), (3, pA 1 0)], [nR x1, .cells [cI x2.kind, cS x2.path, cI x2.value]]⟩ (W_skip (thenS_n (Wsr ((Wp 2 [0, 1] [0, 3, 43] T2 ⟨[(0, sF 0 x1), (3, pA 1 0), (43, S x2.path)], [nR x1, .cells [cI x2.kind, cS x2.path, cI x2.value]]⟩ t2 (bindO_e h (fun v100 hc82 h => ?_)))))))
      obtain ⟨s80, s81⟩ := v100
      refine Wc [] rfl rfl rfl Tryz.func43 rfl (spec_cut_ok n x2.path s80 s81 hc82) (trivial) rfl (Ws 5 [0, 1] [0, 3, 7, 8] ⟨[(0, sF 0 x1), (3, pA 1 0), (7, S s80), (8, S s81)], [nR x1, .cells [cI x2.kind, cS x2.path, cI x2.value]]⟩ (Wnt ((W_seq (bindO_e h (fun i83 hc84 h => (bindO_e h (fun v89 hc88 h => ?_))))))))
      obtain ⟨x85, i86, b87⟩ := v89
      refine W_cut (Q' := fun (e : Exit) (s : St) => e = .normal ∧ s = ⟨[(3, pA 1 0), (9, sF 2 x85), (11, B b87)], [nR x1, .cells [cI x2.kind, cS x2.path, cI x2.value], nO x85]⟩) ?_ ?_
      ·refine W_draw [] false (by kernel_rfl) (by kernel_rfl) (WD_takeQ [0, 1, 2, 4, 5, 6] [3, 48, 49, 50, 52, 54] [3, 48, 49, 50, 52, 54] (φ := (True ∧ True ∧ True)) (ls' := (tf true [3, 1, 3, 8])) (st' := ⟨[(3, pA 1 0), (48, sF 0 x1), (49, sF 0 x1), (50, S s80), (52, S s81), (54, I x2.value)], [nR x1, .cells [cI x2.kind, cS x2.path, cI x2.value]]⟩) (n2 := 9) (by kernel_rfl) t3 rfl (WD_all [3] (n := 8) (by kernel_rfl) rfl (WM_call [.ro 0] Tryz.f44 rfl rfl (by kernel_rfl) Tryz.func44 rfl (by kernel_rfl) (spec_resolve_ok n x1 s80 i83 hc84) (aI (aI rfl rfl) (trivial)) rfl (aI rfl (aI (aI rfl rfl) (trivial))) (WD_all [7] (n := 7) (by kernel_rfl) rfl (WM_call [.ro 0] Tryz.f97 rfl rfl (by kernel_rfl) Tryz.func97 rfl (by kernel_rfl) (spec_AddNode_ok n x1 i83 s81 x2.value x85 i86 b87 hc88) (aI (aI rfl rfl) (trivial)) rfl (aI rfl (aI (aI rfl rfl) (trivial))) (WD_all [8] (n := 6) (by kernel_rfl) rfl (WM_op (φ := True) (v := .tup [.e (.sl 2 0 x85.length), .e (cI i86), .e (cB b87)]) (H' := [nR x1, .cells [cI x2.kind, cS x2.path, cI x2.value], nO x85]) rfl rfl (by kernel_rfl) trivial rfl (aI rfl (aI (aI rfl rfl) (trivial))) (WD_all [9, 10, 11] (n := 5) (by kernel_rfl) rfl (aI ?_ (aI ?_ (?_)))))))))))
       ·refine WM_op (φ := True) (v := sF 2 x85) (H' := [nR x1, .cells [cI x2.kind, cS x2.path, cI x2.value], nO x85]) rfl rfl (by kernel_rfl) trivial rfl (aI rfl (aI (aI rfl rfl) (trivial))) (WD_all [10, 11, 12] (n := 4) (by kernel_rfl) rfl (aI ?_ (aI ?_ (?_))))
        ·refine WM_op (φ := True) (v := I i86) (H' := [nR x1, .cells [cI x2.kind, cS x2.path, cI x2.value], nO x85]) rfl rfl (by kernel_rfl) trivial rfl (aI rfl (aI (aI rfl rfl) (trivial))) (WD_all [11, 12] (n := 3) (by kernel_rfl) rfl (aI ?_ (?_)))
         ·refine WM_op (φ := True) (v := B b87) (H' := [nR x1, .cells [cI x2.kind, cS x2.path, cI x2.value], nO x85]) rfl rfl (by kernel_rfl) trivial rfl (aI rfl (aI (aI rfl rfl) (trivial))) (WD_all [12] (n := 2) (by kernel_rfl) rfl (WM_op (φ := True) (v := sF 2 x85) (H' := [nR x1, .cells [cI x2.kind, cS x2.path, cI x2.value], nO x85]) rfl rfl (by kernel_rfl) trivial rfl (aI rfl (aI (aI rfl rfl) (trivial))) (WD_takeK [13, 14] [3, 11] [3, 9, 11] (φ := True) (ls' := (tf true [15])) (Ts' := [(3, pA 1 0), (11, B b87)]) (st' := ⟨[(3, pA 1 0), (9, sF 2 x85), (11, B b87)], [nR x1, .cells [cI x2.kind, cS x2.path, cI x2.value], nO x85]⟩) (n2 := 0) (by kernel_rfl) trivial rfl ?_)))
          exact WD_done [0, 1, 2] [3, 9, 11] (st' := ⟨[(3, pA 1 0), (9, sF 2 x85), (11, B b87)], [nR x1, .cells [cI x2.kind, cS x2.path, cI x2.value], nO x85]⟩) (by kernel_rfl) (by kernel_rfl) (aI rfl rfl)
         ·refine WM_op (φ := True) (v := sF 2 x85) (H' := [nR x1, .cells [cI x2.kind, cS x2.path, cI x2.value], nO x85]) rfl rfl (by kernel_rfl) trivial rfl (aI rfl (aI (aI rfl rfl) (trivial))) (WD_takeK [13] [3] [3, 9, 47] (φ := True) (ls' := (tf true [11, 1, 2, 1])) (Ts' := [(3, pA 1 0)]) (st' := ⟨[(3, pA 1 0), (9, sF 2 x85), (47, .tup [.e (.sl 2 0 x85.length), .e (cI i86), .e (cB b87)])], [nR x1, .cells [cI x2.kind, cS x2.path, cI x2.value], nO x85]⟩) (n2 := 2) (by kernel_rfl) trivial rfl (WD_all [11] (n := 1) (by kernel_rfl) rfl (WM_op (φ := True) (v := B b87) (H' := [nR x1, .cells [cI x2.kind, cS x2.path, cI x2.value], nO x85]) rfl rfl (by kernel_rfl) trivial rfl (aI rfl (aI (aI rfl rfl) (trivial))) (WD_takeK [14] [3, 11] [3, 9, 11] (φ := True) (ls' := (tf true [15])) (Ts' := [(3, pA 1 0), (11, B b87)]) (st' := ⟨[(3, pA 1 0), (9, sF 2 x85), (11, B b87)], [nR x1, .cells [cI x2.kind, cS x2.path, cI x2.value], nO x85]⟩) (n2 := 0) (by kernel_rfl) trivial rfl ?_))))
          exact WD_done [0, 1, 2] [3, 9, 11] (st' := ⟨[(3, pA 1 0), (9, sF 2 x85), (11, B b87)], [nR x1, .cells [cI x2.kind, cS x2.path, cI x2.value], nO x85]⟩) (by kernel_rfl) (by kernel_rfl) (aI rfl rfl)
        ·refine WM_op (φ := True) (v := B b87) (H' := [nR x1, .cells [cI x2.kind, cS x2.path, cI x2.value], nO x85]) rfl rfl (by kernel_rfl) trivial rfl (aI rfl (aI (aI rfl rfl) (trivial))) (WD_all [10, 12] (n := 3) (by kernel_rfl) rfl (aI ?_ (?_)))
         ·refine WM_op (φ := True) (v := I i86) (H' := [nR x1, .cells [cI x2.kind, cS x2.path, cI x2.value], nO x85]) rfl rfl (by kernel_rfl) trivial rfl (aI rfl (aI (aI rfl rfl) (trivial))) (WD_all [12] (n := 2) (by kernel_rfl) rfl (WM_op (φ := True) (v := sF 2 x85) (H' := [nR x1, .cells [cI x2.kind, cS x2.path, cI x2.value], nO x85]) rfl rfl (by kernel_rfl) trivial rfl (aI rfl (aI (aI rfl rfl) (trivial))) (WD_takeK [13, 14] [3, 11] [3, 9, 11] (φ := True) (ls' := (tf true [15])) (Ts' := [(3, pA 1 0), (11, B b87)]) (st' := ⟨[(3, pA 1 0), (9, sF 2 x85), (11, B b87)], [nR x1, .cells [cI x2.kind, cS x2.path, cI x2.value], nO x85]⟩) (n2 := 0) (by kernel_rfl) trivial rfl ?_)))
          exact WD_done [0, 1, 2] [3, 9, 11] (st' := ⟨[(3, pA 1 0), (9, sF 2 x85), (11, B b87)], [nR x1, .cells [cI x2.kind, cS x2.path, cI x2.value], nO x85]⟩) (by kernel_rfl) (by kernel_rfl) (aI rfl rfl)
         ·refine WM_op (φ := True) (v := sF 2 x85) (H' := [nR x1, .cells [cI x2.kind, cS x2.path, cI x2.value], nO x85]) rfl rfl (by kernel_rfl) trivial rfl (aI rfl (aI (aI rfl rfl) (trivial))) (WD_all [10] (n := 2) (by kernel_rfl) rfl (WM_op (φ := True) (v := I i86) (H' := [nR x1, .cells [cI x2.kind, cS x2.path, cI x2.value], nO x85]) rfl rfl (by kernel_rfl) trivial rfl (aI rfl (aI (aI rfl rfl) (trivial))) (WD_takeK [13, 14] [3, 11] [3, 9, 11] (φ := True) (ls' := (tf true [15])) (Ts' := [(3, pA 1 0), (11, B b87)]) (st' := ⟨[(3, pA 1 0), (9, sF 2 x85), (11, B b87)], [nR x1, .cells [cI x2.kind, cS x2.path, cI x2.value], nO x85]⟩) (n2 := 0) (by kernel_rfl) trivial rfl ?_)))
          exact WD_done [0, 1, 2] [3, 9, 11] (st' := ⟨[(3, pA 1 0), (9, sF 2 x85), (11, B b87)], [nR x1, .cells [cI x2.kind, cS x2.path, cI x2.value], nO x85]⟩) (by kernel_rfl) (by kernel_rfl) (aI rfl rfl)
        ·refine WM_op (φ := True) (v := sF 2 x85) (H' := [nR x1, .cells [cI x2.kind, cS x2.path, cI x2.value], nO x85]) rfl rfl (by kernel_rfl) trivial rfl (aI rfl (aI (aI rfl rfl) (trivial))) (WD_all [10, 11] (n := 3) (by kernel_rfl) rfl (aI ?_ (?_)))
         ·refine WM_op (φ := True) (v := I i86) (H' := [nR x1, .cells [cI x2.kind, cS x2.path, cI x2.value], nO x85]) rfl rfl (by kernel_rfl) trivial rfl (aI rfl (aI (aI rfl rfl) (trivial))) (WD_takeK [13] [3] [3, 9, 47] (φ := True) (ls' := (tf true [11, 1, 2, 1])) (Ts' := [(3, pA 1 0)]) (st' := ⟨[(3, pA 1 0), (9, sF 2 x85), (47, .tup [.e (.sl 2 0 x85.length), .e (cI i86), .e (cB b87)])], [nR x1, .cells [cI x2.kind, cS x2.path, cI x2.value], nO x85]⟩) (n2 := 2) (by kernel_rfl) trivial rfl (WD_all [11] (n := 1) (by kernel_rfl) rfl (WM_op (φ := True) (v := B b87) (H' := [nR x1, .cells [cI x2.kind, cS x2.path, cI x2.value], nO x85]) rfl rfl (by kernel_rfl) trivial rfl (aI rfl (aI (aI rfl rfl) (trivial))) (WD_takeK [14] [3, 11] [3, 9, 11] (φ := True) (ls' := (tf true [15])) (Ts' := [(3, pA 1 0), (11, B b87)]) (st' := ⟨[(3, pA 1 0), (9, sF 2 x85), (11, B b87)], [nR x1, .cells [cI x2.kind, cS x2.path, cI x2.value], nO x85]⟩) (n2 := 0) (by kernel_rfl) trivial rfl ?_))))
          exact WD_done [0, 1, 2] [3, 9, 11] (st' := ⟨[(3, pA 1 0), (9, sF 2 x85), (11, B b87)], [nR x1, .cells [cI x2.kind, cS x2.path, cI x2.value], nO x85]⟩) (by kernel_rfl) (by kernel_rfl) (aI rfl rfl)
         ·refine WM_op (φ := True) (v := B b87) (H' := [nR x1, .cells [cI x2.kind, cS x2.path, cI x2.value], nO x85]) rfl rfl (by kernel_rfl) trivial rfl (aI rfl (aI (aI rfl rfl) (trivial))) (WD_all [10] (n := 2) (by kernel_rfl) rfl (WM_op (φ := True) (v := I i86) (H' := [nR x1, .cells [cI x2.kind, cS x2.path, cI x2.value], nO x85]) rfl rfl (by kernel_rfl) trivial rfl (aI rfl (aI (aI rfl rfl) (trivial))) (WD_takeK [13, 14] [3, 11] [3, 9, 11] (φ := True) (ls' := (tf true [15])) (Ts' := [(3, pA 1 0), (11, B b87)]) (st' := ⟨[(3, pA 1 0), (9, sF 2 x85), (11, B b87)], [nR x1, .cells [cI x2.kind, cS x2.path, cI x2.value], nO x85]⟩) (n2 := 0) (by kernel_rfl) trivial rfl ?_)))
          exact WD_done [0, 1, 2] [3, 9, 11] (st' := ⟨[(3, pA 1 0), (9, sF 2 x85), (11, B b87)], [nR x1, .cells [cI x2.kind, cS x2.path, cI x2.value], nO x85]⟩) (by kernel_rfl) (by kernel_rfl) (aI rfl rfl)
       ·refine WM_op (φ := True) (v := I i86) (H' := [nR x1, .cells [cI x2.kind, cS x2.path, cI x2.value], nO x85]) rfl rfl (by kernel_rfl) trivial rfl (aI rfl (aI (aI rfl rfl) (trivial))) (WD_all [9, 11] (n := 4) (by kernel_rfl) rfl (aI ?_ (?_)))
        ·refine WM_op (φ := True) (v := sF 2 x85) (H' := [nR x1, .cells [cI x2.kind, cS x2.path, cI x2.value], nO x85]) rfl rfl (by kernel_rfl) trivial rfl (aI rfl (aI (aI rfl rfl) (trivial))) (WD_all [11, 12] (n := 3) (by kernel_rfl) rfl (aI ?_ (?_)))
         ·refine WM_op (φ := True) (v := B b87) (H' := [nR x1, .cells [cI x2.kind, cS x2.path, cI x2.value], nO x85]) rfl rfl (by kernel_rfl) trivial rfl (aI rfl (aI (aI rfl rfl) (trivial))) (WD_all [12] (n := 2) (by kernel_rfl) rfl (WM_op (φ := True) (v := sF 2 x85) (H' := [nR x1, .cells [cI x2.kind, cS x2.path, cI x2.value], nO x85]) rfl rfl (by kernel_rfl) trivial rfl (aI rfl (aI (aI rfl rfl) (trivial))) (WD_takeK [13, 14] [3, 11] [3, 9, 11] (φ := True) (ls' := (tf true [15])) (Ts' := [(3, pA 1 0), (11, B b87)]) (st' := ⟨[(3, pA 1 0), (9, sF 2 x85), (11, B b87)], [nR x1, .cells [cI x2.kind, cS x2.path, cI x2.value], nO x85]⟩) (n2 := 0) (by kernel_rfl) trivial rfl ?_)))
          exact WD_done [0, 1, 2] [3, 9, 11] (st' := ⟨[(3, pA 1 0), (9, sF 2 x85), (11, B b87)], [nR x1, .cells [cI x2.kind, cS x2.path, cI x2.value], nO x85]⟩) (by kernel_rfl) (by kernel_rfl) (aI rfl rfl)
         ·refine WM_op (φ := True) (v := sF 2 x85) (H' := [nR x1, .cells [cI x2.kind, cS x2.path, cI x2.value], nO x85]) rfl rfl (by kernel_rfl) trivial rfl (aI rfl (aI (aI rfl rfl) (trivial))) (WD_takeK [13] [3] [3, 9, 47] (φ := True) (ls' := (tf true [11, 1, 2, 1])) (Ts' := [(3, pA 1 0)]) (st' := ⟨[(3, pA 1 0), (9, sF 2 x85), (47, .tup [.e (.sl 2 0 x85.length), .e (cI i86), .e (cB b87)])], [nR x1, .cells [cI x2.kind, cS x2.path, cI x2.value], nO x85]⟩) (n2 := 2) (by kernel_rfl) trivial rfl (WD_all [11] (n := 1) (by kernel_rfl) rfl (WM_op (φ := True) (v := B b87) (H' := [nR x1, .cells [cI x2.kind, cS x2.path, cI x2.value], nO x85]) rfl rfl (by kernel_rfl) trivial rfl (aI rfl (aI (aI rfl rfl) (trivial))) (WD_takeK [14] [3, 11] [3, 9, 11] (φ := True) (ls' := (tf true [15])) (Ts' := [(3, pA 1 0), (11, B b87)]) (st' := ⟨[(3, pA 1 0), (9, sF 2 x85), (11, B b87)], [nR x1, .cells [cI x2.kind, cS x2.path, cI x2.value], nO x85]⟩) (n2 := 0) (by kernel_rfl) trivial rfl ?_))))
          exact WD_done [0, 1, 2] [3, 9, 11] (st' := ⟨[(3, pA 1 0), (9, sF 2 x85), (11, B b87)], [nR x1, .cells [cI x2.kind, cS x2.path, cI x2.value], nO x85]⟩) (by kernel_rfl) (by kernel_rfl) (aI rfl rfl)
        ·refine WM_op (φ := True) (v := B b87) (H' := [nR x1, .cells [cI x2.kind, cS x2.path, cI x2.value], nO x85]) rfl rfl (by kernel_rfl) trivial rfl (aI rfl (aI (aI rfl rfl) (trivial))) (WD_all [9] (n := 3) (by kernel_rfl) rfl (WM_op (φ := True) (v := sF 2 x85) (H' := [nR x1, .cells [cI x2.kind, cS x2.path, cI x2.value], nO x85]) rfl rfl (by kernel_rfl) trivial rfl (aI rfl (aI (aI rfl rfl) (trivial))) (WD_all [12] (n := 2) (by kernel_rfl) rfl (WM_op (φ := True) (v := sF 2 x85) (H' := [nR x1, .cells [cI x2.kind, cS x2.path, cI x2.value], nO x85]) rfl rfl (by kernel_rfl) trivial rfl (aI rfl (aI (aI rfl rfl) (trivial))) (WD_takeK [13, 14] [3, 11] [3, 9, 11] (φ := True) (ls' := (tf true [15])) (Ts' := [(3, pA 1 0), (11, B b87)]) (st' := ⟨[(3, pA 1 0), (9, sF 2 x85), (11, B b87)], [nR x1, .cells [cI x2.kind, cS x2.path, cI x2.value], nO x85]⟩) (n2 := 0) (by kernel_rfl) trivial rfl ?_)))))
         exact WD_done [0, 1, 2] [3, 9, 11] (st' := ⟨[(3, pA 1 0), (9, sF 2 x85), (11, B b87)], [nR x1, .cells [cI x2.kind, cS x2.path, cI x2.value], nO x85]⟩) (by kernel_rfl) (by kernel_rfl) (aI rfl rfl)
       ·refine WM_op (φ := True) (v := B b87) (H' := [nR x1, .cells [cI x2.kind, cS x2.path, cI x2.value], nO x85]) rfl rfl (by kernel_rfl) trivial rfl (aI rfl (aI (aI rfl rfl) (trivial))) (WD_all [9, 10] (n := 4) (by kernel_rfl) rfl (aI ?_ (?_)))
        ·refine WM_op (φ := True) (v := sF 2 x85) (H' := [nR x1, .cells [cI x2.kind, cS x2.path, cI x2.value], nO x85]) rfl rfl (by kernel_rfl) trivial rfl (aI rfl (aI (aI rfl rfl) (trivial))) (WD_all [10, 12] (n := 3) (by kernel_rfl) rfl (aI ?_ (?_)))
         ·refine WM_op (φ := True) (v := I i86) (H' := [nR x1, .cells [cI x2.kind, cS x2.path, cI x2.value], nO x85]) rfl rfl (by kernel_rfl) trivial rfl (aI rfl (aI (aI rfl rfl) (trivial))) (WD_all [12] (n := 2) (by kernel_rfl) rfl (WM_op (φ := True) (v := sF 2 x85) (H' := [nR x1, .cells [cI x2.kind, cS x2.path, cI x2.value], nO x85]) rfl rfl (by kernel_rfl) trivial rfl (aI rfl (aI (aI rfl rfl) (trivial))) (WD_takeK [13, 14] [3, 11] [3, 9, 11] (φ := True) (ls' := (tf true [15])) (Ts' := [(3, pA 1 0), (11, B b87)]) (st' := ⟨[(3, pA 1 0), (9, sF 2 x85), (11, B b87)], [nR x1, .cells [cI x2.kind, cS x2.path, cI x2.value], nO x85]⟩) (n2 := 0) (by kernel_rfl) trivial rfl ?_)))
          exact WD_done [0, 1, 2] [3, 9, 11] (st' := ⟨[(3, pA 1 0), (9, sF 2 x85), (11, B b87)], [nR x1, .cells [cI x2.kind, cS x2.path, cI x2.value], nO x85]⟩) (by kernel_rfl) (by kernel_rfl) (aI rfl rfl)
         ·refine WM_op (φ := True) (v := sF 2 x85) (H' := [nR x1, .cells [cI x2.kind, cS x2.path, cI x2.value], nO x85]) rfl rfl (by kernel_rfl) trivial rfl (aI rfl (aI (aI rfl rfl) (trivial))) (WD_all [10] (n := 2) (by kernel_rfl) rfl (WM_op (φ := True) (v := I i86) (H' := [nR x1, .cells [cI x2.kind, cS x2.path, cI x2.value], nO x85]) rfl rfl (by kernel_rfl) trivial rfl (aI rfl (aI (aI rfl rfl) (trivial))) (WD_takeK [13, 14] [3, 11] [3, 9, 11] (φ := True) (ls' := (tf true [15])) (Ts' := [(3, pA 1 0), (11, B b87)]) (st' := ⟨[(3, pA 1 0), (9, sF 2 x85), (11, B b87)], [nR x1, .cells [cI x2.kind, cS x2.path, cI x2.value], nO x85]⟩) (n2 := 0) (by kernel_rfl) trivial rfl ?_)))
          exact WD_done [0, 1, 2] [3, 9, 11] (st' := ⟨[(3, pA 1 0), (9, sF 2 x85), (11, B b87)], [nR x1, .cells [cI x2.kind, cS x2.path, cI x2.value], nO x85]⟩) (by kernel_rfl) (by kernel_rfl) (aI rfl rfl)
        ·refine WM_op (φ := True) (v := I i86) (H' := [nR x1, .cells [cI x2.kind, cS x2.path, cI x2.value], nO x85]) rfl rfl (by kernel_rfl) trivial rfl (aI rfl (aI (aI rfl rfl) (trivial))) (WD_all [9] (n := 3) (by kernel_rfl) rfl (WM_op (φ := True) (v := sF 2 x85) (H' := [nR x1, .cells [cI x2.kind, cS x2.path, cI x2.value], nO x85]) rfl rfl (by kernel_rfl) trivial rfl (aI rfl (aI (aI rfl rfl) (trivial))) (WD_all [12] (n := 2) (by kernel_rfl) rfl (WM_op (φ := True) (v := sF 2 x85) (H' := [nR x1, .cells [cI x2.kind, cS x2.path, cI x2.value], nO x85]) rfl rfl (by kernel_rfl) trivial rfl (aI rfl (aI (aI rfl rfl) (trivial))) (WD_takeK [13, 14] [3, 11] [3, 9, 11] (φ := True) (ls' := (tf true [15])) (Ts' := [(3, pA 1 0), (11, B b87)]) (st' := ⟨[(3, pA 1 0), (9, sF 2 x85), (11, B b87)], [nR x1, .cells [cI x2.kind, cS x2.path, cI x2.value], nO x85]⟩) (n2 := 0) (by kernel_rfl) trivial rfl ?_)))))
         exact WD_done [0, 1, 2] [3, 9, 11] (st' := ⟨[(3, pA 1 0), (9, sF 2 x85), (11, B b87)], [nR x1, .cells [cI x2.kind, cS x2.path, cI x2.value], nO x85]⟩) (by kernel_rfl) (by kernel_rfl) (aI rfl rfl)
      ·rintro _ _ ⟨rfl, rfl⟩
       refine thenS_n (W_seq (Wsr ((Ws 3 [0, 1, 2] [3, 9, 61] ⟨[(3, pA 1 0), (9, sF 2 x85), (61, B (!b87))], [nR x1, .cells [cI x2.kind, cS x2.path, cI x2.value], nO x85]⟩ (bindO_e h (fun b93 hv94 h => (WO_thru ⟨[(9, sF 1 x85), (67, B b93)], [nR x1, nO x85]⟩ ?_ ?_)))))))
       ·refine iteO_e hv94 (fun hb95 hv94 => WO_known 61 true rfl hb95 ?_) (fun hb95 hv94 => WO_known 61 false rfl hb95 ?_)
        ·refine Ws 6 [0, 2] [9, 67] ⟨[(9, sF 1 x85), (67, B true)], [nR x1, nO x85]⟩ ?_
         cases hv94
         exact WO_nil rfl ⟨rfl, rfl⟩
        ·refine Wp 3 [0, 2] [9, 61, 62, 64] T2 ⟨[(9, sF 1 x85), (61, B false), (62, sF 1 x85), (64, S x2.path)], [nR x1, nO x85]⟩ t2 (bindO_e hv94 (fun i96 hc97 hv94 => (Wc [.ro 1] rfl rfl rfl Tryz.func44 rfl (spec_resolve_ok n x85 x2.path i96 hc97) (aI (aI rfl rfl) (trivial)) rfl (Wp 2 [0, 1] [9, 67] T2 ⟨[(9, sF 1 x85), (67, B (decide (i96 < 0)))], [nR x1, nO x85]⟩ t2 ?_))))
         cases hv94
         exact WO_nil rfl ⟨rfl, rfl⟩
       ·refine thenS_n (iteO_e h (fun hb99 h => W_true rfl hb99 ?_) (fun hb99 h => W_false rfl hb99 ?_))
        ·refine Wsr ((Ws 2 [0] [4, 5] ⟨[(4, .one (.e (.nsl))), (5, B false)], [nR x1]⟩ (WO_nilrow 4 .nod rfl (Wb [0, 1] [4, 5] ⟨[(4, .one (.e (.sl 1 0 (([] : List Nod).length)))), (5, B false)], [nR x1, nO ([] : List Nod)]⟩ (Wnt ((W_ret (thenS_r ?_))))))))
         cases h
         exact ⟨[0, 1], True, by kernel_rfl, trivial⟩
        ·refine Ww [0, 1] [9] ⟨[(9, sF 1 x85)], [nR x1, nO x85]⟩ (W_skip (thenS_n (Wsr ((Ws 3 [0, 1] [4, 5] ⟨[(4, sF 1 x85), (5, B true)], [nR x1, nO x85]⟩ (Wnt ((W_ret ?_))))))))
         cases h
         exact ⟨[0, 1], True, by kernel_rfl, trivial⟩

/- spec.ApplyEdits -/
def spec_ApplyEdits_L1 (x2 : List Edt) (x1 : List Nod) : Nat → (List Nod) → Int → Option ((Unit) ⊕ ((List Nod)))
| 0, _, _ => none
| n + 1, x132, i133 =>
 iteO (decide (i133 < ((x2.length : Nat) : Int)))
 (guardO (0 ≤ i133 ∧ i133 < ((x2.length : Nat) : Int)) <|
 bindO (spec_apply n x132 (x2.getD i133.toNat dedt)) fun (x164, b165) =>
 iteO (!b165)
 (some (.inl ()))
 (spec_ApplyEdits_L1 x2 x1 n x164 (w64 (i133 + 1))))
 (some (.inr x132))

theorem spec_ApplyEdits_L1_ok (w : World) (X : Nat → Prop) (θ : List Loc) (x2 : List Edt) (x1 : List Nod) (v : (Unit) ⊕ ((List Nod))) : ∀ (n : Nat) (x132 : List Nod) (i133 : Int), spec_ApplyEdits_L1 x2 x1 n x132 i133 = some v → WL EE ⟨w, X, θ, 38, 2⟩ (subC [1, 1, 0, 1, 4, 4] (bodyC Tryz.f91)) (fun (e : Exit) (s : St) => (match v with | (.inl _) => e = .ret ∧ s = ⟨[(4, .one (.e (.sl 2 0 (([] : List Nod).length)))), (5, B false)], [nR x1, eR x2, nO ([] : List Nod)]⟩ | (.inr x152) => e = .exit 0 ∧ s = ⟨[(0, sF 2 x152)], [nR x1, eR x2, nO x152]⟩ : Prop)) ⟨[(0, sF 2 x132), (1, sF 1 x2), (6, I i133)], [nR x1, eR x2, nO x132]⟩ := by
  intro n
  induction n with
  | zero => intro _ _ h; exact none_e h
  | succ n ih =>
    intro x132 i133 h
    rw [spec_ApplyEdits_L1] at h
    refine WL_round ?_
    refine W_seq (Wsr ((Wp 4 [0, 1, 2] [0, 1, 6, 20] T3 ⟨[(0, sF 2 x132), (1, sF 1 x2), (6, I i133), (20, B (decide (i133 < (lI x2))))], [nR x1, eR x2, nO x132]⟩ t3 (Wnt ((iteO_e h (fun hb155 h => W_true rfl hb155 ?_) (fun hb155 h => W_false rfl hb155 ?_)))))))
    ·refine Ww [0, 1, 2] [0, 1, 6] ⟨[(0, sF 2 x132), (1, sF 1 x2), (6, I i133)], [nR x1, eR x2, nO x132]⟩ (W_skip (thenS_n (W_seq (W_block (Wsr ((guardO_e h (fun hg163 h => (Wp 5 [0, 1, 2] [1, 6, 24, 28] ((0 ≤ i133 ∧ i133 < (lI x2)) ∧ T2) ⟨[(1, sF 1 x2), (6, I i133), (24, sF 2 x132), (28, AGG [cI ((x2.getD i133.toNat dedt).kind), cS ((x2.getD i133.toNat dedt).path), cI ((x2.getD i133.toNat dedt).value)])], [nR x1, eR x2, nO x132]⟩ ⟨hg163, trivial, trivial⟩ (bindO_e h (fun v169 hc166 h => ?_)))))))))))
     obtain ⟨x164, b165⟩ := v169
     refine Wc [.ro 2] rfl rfl rfl Tryz.func126 rfl (spec_apply_ok n x132 (x2.getD i133.toNat dedt) x164 b165 hc166) (aI (aI rfl rfl) (trivial)) rfl (Ws 5 [0, 1, 3] [1, 6, 7, 8] ⟨[(1, sF 1 x2), (6, I i133), (7, sF 2 x164), (8, B b165)], [nR x1, eR x2, nO x164]⟩ (Wnt ((W_seq (Wsr ((Ws 2 [0, 1, 2] [1, 6, 7, 33] ⟨[(1, sF 1 x2), (6, I i133), (7, sF 2 x164), (33, B (!b165))], [nR x1, eR x2, nO x164]⟩ (Wnt ((iteO_e h (fun hb168 h => W_true rfl hb168 ?_) (fun hb168 h => W_false rfl hb168 ?_)))))))))))
     ·refine Wsr ((Ws 2 [0, 1] [4, 5] ⟨[(4, .one (.e (.nsl))), (5, B false)], [nR x1, eR x2]⟩ (WO_nilrow 4 .nod rfl (Wb [0, 1, 2] [4, 5] ⟨[(4, .one (.e (.sl 2 0 (([] : List Nod).length)))), (5, B false)], [nR x1, eR x2, nO ([] : List Nod)]⟩ (Wnt ((W_ret (thenS_r (blockS_r (thenS_r (thenS_r ?_)))))))))))
      cases h
      exact aI rfl rfl
     ·refine Ww [0, 1, 2] [1, 6, 7] ⟨[(1, sF 1 x2), (6, I i133), (7, sF 2 x164)], [nR x1, eR x2, nO x164]⟩ (W_skip (thenS_n (W_region (Ws 2 [0, 1, 2] [0, 1, 6] ⟨[(0, sF 2 x164), (1, sF 1 x2), (6, I i133)], [nR x1, eR x2, nO x164]⟩ (WO_nil rfl (blockS_n (thenS_n (W_region (Wp 3 [0, 1, 2] [0, 1, 6] T2 ⟨[(0, sF 2 x164), (1, sF 1 x2), (6, I (w64 (i133 + 1)))], [nR x1, eR x2, nO x164]⟩ t2 (Wnt (?_)))))))))))
      exact ih _ _ h
    ·refine Ww [0, 1, 2] [0] ⟨[(0, sF 2 x132)], [nR x1, eR x2, nO x132]⟩ (W_exit (thenS_e (thenS_e ?_)))
     cases h
     exact aI rfl rfl

def spec_ApplyEdits (n : Nat) (x1 : List Nod) (x2 : List Edt) : Option ((List Nod) × Bool) :=
 bindO (spec_validTree n x1) fun b70 =>
 iteO ((!b70) || (decide (24 < ((x2.length : Nat) : Int))))
 (some (([] : List Nod), false))
 (bindO (iteO (decide (0 < ((x2.length : Nat) : Int)))
 (guardO (0 ≤ (0 : Int) ∧ (0 : Int) < ((x2.length : Nat) : Int)) <|
 bindO (spec_apply n x1 (x2.getD 0 dedt)) fun (x127, b128) =>
 iteO (!b128)
 (some (.inl ()))
 (bindO (spec_ApplyEdits_L1 x2 x1 n x127 (w64 (0 + 1))) fun v170 =>
 match v170 with
 | (.inl _) => (some (.inl ()))
 | (.inr x152) => (some (.inr (.inl x152)))
))
 (some (.inr (.inr ()))) : Option ((Unit) ⊕ (((List Nod)) ⊕ (Unit)))) fun v116 =>
 match v116 with
 | (.inl _) => (some (([] : List Nod), false))
 | (.inr (.inl x115)) => (guardO (0 = 0 ∧ ([] : List Nod).length = ([] : List Nod).length ∧ ([] : List Nod).length + ((x115.drop 0).take x115.length).length ≤ 1099511627776) <|
 some ((([] : List Nod) ++ ((x115.drop 0).take x115.length)), true))
 | (.inr (.inr _)) => (guardO (0 = 0 ∧ ([] : List Nod).length = ([] : List Nod).length ∧ ([] : List Nod).length + ((x1.drop 0).take x1.length).length ≤ 1099511627776) <|
 some ((([] : List Nod) ++ ((x1.drop 0).take x1.length)), true))
)

theorem spec_ApplyEdits_ok (n : Nat) (x1 : List Nod) (x2 : List Edt) (x68 : List Nod) (b69 : Bool) (h : spec_ApplyEdits n x1 x2 = some (x68, b69)) : FOk EE 91 [sF 0 x1, sF 1 x2] [nR x1, eR x2] (.tup [.e (.sl 2 0 x68.length), .e (cB b69)]) [nR x1, eR x2, nO x68] := by
  unfold spec_ApplyEdits at h
  refine FOk_of_W 38 2 Tryz.func91 rfl rfl (Nat.le_of_ble_eq_true rfl) rfl (fun w X θ => ?_)
  refine Wsr ((Ws 2 [0, 1] [0, 1] ⟨[(0, sF 0 x1), (1, sF 1 x2)], [nR x1, eR x2]⟩ (Wnt ((W_seq (W_seq ?_))))))
  refine W_region (Ws 1 [0, 1] [0, 1, 9] ⟨[(0, sF 0 x1), (1, sF 1 x2), (9, sF 0 x1)], [nR x1, eR x2]⟩ (bindO_e h (fun b70 hc71 h => (Wc [.ro 0] rfl rfl rfl Tryz.func45 rfl (spec_validTree_ok n x1 b70 hc71) (aI (aI rfl rfl) (trivial)) rfl (Ws 2 [0, 1] [0, 1, 12] ⟨[(0, sF 0 x1), (1, sF 1 x2), (12, B (!b70))], [nR x1, eR x2]⟩ (WO_thru ⟨[(0, sF 0 x1), (1, sF 1 x2), (16, B ((!b70) || (decide (24 < (lI x2)))))], [nR x1, eR x2]⟩ ?_ ?_))))))
  ·refine WO_if 12 rfl (fun hb74 => ?_) (fun hb74 => ?_)
   ·refine Ws 4 [0, 1] [0, 1, 16] ⟨[(0, sF 0 x1), (1, sF 1 x2), (16, B true)], [nR x1, eR x2]⟩ ?_
    exact WO_nil rfl ⟨rfl, by first | rfl | (rw [hb74]; first | done | rfl)⟩
   ·refine Wp 4 [0, 1] [0, 1, 16] T3 ⟨[(0, sF 0 x1), (1, sF 1 x2), (16, B (decide (24 < (lI x2))))], [nR x1, eR x2]⟩ t3 ?_
    exact WO_nil rfl ⟨rfl, by first | rfl | (rw [hb74]; first | done | rfl)⟩
  ·refine thenS_n (iteO_e h (fun hb76 h => W_true rfl hb76 ?_) (fun hb76 h => W_false rfl hb76 ?_))
   ·refine Wsr ((Ws 2 [0, 1] [4, 5] ⟨[(4, .one (.e (.nsl))), (5, B false)], [nR x1, eR x2]⟩ (WO_nilrow 4 .nod rfl (Wb [0, 1, 2] [4, 5] ⟨[(4, .one (.e (.sl 2 0 (([] : List Nod).length)))), (5, B false)], [nR x1, eR x2, nO ([] : List Nod)]⟩ (Wnt ((W_ret (thenS_r ?_))))))))
    cases h
    exact ⟨[0, 1, 2], True, by kernel_rfl, trivial⟩
   ·refine Ww [0, 1] [0, 1] ⟨[(0, sF 0 x1), (1, sF 1 x2)], [nR x1, eR x2]⟩ (W_skip (thenS_n (W_seq (Wsr ((Ws 1 [0, 1] [0, 1, 6] ⟨[(0, sF 0 x1), (1, sF 1 x2), (6, I 0)], [nR x1, eR x2]⟩ (Wnt ((bindO_e h (fun v116 hv116 h => (W_cut (Q' := fun (e : Exit) (s : St) => (match v116 with | (.inl _) => e = .ret ∧ s = ⟨[(4, .one (.e (.sl 2 0 (([] : List Nod).length)))), (5, B false)], [nR x1, eR x2, nO ([] : List Nod)]⟩ | (.inr (.inl x115)) => e = .normal ∧ s = ⟨[(0, sF 2 x115)], [nR x1, eR x2, nO x115]⟩ | (.inr (.inr _)) => e = .normal ∧ s = ⟨[(0, sF 0 x1)], [nR x1, eR x2]⟩ : Prop)) ?_ ?_)))))))))))
    ·refine W_block (W_loop (WL_round (W_seq (Wsr ((Wp 4 [0, 1] [0, 1, 6, 20] T3 ⟨[(0, sF 0 x1), (1, sF 1 x2), (6, I 0), (20, B (decide (0 < (lI x2))))], [nR x1, eR x2]⟩ t3 (Wnt ((iteO_e hv116 (fun hb118 hv116 => W_true rfl hb118 ?_) (fun hb118 hv116 => W_false rfl hb118 ?_))))))))))
     ·refine Ww [0, 1] [0, 1, 6] ⟨[(0, sF 0 x1), (1, sF 1 x2), (6, I 0)], [nR x1, eR x2]⟩ (W_skip (thenS_n (W_seq (W_block (Wsr ((guardO_e hv116 (fun hg126 hv116 => (Wp 5 [0, 1] [1, 6, 24, 28] ((0 ≤ (0 : Int) ∧ (0 : Int) < (lI x2)) ∧ T2) ⟨[(1, sF 1 x2), (6, I 0), (24, sF 0 x1), (28, AGG [cI ((x2.getD 0 dedt).kind), cS ((x2.getD 0 dedt).path), cI ((x2.getD 0 dedt).value)])], [nR x1, eR x2]⟩ ⟨hg126, trivial, trivial⟩ (bindO_e hv116 (fun v171 hc129 hv116 => ?_)))))))))))
      obtain ⟨x127, b128⟩ := v171
      refine Wc [.ro 0] rfl rfl rfl Tryz.func126 rfl (spec_apply_ok n x1 (x2.getD 0 dedt) x127 b128 hc129) (aI (aI rfl rfl) (trivial)) rfl (Ws 5 [0, 1, 2] [1, 6, 7, 8] ⟨[(1, sF 1 x2), (6, I 0), (7, sF 2 x127), (8, B b128)], [nR x1, eR x2, nO x127]⟩ (Wnt ((W_seq (Wsr ((Ws 2 [0, 1, 2] [1, 6, 7, 33] ⟨[(1, sF 1 x2), (6, I 0), (7, sF 2 x127), (33, B (!b128))], [nR x1, eR x2, nO x127]⟩ (Wnt ((iteO_e hv116 (fun hb131 hv116 => W_true rfl hb131 ?_) (fun hb131 hv116 => W_false rfl hb131 ?_)))))))))))
      ·refine Wsr ((Ws 2 [0, 1] [4, 5] ⟨[(4, .one (.e (.nsl))), (5, B false)], [nR x1, eR x2]⟩ (WO_nilrow 4 .nod rfl (Wb [0, 1, 2] [4, 5] ⟨[(4, .one (.e (.sl 2 0 (([] : List Nod).length)))), (5, B false)], [nR x1, eR x2, nO ([] : List Nod)]⟩ (Wnt ((W_ret (thenS_r (blockS_r (thenS_r (thenS_r (blockS_r ?_))))))))))))
       cases hv116
       exact aI rfl rfl
      ·refine Ww [0, 1, 2] [1, 6, 7] ⟨[(1, sF 1 x2), (6, I 0), (7, sF 2 x127)], [nR x1, eR x2, nO x127]⟩ (W_skip (thenS_n (W_region (Ws 2 [0, 1, 2] [0, 1, 6] ⟨[(0, sF 2 x127), (1, sF 1 x2), (6, I 0)], [nR x1, eR x2, nO x127]⟩ (WO_nil rfl (blockS_n (thenS_n (W_region (Wp 3 [0, 1, 2] [0, 1, 6] T2 ⟨[(0, sF 2 x127), (1, sF 1 x2), (6, I (w64 (0 + 1)))], [nR x1, eR x2, nO x127]⟩ t2 (Wnt ((bindO_e hv116 (fun v170 hv170 hv116 => (WL_cut (spec_ApplyEdits_L1_ok w X θ x2 x1 v170 n x127 (w64 (0 + 1)) hv170) ?_))))))))))))))
       rcases v170 with _ | x152
       ·rintro _ _ ⟨rfl, rfl⟩
        refine blockS_r ?_
        cases hv116
        exact aI rfl rfl
       ·rintro _ _ ⟨rfl, rfl⟩
        refine blockS_y ?_
        cases hv116
        exact aI rfl rfl
     ·refine Ww [0, 1] [0] ⟨[(0, sF 0 x1)], [nR x1, eR x2]⟩ (W_exit (thenS_e (thenS_e (blockS_y ?_))))
      cases hv116
      exact aI rfl rfl
    ·rcases v116 with _ | x115 | _
     ·rintro _ _ ⟨rfl, rfl⟩
      refine thenS_r ?_
      cases h
      exact ⟨[0, 1, 2], True, by kernel_rfl, trivial⟩
     ·rintro _ _ ⟨rfl, rfl⟩
      refine thenS_n (Wsr ((guardO_e h (fun hg172 h => (Wp 5 [0, 1, 4] [4, 5] ((0 = 0 ∧ ([] : List Nod).length = ([] : List Nod).length ∧ ([] : List Nod).length + ((x115.drop 0).take x115.length).length ≤ 1099511627776) ∧ True) ⟨[(4, .one (.e (.sl 2 0 ((([] : List Nod) ++ ((x115.drop 0).take x115.length)).length)))), (5, B true)], [nR x1, eR x2, .row .nod (([] : List Nod) ++ ((x115.drop 0).take x115.length)) true]⟩ ⟨hg172, trivial⟩ (Wnt ((W_ret ?_))))))))
      cases h
      exact ⟨[0, 1, 2], True, by kernel_rfl, trivial⟩
     ·rintro _ _ ⟨rfl, rfl⟩
      refine thenS_n (Wsr ((guardO_e h (fun hg173 h => (Wp 5 [0, 1, 3] [4, 5] ((0 = 0 ∧ ([] : List Nod).length = ([] : List Nod).length ∧ ([] : List Nod).length + ((x1.drop 0).take x1.length).length ≤ 1099511627776) ∧ True) ⟨[(4, .one (.e (.sl 2 0 ((([] : List Nod) ++ ((x1.drop 0).take x1.length)).length)))), (5, B true)], [nR x1, eR x2, .row .nod (([] : List Nod) ++ ((x1.drop 0).take x1.length)) true]⟩ ⟨hg173, trivial⟩ (Wnt ((W_ret ?_))))))))
      cases h
      exact ⟨[0, 1, 2], True, by kernel_rfl, trivial⟩

/- spec.desk).set -/
def spec_desk_set (n : Nat) (x1 : List Nod) (k2 : Nat) (x3 : List Lck) (k4 : Nat) (s5 : Str) (s6 : Str) (s7 : Str) : Option (Nat × (List Nod) × Str) :=
 bindO (spec_parseInt n s5) fun (i50, b51) =>
 bindO (spec_parseInt n s7) fun (i53, b54) =>
 bindO (spec_resolve n ((x1.drop 0).take k2) s6) fun i56 =>
 iteO ((!b51) || ((!b54) || (!(spec_inRange i50 0 3))))
 (some (k2, x1, [110, 111]))
 (bindO (spec_cut n s6) fun (s65, s66) =>
 bindO (iteO (decide (i56 < 0))
 (bindO (spec_resolve n ((x1.drop 0).take k2) s65) fun i74 =>
 some i74)
 (some i56)) fun i71 =>
 bindO (iteO (decide (i71 < 0))
 (some true)
 (bindO (spec_mayWrite n ((x1.drop 0).take k2) ((x3.drop 0).take k4) i50 i71) fun b77 =>
 some (!b77))) fun b79 =>
 iteO b79
 (some (k2, x1, [110, 111]))
 (bindO (spec_ApplyEdits n ((x1.drop 0).take k2) [(⟨0, s6, i53⟩ : Edt)]) fun (x83, b84) =>
 iteO (!b84)
 (some (k2, x1, [110, 111]))
 (some (x83.length, x83, [111, 107]))))

theorem spec_desk_set_ok (n : Nat) (x1 : List Nod) (k2 : Nat) (x3 : List Lck) (k4 : Nat) (s5 : Str) (s6 : Str) (s7 : Str) (k47 : Nat) (x48 : List Nod) (s49 : Str) (h : spec_desk_set n x1 k2 x3 k4 s5 s6 s7 = some (k47, x48, s49)) : FOk EE 59 [pA 0 0, S s5, S s6, S s7] [.cells [.sl 1 0 k2, .sl 2 0 k4], nO x1, lR x3] (S s49) [.cells [.sl 3 0 k47, .sl 2 0 k4], .dead, lR x3, nO x48] := by
  unfold spec_desk_set at h
  refine FOk_of_W 94 3 Tryz.func59 rfl rfl (Nat.le_of_ble_eq_true rfl) rfl (fun w X θ => ?_)
  refine Wsr ((Ws 1 [0, 1, 2] [0, 1, 2, 3] ⟨[(0, pA 0 0), (1, S s5), (2, S s6), (3, S s7)], [.cells [.sl 1 0 k2, .sl 2 0 k4], nO x1, lR x3]⟩ (Wnt ((W_seq (W_region ?_))))))
  refine Ws 1 [0, 1, 2] [0, 2, 3, 20] ⟨[(0, pA 0 0), (2, S s6), (3, S s7), (20, S s5)], [.cells [.sl 1 0 k2, .sl 2 0 k4], nO x1, lR x3]⟩ (bindO_e h (fun v91 hc52 h => ?_))
  obtain ⟨i50, b51⟩ := v91
  refine Wc [] rfl rfl rfl Tryz.func42 rfl (spec_parseInt_ok n s5 i50 b51 hc52) (trivial) rfl (Ws 5 [0, 1, 2] [0, 2, 3, 9, 10] ⟨[(0, pA 0 0), (2, S s6), (3, S s7), (9, I i50), (10, B b51)], [.cells [.sl 1 0 k2, .sl 2 0 k4], nO x1, lR x3]⟩ (Wnt ((Wsr ((Ws 1 [0, 1, 2] [0, 2, 9, 10, 25] ⟨[(0, pA 0 0), (2, S s6), (9, I i50), (10, B b51), (25, S s7)], [.cells [.sl 1 0 k2, .sl 2 0 k4], nO x1, lR x3]⟩ ?_))))))
  refine bindO_e h (fun v90 hc55 h => ?_)
  obtain ⟨i53, b54⟩ := v90
  refine Wc [] rfl rfl rfl Tryz.func42 rfl (spec_parseInt_ok n s7 i53 b54 hc55) (trivial) rfl (Ws 5 [0, 1, 2] [0, 2, 9, 10, 11, 12] ⟨[(0, pA 0 0), (2, S s6), (9, I i50), (10, B b51), (11, I i53), (12, B b54)], [.cells [.sl 1 0 k2, .sl 2 0 k4], nO x1, lR x3]⟩ (Wnt ((Wsr ((Wp 5 [0, 1, 2] [0, 2, 9, 10, 11, 12, 32, 33] T2 ⟨[(0, pA 0 0), (2, S s6), (9, I i50), (10, B b51), (11, I i53), (12, B b54), (32, SL 1 0 k2), (33, S s6)], [.cells [.sl 1 0 k2, .sl 2 0 k4], nO x1, lR x3]⟩ t2 ?_))))))
  refine bindO_e h (fun i56 hc57 h => (Wc [.view 0] rfl rfl rfl Tryz.func44 rfl (spec_resolve_ok n ((x1.drop 0).take k2) s6 i56 hc57) (trivial) rfl (Ws 1 [0, 1, 2] [0, 2, 9, 10, 11, 12, 13] ⟨[(0, pA 0 0), (2, S s6), (9, I i50), (10, B b51), (11, I i53), (12, B b54), (13, I i56)], [.cells [.sl 1 0 k2, .sl 2 0 k4], nO x1, lR x3]⟩ (Wnt ((W_seq (W_seq ?_)))))))
  refine W_region (Ws 3 [0, 1, 2] [0, 2, 9, 11, 12, 13, 37] ⟨[(0, pA 0 0), (2, S s6), (9, I i50), (11, I i53), (12, B b54), (13, I i56), (37, B (!b51))], [.cells [.sl 1 0 k2, .sl 2 0 k4], nO x1, lR x3]⟩ (WO_thru ⟨[(0, pA 0 0), (2, S s6), (9, I i50), (11, I i53), (13, I i56), (45, B ((!b51) || ((!b54) || (!(spec_inRange i50 0 3)))))], [.cells [.sl 1 0 k2, .sl 2 0 k4], nO x1, lR x3]⟩ ?_ ?_))
  ·refine WO_if 37 rfl (fun hb61 => ?_) (fun hb61 => ?_)
   ·refine Ws 8 [0, 1, 2] [0, 2, 9, 11, 13, 45] ⟨[(0, pA 0 0), (2, S s6), (9, I i50), (11, I i53), (13, I i56), (45, B true)], [.cells [.sl 1 0 k2, .sl 2 0 k4], nO x1, lR x3]⟩ ?_
    exact WO_nil rfl ⟨rfl, by first | rfl | (rw [hb61]; first | done | rfl)⟩
   ·refine Ws 4 [0, 1, 2] [0, 2, 9, 11, 13, 41] ⟨[(0, pA 0 0), (2, S s6), (9, I i50), (11, I i53), (13, I i56), (41, B (!b54))], [.cells [.sl 1 0 k2, .sl 2 0 k4], nO x1, lR x3]⟩ (WO_if 41 rfl (fun hb62 => ?_) (fun hb62 => ?_))
    ·refine Ws 4 [0, 1, 2] [0, 2, 9, 11, 13, 45] ⟨[(0, pA 0 0), (2, S s6), (9, I i50), (11, I i53), (13, I i56), (45, B true)], [.cells [.sl 1 0 k2, .sl 2 0 k4], nO x1, lR x3]⟩ ?_
     exact WO_nil rfl ⟨rfl, by first | rfl | (simp only [hb61, hb62]; first | done | rfl)⟩
    ·refine Ws 1 [0, 1, 2] [0, 2, 9, 11, 13, 41, 42] ⟨[(0, pA 0 0), (2, S s6), (9, I i50), (11, I i53), (13, I i56), (41, B false), (42, I i50)], [.cells [.sl 1 0 k2, .sl 2 0 k4], nO x1, lR x3]⟩ (Wc [] rfl rfl rfl Tryz.func71 rfl (spec_inRange_ok i50 0 3) (trivial) rfl (Ws 2 [0, 1, 2] [0, 2, 9, 11, 13, 45] ⟨[(0, pA 0 0), (2, S s6), (9, I i50), (11, I i53), (13, I i56), (45, B (!(spec_inRange i50 0 3)))], [.cells [.sl 1 0 k2, .sl 2 0 k4], nO x1, lR x3]⟩ ?_))
     exact WO_nil rfl ⟨rfl, by first | rfl | (simp only [hb61, hb62]; first | done | rfl)⟩
  ·refine thenS_n (iteO_e h (fun hb64 h => W_true rfl hb64 ?_) (fun hb64 h => W_false rfl hb64 ?_))
   ·refine Wsr ((Ws 1 [0, 1, 2] [8] ⟨[(8, S [110, 111])], [.cells [.sl 1 0 k2, .sl 2 0 k4], nO x1, lR x3]⟩ (Wnt ((W_ret (thenS_r ?_))))))
    cases h
    exact ⟨[0, 999, 2, 1], True, by kernel_rfl, trivial⟩
   ·refine Ww [0, 1, 2] [0, 2, 9, 11, 13] ⟨[(0, pA 0 0), (2, S s6), (9, I i50), (11, I i53), (13, I i56)], [.cells [.sl 1 0 k2, .sl 2 0 k4], nO x1, lR x3]⟩ (W_skip (thenS_n (Wsr ((Ws 1 [0, 1, 2] [0, 2, 9, 11, 13, 47] ⟨[(0, pA 0 0), (2, S s6), (9, I i50), (11, I i53), (13, I i56), (47, S s6)], [.cells [.sl 1 0 k2, .sl 2 0 k4], nO x1, lR x3]⟩ (bindO_e h (fun v89 hc67 h => ?_)))))))
    obtain ⟨s65, s66⟩ := v89
    refine Wc [] rfl rfl rfl Tryz.func43 rfl (spec_cut_ok n s6 s65 s66 hc67) (trivial) rfl (Ws 5 [0, 1, 2] [0, 2, 9, 11, 13, 14] ⟨[(0, pA 0 0), (2, S s6), (9, I i50), (11, I i53), (13, I i56), (14, S s65)], [.cells [.sl 1 0 k2, .sl 2 0 k4], nO x1, lR x3]⟩ (Wnt ((Wsr ((Ws 2 [0, 1, 2] [0, 2, 9, 11, 13, 14, 16] ⟨[(0, pA 0 0), (2, S s6), (9, I i50), (11, I i53), (13, I i56), (14, S s65), (16, I i56)], [.cells [.sl 1 0 k2, .sl 2 0 k4], nO x1, lR x3]⟩ (Wnt ((W_seq (Wsr ((Wp 2 [0, 1, 2] [0, 2, 9, 11, 14, 16, 53] T2 ⟨[(0, pA 0 0), (2, S s6), (9, I i50), (11, I i53), (14, S s65), (16, I i56), (53, B (decide (i56 < 0)))], [.cells [.sl 1 0 k2, .sl 2 0 k4], nO x1, lR x3]⟩ t2 (Wnt ((bindO_e h (fun i71 hi71 h => (W_cut (Q' := fun (e : Exit) (s : St) => e = .normal ∧ s = ⟨[(0, pA 0 0), (2, S s6), (9, I i50), (11, I i53), (16, I i71)], [.cells [.sl 1 0 k2, .sl 2 0 k4], nO x1, lR x3]⟩) ?_ ?_)))))))))))))))))
    ·refine iteO_e hi71 (fun hb73 hi71 => W_true rfl hb73 ?_) (fun hb73 hi71 => W_false rfl hb73 ?_)
     ·refine W_region (Wp 5 [0, 1, 2] [0, 2, 9, 11, 57, 58] T2 ⟨[(0, pA 0 0), (2, S s6), (9, I i50), (11, I i53), (57, SL 1 0 k2), (58, S s65)], [.cells [.sl 1 0 k2, .sl 2 0 k4], nO x1, lR x3]⟩ t2 (bindO_e hi71 (fun i74 hc75 hi71 => (Wc [.view 0] rfl rfl rfl Tryz.func44 rfl (spec_resolve_ok n ((x1.drop 0).take k2) s65 i74 hc75) (trivial) rfl (Ws 1 [0, 1, 2] [0, 2, 9, 11, 16] ⟨[(0, pA 0 0), (2, S s6), (9, I i50), (11, I i53), (16, I i74)], [.cells [.sl 1 0 k2, .sl 2 0 k4], nO x1, lR x3]⟩ (WO_nil rfl ?_))))))
      cases hi71
      exact aI rfl rfl
     ·refine Ww [0, 1, 2] [0, 2, 9, 11, 16] ⟨[(0, pA 0 0), (2, S s6), (9, I i50), (11, I i53), (16, I i56)], [.cells [.sl 1 0 k2, .sl 2 0 k4], nO x1, lR x3]⟩ (W_skip ?_)
      cases hi71
      exact aI rfl rfl
    ·rintro _ _ ⟨rfl, rfl⟩
     refine thenS_n (W_seq (W_seq (bindO_e h (fun b79 hv80 h => (W_cut (Q' := fun (e : Exit) (s : St) => e = .normal ∧ s = ⟨[(0, pA 0 0), (2, S s6), (11, I i53), (75, B b79)], [.cells [.sl 1 0 k2, .sl 2 0 k4], nO x1, lR x3]⟩) ?_ ?_)))))
     ·refine iteO_e hv80 (fun hb76 hv80 => ?_) (fun hb76 hv80 => ?_)
      ·refine W_draw [] false (by kernel_rfl) (by kernel_rfl) (WD_takeQ [0, 1, 2] [0, 2, 9, 11, 16, 62] [0, 2, 9, 11, 16, 62] (φ := (True ∧ True ∧ True)) (ls' := (tf true [3, 13])) (st' := ⟨[(0, pA 0 0), (2, S s6), (9, I i50), (11, I i53), (16, I i71), (62, B (decide (i71 < 0)))], [.cells [.sl 1 0 k2, .sl 2 0 k4], nO x1, lR x3]⟩) (n2 := 13) (by kernel_rfl) t3 rfl (WD_known 62 true rfl rfl hb76 (WD_takeQ [3, 4, 5, 6, 7, 8, 9, 10, 11, 12, 13, 14, 15] [0, 2, 11, 75] [0, 2, 11, 75] (φ := True) (ls' := (tf true [16])) (st' := ⟨[(0, pA 0 0), (2, S s6), (11, I i53), (75, B true)], [.cells [.sl 1 0 k2, .sl 2 0 k4], nO x1, lR x3]⟩) (n2 := 0) (by kernel_rfl) trivial rfl ?_)))
       exact WD_done [0, 1, 2] [0, 2, 11, 75] (st' := ⟨[(0, pA 0 0), (2, S s6), (11, I i53), (75, B true)], [.cells [.sl 1 0 k2, .sl 2 0 k4], nO x1, lR x3]⟩) (by kernel_rfl) (by kernel_rfl) (aI rfl (by cases hv80; rfl))
      ·refine bindO_e hv80 (fun b77 hc78 hv80 => (W_draw [] false (by kernel_rfl) (by kernel_rfl) (WD_takeQ [0, 1, 2] [0, 2, 9, 11, 16, 62] [0, 2, 9, 11, 16, 62] (φ := (True ∧ True ∧ True)) (ls' := (tf true [3, 13])) (st' := ⟨[(0, pA 0 0), (2, S s6), (9, I i50), (11, I i53), (16, I i71), (62, B (decide (i71 < 0)))], [.cells [.sl 1 0 k2, .sl 2 0 k4], nO x1, lR x3]⟩) (n2 := 13) (by kernel_rfl) t3 rfl (WD_known 62 false rfl rfl hb76 (WD_takeQ [3, 4, 5, 7, 8, 9, 11, 12] [0, 2, 11, 62, 65, 69, 71, 72] [0, 2, 11, 62, 65, 69, 71, 72] (φ := True) (ls' := (tf true [6, 1, 3, 1, 2, 3])) (st' := ⟨[(0, pA 0 0), (2, S s6), (11, I i53), (62, B false), (65, pA 0 0), (69, pA 0 1), (71, I i50), (72, I i71)], [.cells [.sl 1 0 k2, .sl 2 0 k4], nO x1, lR x3]⟩) (n2 := 5) (by kernel_rfl) trivial rfl (WD_all [6, 10] (n := 4) (by kernel_rfl) rfl (aI ?_ (?_))))))))
       ·refine WM_op (φ := True) (v := SL 1 0 k2) (H' := [.cells [.sl 1 0 k2, .sl 2 0 k4], nO x1, lR x3]) rfl rfl (by kernel_rfl) trivial rfl (aI (aI rfl rfl) (aI rfl (aI rfl (trivial)))) (WD_all [10] (n := 3) (by kernel_rfl) rfl (WM_op (φ := True) (v := SL 2 0 k4) (H' := [.cells [.sl 1 0 k2, .sl 2 0 k4], nO x1, lR x3]) rfl rfl (by kernel_rfl) trivial rfl (aI (aI rfl rfl) (aI rfl (aI rfl (trivial)))) (WD_all [13] (n := 2) (by kernel_rfl) rfl (WM_call [.view 0, .view 1] Tryz.f90 rfl rfl (by kernel_rfl) Tryz.func90 rfl (by kernel_rfl) (spec_mayWrite_ok n ((x1.drop 0).take k2) ((x3.drop 0).take k4) i50 i71 b77 hc78) (trivial) rfl (aI (aI rfl rfl) (aI rfl (aI rfl (trivial)))) (WD_takeQ [14, 15] [0, 2, 11, 75] [0, 2, 11, 75] (φ := True) (ls' := (tf true [16])) (st' := ⟨[(0, pA 0 0), (2, S s6), (11, I i53), (75, B (!b77))], [.cells [.sl 1 0 k2, .sl 2 0 k4], nO x1, lR x3]⟩) (n2 := 0) (by kernel_rfl) trivial rfl ?_)))))
        exact WD_done [0, 1, 2] [0, 2, 11, 75] (st' := ⟨[(0, pA 0 0), (2, S s6), (11, I i53), (75, B (!b77))], [.cells [.sl 1 0 k2, .sl 2 0 k4], nO x1, lR x3]⟩) (by kernel_rfl) (by kernel_rfl) (aI rfl (by cases hv80; rfl))
       ·refine WM_op (φ := True) (v := SL 2 0 k4) (H' := [.cells [.sl 1 0 k2, .sl 2 0 k4], nO x1, lR x3]) rfl rfl (by kernel_rfl) trivial rfl (aI (aI rfl rfl) (aI rfl (aI rfl (trivial)))) (WD_all [6] (n := 3) (by kernel_rfl) rfl (WM_op (φ := True) (v := SL 1 0 k2) (H' := [.cells [.sl 1 0 k2, .sl 2 0 k4], nO x1, lR x3]) rfl rfl (by kernel_rfl) trivial rfl (aI (aI rfl rfl) (aI rfl (aI rfl (trivial)))) (WD_all [13] (n := 2) (by kernel_rfl) rfl (WM_call [.view 0, .view 1] Tryz.f90 rfl rfl (by kernel_rfl) Tryz.func90 rfl (by kernel_rfl) (spec_mayWrite_ok n ((x1.drop 0).take k2) ((x3.drop 0).take k4) i50 i71 b77 hc78) (trivial) rfl (aI (aI rfl rfl) (aI rfl (aI rfl (trivial)))) (WD_takeQ [14, 15] [0, 2, 11, 75] [0, 2, 11, 75] (φ := True) (ls' := (tf true [16])) (st' := ⟨[(0, pA 0 0), (2, S s6), (11, I i53), (75, B (!b77))], [.cells [.sl 1 0 k2, .sl 2 0 k4], nO x1, lR x3]⟩) (n2 := 0) (by kernel_rfl) trivial rfl ?_)))))
        exact WD_done [0, 1, 2] [0, 2, 11, 75] (st' := ⟨[(0, pA 0 0), (2, S s6), (11, I i53), (75, B (!b77))], [.cells [.sl 1 0 k2, .sl 2 0 k4], nO x1, lR x3]⟩) (by kernel_rfl) (by kernel_rfl) (aI rfl (by cases hv80; rfl))
     ·rintro _ _ ⟨rfl, rfl⟩
      refine thenS_n (iteO_e h (fun hb82 h => W_true rfl hb82 ?_) (fun hb82 h => W_false rfl hb82 ?_))
      ·refine Wsr ((Ws 1 [0, 1, 2] [8] ⟨[(8, S [110, 111])], [.cells [.sl 1 0 k2, .sl 2 0 k4], nO x1, lR x3]⟩ (Wnt ((W_ret (thenS_r ?_))))))
       cases h
       exact ⟨[0, 999, 2, 1], True, by kernel_rfl, trivial⟩
      ·refine Ww [0, 1, 2] [0, 2, 11] ⟨[(0, pA 0 0), (2, S s6), (11, I i53)], [.cells [.sl 1 0 k2, .sl 2 0 k4], nO x1, lR x3]⟩ (W_skip (thenS_n (Wsr ((Wp 8 [0, 1, 2, 3] [0, 80, 84] T2 ⟨[(0, pA 0 0), (80, SL 1 0 k2), (84, .one (.e (.sl 3 0 ([(⟨0, s6, i53⟩ : Edt)].length))))], [.cells [.sl 1 0 k2, .sl 2 0 k4], nO x1, lR x3, .row .edt [(⟨0, s6, i53⟩ : Edt)] true]⟩ t2 (bindO_e h (fun v88 hc85 h => ?_)))))))
       obtain ⟨x83, b84⟩ := v88
       refine Wc [.view 0, .ro 3] rfl rfl rfl Tryz.func91 rfl (spec_ApplyEdits_ok n ((x1.drop 0).take k2) [(⟨0, s6, i53⟩ : Edt)] x83 b84 hc85) (aI (aI rfl rfl) (trivial)) rfl (Ws 5 [0, 1, 2, 4] [0, 17, 18] ⟨[(0, pA 0 0), (17, sF 3 x83), (18, B b84)], [.cells [.sl 1 0 k2, .sl 2 0 k4], nO x1, lR x3, nO x83]⟩ (Wnt ((W_seq (Wsr ((Ws 2 [0, 1, 2, 3] [0, 17, 89] ⟨[(0, pA 0 0), (17, sF 3 x83), (89, B (!b84))], [.cells [.sl 1 0 k2, .sl 2 0 k4], nO x1, lR x3, nO x83]⟩ (Wnt ((iteO_e h (fun hb87 h => W_true rfl hb87 ?_) (fun hb87 h => W_false rfl hb87 ?_)))))))))))
       ·refine Wsr ((Ws 1 [0, 1, 2] [8] ⟨[(8, S [110, 111])], [.cells [.sl 1 0 k2, .sl 2 0 k4], nO x1, lR x3]⟩ (Wnt ((W_ret (thenS_r ?_))))))
        cases h
        exact ⟨[0, 999, 2, 1], True, by kernel_rfl, trivial⟩
       ·refine Ww [0, 1, 2, 3] [0, 17] ⟨[(0, pA 0 0), (17, sF 3 x83)], [.cells [.sl 1 0 k2, .sl 2 0 k4], nO x1, lR x3, nO x83]⟩ (W_skip (thenS_n (Wsr ((Wp 5 [0, 1, 2, 3] [] T2 ⟨[], [.cells [.sl 3 0 x83.length, .sl 2 0 k4], nO x1, lR x3, nO x83]⟩ t2 (Wnt ((Wsr ((Ws 1 [0, 1, 2, 3] [8] ⟨[(8, S [111, 107])], [.cells [.sl 3 0 x83.length, .sl 2 0 k4], nO x1, lR x3, nO x83]⟩ (Wnt ((W_ret ?_)))))))))))))
        cases h
        exact ⟨[0, 999, 2, 3], True, by kernel_rfl, trivial⟩

/- spec.mayRead -/
def spec_mayRead_L1 (x2 : List Lck) (i3 : Int) (x50 : List Int) (x1 : List Nod) : Nat → Int → Option ((Unit) ⊕ (Unit))
| 0, _ => none
| n + 1, i67 =>
 iteO (decide (i67 < ((x50.length : Nat) : Int)))
 (guardO (0 ≤ i67 ∧ i67 < ((x50.length : Nat) : Int)) <|
 bindO (spec_held n x2 i3 (x50.getD i67.toNat 0)) fun i90 =>
 iteO (decide (3 ≤ i90))
 (some (.inl ()))
 (spec_mayRead_L1 x2 i3 x50 x1 n (w64 (i67 + 1))))
 (some (.inr ()))

theorem spec_mayRead_L1_ok (w : World) (X : Nat → Prop) (θ : List Loc) (x2 : List Lck) (i3 : Int) (x50 : List Int) (x1 : List Nod) (v : (Unit) ⊕ (Unit)) : ∀ (n : Nat) (i67 : Int), spec_mayRead_L1 x2 i3 x50 x1 n i67 = some v → WL EE ⟨w, X, θ, 28, 2⟩ (subC [1, 1, 0, 1, 4, 4] (bodyC Tryz.f92)) (fun (e : Exit) (s : St) => (match v with | (.inl _) => e = .ret ∧ s = ⟨[(8, B true)], [nR x1, lR x2]⟩ | (.inr _) => e = .exit 0 ∧ s = ⟨[], [nR x1, lR x2]⟩ : Prop)) ⟨[(1, sF 1 x2), (2, I i3), (9, sF 2 x50), (10, I i67)], [nR x1, lR x2, iO x50]⟩ := by
  intro n
  induction n with
  | zero => intro _ h; exact none_e h
  | succ n ih =>
    intro i67 h
    rw [spec_mayRead_L1] at h
    refine WL_round ?_
    refine W_seq (Wsr ((Wp 4 [0, 1, 2] [1, 2, 9, 10, 17] T3 ⟨[(1, sF 1 x2), (2, I i3), (9, sF 2 x50), (10, I i67), (17, B (decide (i67 < (lI x50))))], [nR x1, lR x2, iO x50]⟩ t3 (Wnt ((iteO_e h (fun hb83 h => W_true rfl hb83 ?_) (fun hb83 h => W_false rfl hb83 ?_)))))))
    ·refine Ww [0, 1, 2] [1, 2, 9, 10] ⟨[(1, sF 1 x2), (2, I i3), (9, sF 2 x50), (10, I i67)], [nR x1, lR x2, iO x50]⟩ (W_skip (thenS_n (W_seq (W_block (Wsr ((guardO_e h (fun hg89 h => (Wp 6 [0, 1, 2] [1, 2, 9, 10, 20, 21, 25] ((0 ≤ i67 ∧ i67 < (lI x50)) ∧ T2) ⟨[(1, sF 1 x2), (2, I i3), (9, sF 2 x50), (10, I i67), (20, sF 1 x2), (21, I i3), (25, I (x50.getD i67.toNat 0))], [nR x1, lR x2, iO x50]⟩ ⟨hg89, trivial, trivial⟩ (bindO_e h (fun i90 hc91 h => (Wc [.ro 1] rfl rfl rfl Tryz.func125 rfl (spec_held_ok n x2 i3 (x50.getD i67.toNat 0) i90 hc91) (aI (aI rfl rfl) (trivial)) rfl (Wp 1 [0, 1, 2] [1, 2, 9, 10, 27] T2 ⟨[(1, sF 1 x2), (2, I i3), (9, sF 2 x50), (10, I i67), (27, B (decide (3 ≤ i90)))], [nR x1, lR x2, iO x50]⟩ t2 (Wnt ((iteO_e h (fun hb93 h => W_true rfl hb93 ?_) (fun hb93 h => W_false rfl hb93 ?_)))))))))))))))))
     ·refine Wsr ((Ws 1 [0, 1] [8] ⟨[(8, B true)], [nR x1, lR x2]⟩ (Wnt ((W_ret (blockS_r (thenS_r (thenS_r ?_))))))))
      cases h
      exact aI rfl rfl
     ·refine Ww [0, 1, 2] [1, 2, 9, 10] ⟨[(1, sF 1 x2), (2, I i3), (9, sF 2 x50), (10, I i67)], [nR x1, lR x2, iO x50]⟩ (W_skip (blockS_n (thenS_n (W_region (Wp 3 [0, 1, 2] [1, 2, 9, 10] T2 ⟨[(1, sF 1 x2), (2, I i3), (9, sF 2 x50), (10, I (w64 (i67 + 1)))], [nR x1, lR x2, iO x50]⟩ t2 (Wnt (?_)))))))
      exact ih _ h
    ·refine Ww [0, 1] [] ⟨[], [nR x1, lR x2]⟩ (W_exit (thenS_e (thenS_e ?_)))
     cases h
     exact aI rfl rfl

def spec_mayRead (n : Nat) (x1 : List Nod) (x2 : List Lck) (i3 : Int) (i4 : Int) : Option (Bool) :=
 bindO (spec_pathTo n x1 i4) fun x50 =>
 bindO (spec_mayRead_L1 x2 i3 x50 x1 n 0) fun v94 =>
 match v94 with
 | (.inl _) => (some true)
 | (.inr _) => (some false)


theorem spec_mayRead_ok (n : Nat) (x1 : List Nod) (x2 : List Lck) (i3 : Int) (i4 : Int) (b49 : Bool) (h : spec_mayRead n x1 x2 i3 i4 = some b49) : FOk EE 92 [sF 0 x1, sF 1 x2, I i3, I i4] [nR x1, lR x2] (B b49) [nR x1, lR x2] := by
  unfold spec_mayRead at h
  refine FOk_of_W 28 2 Tryz.func92 rfl rfl (Nat.le_of_ble_eq_true rfl) rfl (fun w X θ => ?_)
  refine Wsr ((Ws 1 [0, 1] [0, 1, 2, 3] ⟨[(0, sF 0 x1), (1, sF 1 x2), (2, I i3), (3, I i4)], [nR x1, lR x2]⟩ (Wnt ((W_seq (W_region ?_))))))
  refine Ws 2 [0, 1] [1, 2, 11, 12] ⟨[(1, sF 1 x2), (2, I i3), (11, sF 0 x1), (12, I i4)], [nR x1, lR x2]⟩ (bindO_e h (fun x50 hc51 h => (Wc [.ro 0] rfl rfl rfl Tryz.func107 rfl (spec_pathTo_ok n x1 i4 x50 hc51) (aI (aI rfl rfl) (trivial)) rfl (Ws 1 [0, 1, 2] [1, 2, 9] ⟨[(1, sF 1 x2), (2, I i3), (9, sF 2 x50)], [nR x1, lR x2, iO x50]⟩ (Wnt ((W_seq ?_)))))))
  refine Wsr ((Ws 1 [0, 1, 2] [1, 2, 9, 10] ⟨[(1, sF 1 x2), (2, I i3), (9, sF 2 x50), (10, I 0)], [nR x1, lR x2, iO x50]⟩ (Wnt ((W_block (W_loop ?_))))))
  refine bindO_e h (fun v94 hv94 h => (WL_cut (spec_mayRead_L1_ok w X θ x2 i3 x50 x1 v94 n 0 hv94) ?_))
  rcases v94 with _ | _
  ·rintro _ _ ⟨rfl, rfl⟩
   refine blockS_r (thenS_r ?_)
   cases h
   exact ⟨[0, 1], True, by kernel_rfl, trivial⟩
  ·rintro _ _ ⟨rfl, rfl⟩
   refine blockS_y (thenS_n (Wsr ((Ws 1 [0, 1] [8] ⟨[(8, B false)], [nR x1, lR x2]⟩ (Wnt ((W_ret ?_)))))))
   cases h
   exact ⟨[0, 1], True, by kernel_rfl, trivial⟩

/- spec.desk).get -/
def spec_desk_get (n : Nat) (x1 : List Nod) (k2 : Nat) (x3 : List Lck) (k4 : Nat) (s5 : Str) (s6 : Str) : Option (Str) :=
 bindO (spec_parseInt n s5) fun (i26, b27) =>
 bindO (spec_resolve n ((x1.drop 0).take k2) s6) fun i29 =>
 bindO (iteO (!b27)
 (some true)
 (iteO (decide (i29 < 0))
 (some true)
 (iteO (!(spec_inRange i26 0 3))
 (some true)
 (bindO (spec_mayRead n ((x1.drop 0).take k2) ((x3.drop 0).take k4) i26 i29) fun b34 =>
 some (!b34))))) fun b36 =>
 iteO b36
 (some [110, 111])
 (guardO (0 ≤ i29 ∧ i29 < ((k2 : Nat) : Int)) <|
 bindO (spec_decimal n ((x1.getD i29.toNat dnod).value)) fun s41 =>
 some s41)

theorem spec_desk_get_ok (n : Nat) (x1 : List Nod) (k2 : Nat) (x3 : List Lck) (k4 : Nat) (s5 : Str) (s6 : Str) (s25 : Str) (h : spec_desk_get n x1 k2 x3 k4 s5 s6 = some s25) : FOk EE 60 [pA 0 0, S s5, S s6] [.cells [.sl 1 0 k2, .sl 2 0 k4], nR x1, lR x3] (S s25) [.cells [.sl 1 0 k2, .sl 2 0 k4], nR x1, lR x3] := by
  unfold spec_desk_get at h
  refine FOk_of_W 55 3 Tryz.func60 rfl rfl (Nat.le_of_ble_eq_true rfl) rfl (fun w X θ => ?_)
  refine Wsr ((Ws 1 [0, 1, 2] [0, 1, 2] ⟨[(0, pA 0 0), (1, S s5), (2, S s6)], [.cells [.sl 1 0 k2, .sl 2 0 k4], nR x1, lR x3]⟩ (Wnt ((W_seq (W_region ?_))))))
  refine Ws 1 [0, 1, 2] [0, 2, 11] ⟨[(0, pA 0 0), (2, S s6), (11, S s5)], [.cells [.sl 1 0 k2, .sl 2 0 k4], nR x1, lR x3]⟩ (bindO_e h (fun v43 hc28 h => ?_))
  obtain ⟨i26, b27⟩ := v43
  refine Wc [] rfl rfl rfl Tryz.func42 rfl (spec_parseInt_ok n s5 i26 b27 hc28) (trivial) rfl (Ws 5 [0, 1, 2] [0, 2, 7, 8] ⟨[(0, pA 0 0), (2, S s6), (7, I i26), (8, B b27)], [.cells [.sl 1 0 k2, .sl 2 0 k4], nR x1, lR x3]⟩ (Wnt ((Wsr ((Wp 5 [0, 1, 2] [0, 7, 8, 18, 19] T2 ⟨[(0, pA 0 0), (7, I i26), (8, B b27), (18, SL 1 0 k2), (19, S s6)], [.cells [.sl 1 0 k2, .sl 2 0 k4], nR x1, lR x3]⟩ t2 ?_))))))
  refine bindO_e h (fun i29 hc30 h => (Wc [.view 0] rfl rfl rfl Tryz.func44 rfl (spec_resolve_ok n ((x1.drop 0).take k2) s6 i29 hc30) (trivial) rfl (Ws 1 [0, 1, 2] [0, 7, 8, 9] ⟨[(0, pA 0 0), (7, I i26), (8, B b27), (9, I i29)], [.cells [.sl 1 0 k2, .sl 2 0 k4], nR x1, lR x3]⟩ (Wnt ((W_seq (W_seq ?_)))))))
  refine bindO_e h (fun b36 hv37 h => (W_cut (Q' := fun (e : Exit) (s : St) => e = .normal ∧ s = ⟨[(0, pA 0 0), (9, I i29), (45, B b36)], [.cells [.sl 1 0 k2, .sl 2 0 k4], nR x1, lR x3]⟩) ?_ ?_))
  ·refine iteO_e hv37 (fun hb31 hv37 => ?_) (fun hb31 hv37 => ?_)
   ·refine W_draw [] false (by kernel_rfl) (by kernel_rfl) (WD_takeQ [0, 1, 2] [0, 7, 9, 23] [0, 7, 9, 23] (φ := True) (ls' := (tf true [3, 22])) (st' := ⟨[(0, pA 0 0), (7, I i26), (9, I i29), (23, B (!b27))], [.cells [.sl 1 0 k2, .sl 2 0 k4], nR x1, lR x3]⟩) (n2 := 22) (by kernel_rfl) trivial rfl (WD_known 23 true rfl rfl hb31 (WD_takeQ [3, 4, 5, 6, 7, 8, 9, 10, 11, 12, 13, 14, 15, 16, 17, 18, 19, 20, 21, 22, 23, 24] [0, 9, 45] [0, 9, 45] (φ := True) (ls' := (tf true [25])) (st' := ⟨[(0, pA 0 0), (9, I i29), (45, B true)], [.cells [.sl 1 0 k2, .sl 2 0 k4], nR x1, lR x3]⟩) (n2 := 0) (by kernel_rfl) trivial rfl ?_)))
    exact WD_done [0, 1, 2] [0, 9, 45] (st' := ⟨[(0, pA 0 0), (9, I i29), (45, B true)], [.cells [.sl 1 0 k2, .sl 2 0 k4], nR x1, lR x3]⟩) (by kernel_rfl) (by kernel_rfl) (aI rfl (by cases hv37; rfl))
   ·refine iteO_e hv37 (fun hb32 hv37 => ?_) (fun hb32 hv37 => ?_)
    ·refine W_draw [] false (by kernel_rfl) (by kernel_rfl) (WD_takeQ [0, 1, 2] [0, 7, 9, 23] [0, 7, 9, 23] (φ := True) (ls' := (tf true [3, 22])) (st' := ⟨[(0, pA 0 0), (7, I i26), (9, I i29), (23, B (!b27))], [.cells [.sl 1 0 k2, .sl 2 0 k4], nR x1, lR x3]⟩) (n2 := 22) (by kernel_rfl) trivial rfl (WD_known 23 false rfl rfl hb31 (WD_takeQ [3, 4, 5, 6] [0, 7, 9, 27] [0, 7, 9, 27] (φ := (True ∧ True ∧ True)) (ls' := (tf true [7, 18])) (st' := ⟨[(0, pA 0 0), (7, I i26), (9, I i29), (27, B (decide (i29 < 0)))], [.cells [.sl 1 0 k2, .sl 2 0 k4], nR x1, lR x3]⟩) (n2 := 18) (by kernel_rfl) t3 rfl (WD_known 27 true rfl rfl hb32 (WD_takeQ [7, 8, 9, 10, 11, 12, 13, 14, 15, 16, 17, 18, 19, 20, 21, 22, 23, 24] [0, 9, 45] [0, 9, 45] (φ := True) (ls' := (tf true [25])) (st' := ⟨[(0, pA 0 0), (9, I i29), (45, B true)], [.cells [.sl 1 0 k2, .sl 2 0 k4], nR x1, lR x3]⟩) (n2 := 0) (by kernel_rfl) trivial rfl ?_)))))
     exact WD_done [0, 1, 2] [0, 9, 45] (st' := ⟨[(0, pA 0 0), (9, I i29), (45, B true)], [.cells [.sl 1 0 k2, .sl 2 0 k4], nR x1, lR x3]⟩) (by kernel_rfl) (by kernel_rfl) (aI rfl (by cases hv37; rfl))
    ·refine iteO_e hv37 (fun hb33 hv37 => ?_) (fun hb33 hv37 => ?_)
     ·refine W_draw [] false (by kernel_rfl) (by kernel_rfl) (WD_takeQ [0, 1, 2] [0, 7, 9, 23] [0, 7, 9, 23] (φ := True) (ls' := (tf true [3, 22])) (st' := ⟨[(0, pA 0 0), (7, I i26), (9, I i29), (23, B (!b27))], [.cells [.sl 1 0 k2, .sl 2 0 k4], nR x1, lR x3]⟩) (n2 := 22) (by kernel_rfl) trivial rfl (WD_known 23 false rfl rfl hb31 (WD_takeQ [3, 4, 5, 6] [0, 7, 9, 27] [0, 7, 9, 27] (φ := (True ∧ True ∧ True)) (ls' := (tf true [7, 18])) (st' := ⟨[(0, pA 0 0), (7, I i26), (9, I i29), (27, B (decide (i29 < 0)))], [.cells [.sl 1 0 k2, .sl 2 0 k4], nR x1, lR x3]⟩) (n2 := 18) (by kernel_rfl) t3 rfl (WD_known 27 false rfl rfl hb32 (WD_takeQ [7] [0, 7, 9, 27, 28] [0, 7, 9, 27, 28] (φ := True) (ls' := (tf true [8, 17])) (st' := ⟨[(0, pA 0 0), (7, I i26), (9, I i29), (27, B false), (28, I i26)], [.cells [.sl 1 0 k2, .sl 2 0 k4], nR x1, lR x3]⟩) (n2 := 17) (by kernel_rfl) trivial rfl (WD_all [8] (n := 16) (by kernel_rfl) rfl (WM_call [] Tryz.f71 rfl rfl (by kernel_rfl) Tryz.func71 rfl (by kernel_rfl) (spec_inRange_ok i26 0 3) (trivial) rfl (aI (aI rfl rfl) (aI rfl (aI rfl (trivial)))) (WD_takeQ [9, 10, 11] [0, 7, 9, 32] [0, 7, 9, 32] (φ := True) (ls' := (tf true [12, 13])) (st' := ⟨[(0, pA 0 0), (7, I i26), (9, I i29), (32, B (!(spec_inRange i26 0 3)))], [.cells [.sl 1 0 k2, .sl 2 0 k4], nR x1, lR x3]⟩) (n2 := 13) (by kernel_rfl) trivial rfl (WD_known 32 true rfl rfl hb33 (WD_takeQ [12, 13, 14, 15, 16, 17, 18, 19, 20, 21, 22, 23, 24] [0, 9, 45] [0, 9, 45] (φ := True) (ls' := (tf true [25])) (st' := ⟨[(0, pA 0 0), (9, I i29), (45, B true)], [.cells [.sl 1 0 k2, .sl 2 0 k4], nR x1, lR x3]⟩) (n2 := 0) (by kernel_rfl) trivial rfl ?_))))))))))
      exact WD_done [0, 1, 2] [0, 9, 45] (st' := ⟨[(0, pA 0 0), (9, I i29), (45, B true)], [.cells [.sl 1 0 k2, .sl 2 0 k4], nR x1, lR x3]⟩) (by kernel_rfl) (by kernel_rfl) (aI rfl (by cases hv37; rfl))
     ·refine bindO_e hv37 (fun b34 hc35 hv37 => (W_draw [] false (by kernel_rfl) (by kernel_rfl) (WD_takeQ [0, 1, 2] [0, 7, 9, 23] [0, 7, 9, 23] (φ := True) (ls' := (tf true [3, 22])) (st' := ⟨[(0, pA 0 0), (7, I i26), (9, I i29), (23, B (!b27))], [.cells [.sl 1 0 k2, .sl 2 0 k4], nR x1, lR x3]⟩) (n2 := 22) (by kernel_rfl) trivial rfl (WD_known 23 false rfl rfl hb31 (WD_takeQ [3, 4, 5, 6] [0, 7, 9, 27] [0, 7, 9, 27] (φ := (True ∧ True ∧ True)) (ls' := (tf true [7, 18])) (st' := ⟨[(0, pA 0 0), (7, I i26), (9, I i29), (27, B (decide (i29 < 0)))], [.cells [.sl 1 0 k2, .sl 2 0 k4], nR x1, lR x3]⟩) (n2 := 18) (by kernel_rfl) t3 rfl (WD_known 27 false rfl rfl hb32 (WD_takeQ [7] [0, 7, 9, 27, 28] [0, 7, 9, 27, 28] (φ := True) (ls' := (tf true [8, 17])) (st' := ⟨[(0, pA 0 0), (7, I i26), (9, I i29), (27, B false), (28, I i26)], [.cells [.sl 1 0 k2, .sl 2 0 k4], nR x1, lR x3]⟩) (n2 := 17) (by kernel_rfl) trivial rfl (WD_all [8] (n := 16) (by kernel_rfl) rfl (WM_call [] Tryz.f71 rfl rfl (by kernel_rfl) Tryz.func71 rfl (by kernel_rfl) (spec_inRange_ok i26 0 3) (trivial) rfl (aI (aI rfl rfl) (aI rfl (aI rfl (trivial)))) (WD_takeQ [9, 10, 11] [0, 7, 9, 32] [0, 7, 9, 32] (φ := True) (ls' := (tf true [12, 13])) (st' := ⟨[(0, pA 0 0), (7, I i26), (9, I i29), (32, B (!(spec_inRange i26 0 3)))], [.cells [.sl 1 0 k2, .sl 2 0 k4], nR x1, lR x3]⟩) (n2 := 13) (by kernel_rfl) trivial rfl (WD_known 32 false rfl rfl hb33 (WD_takeQ [12, 13, 14, 16, 17, 18, 20, 21] [0, 9, 32, 35, 39, 41, 42] [0, 9, 32, 35, 39, 41, 42] (φ := True) (ls' := (tf true [15, 1, 3, 1, 2, 3])) (st' := ⟨[(0, pA 0 0), (9, I i29), (32, B false), (35, pA 0 0), (39, pA 0 1), (41, I i26), (42, I i29)], [.cells [.sl 1 0 k2, .sl 2 0 k4], nR x1, lR x3]⟩) (n2 := 5) (by kernel_rfl) trivial rfl (WD_all [15, 19] (n := 4) (by kernel_rfl) rfl (aI ?_ (?_)))))))))))))))
      ·refine WM_op (φ := True) (v := SL 1 0 k2) (H' := [.cells [.sl 1 0 k2, .sl 2 0 k4], nR x1, lR x3]) rfl rfl (by kernel_rfl) trivial rfl (aI (aI rfl rfl) (aI rfl (aI rfl (trivial)))) (WD_all [19] (n := 3) (by kernel_rfl) rfl (WM_op (φ := True) (v := SL 2 0 k4) (H' := [.cells [.sl 1 0 k2, .sl 2 0 k4], nR x1, lR x3]) rfl rfl (by kernel_rfl) trivial rfl (aI (aI rfl rfl) (aI rfl (aI rfl (trivial)))) (WD_all [22] (n := 2) (by kernel_rfl) rfl (WM_call [.view 0, .view 1] Tryz.f92 rfl rfl (by kernel_rfl) Tryz.func92 rfl (by kernel_rfl) (spec_mayRead_ok n ((x1.drop 0).take k2) ((x3.drop 0).take k4) i26 i29 b34 hc35) (trivial) rfl (aI (aI rfl rfl) (aI rfl (aI rfl (trivial)))) (WD_takeQ [23, 24] [0, 9, 45] [0, 9, 45] (φ := True) (ls' := (tf true [25])) (st' := ⟨[(0, pA 0 0), (9, I i29), (45, B (!b34))], [.cells [.sl 1 0 k2, .sl 2 0 k4], nR x1, lR x3]⟩) (n2 := 0) (by kernel_rfl) trivial rfl ?_)))))
       exact WD_done [0, 1, 2] [0, 9, 45] (st' := ⟨[(0, pA 0 0), (9, I i29), (45, B (!b34))], [.cells [.sl 1 0 k2, .sl 2 0 k4], nR x1, lR x3]⟩) (by kernel_rfl) (by kernel_rfl) (aI rfl (by cases hv37; rfl))
      ·refine WM_op (φ := True) (v := SL 2 0 k4) (H' := [.cells [.sl 1 0 k2, .sl 2 0 k4], nR x1, lR x3]) rfl rfl (by kernel_rfl) trivial rfl (aI (aI rfl rfl) (aI rfl (aI rfl (trivial)))) (WD_all [15] (n := 3) (by kernel_rfl) rfl (WM_op (φ := True) (v := SL 1 0 k2) (H' := [.cells [.sl 1 0 k2, .sl 2 0 k4], nR x1, lR x3]) rfl rfl (by kernel_rfl) trivial rfl (aI (aI rfl rfl) (aI rfl (aI rfl (trivial)))) (WD_all [22] (n := 2) (by kernel_rfl) rfl (WM_call [.view 0, .view 1] Tryz.f92 rfl rfl (by kernel_rfl) Tryz.func92 rfl (by kernel_rfl) (spec_mayRead_ok n ((x1.drop 0).take k2) ((x3.drop 0).take k4) i26 i29 b34 hc35) (trivial) rfl (aI (aI rfl rfl) (aI rfl (aI rfl (trivial)))) (WD_takeQ [23, 24] [0, 9, 45] [0, 9, 45] (φ := True) (ls' := (tf true [25])) (st' := ⟨[(0, pA 0 0), (9, I i29), (45, B (!b34))], [.cells [.sl 1 0 k2, .sl 2 0 k4], nR x1, lR x3]⟩) (n2 := 0) (by kernel_rfl) trivial rfl ?_)))))
       exact WD_done [0, 1, 2] [0, 9, 45] (st' := ⟨[(0, pA 0 0), (9, I i29), (45, B (!b34))], [.cells [.sl 1 0 k2, .sl 2 0 k4], nR x1, lR x3]⟩) (by kernel_rfl) (by kernel_rfl) (aI rfl (by cases hv37; rfl))
  ·rintro _ _ ⟨rfl, rfl⟩
   refine thenS_n (iteO_e h (fun hb39 h => W_true rfl hb39 ?_) (fun hb39 h => W_false rfl hb39 ?_))
   ·refine Wsr ((Ws 1 [0, 1, 2] [6] ⟨[(6, S [110, 111])], [.cells [.sl 1 0 k2, .sl 2 0 k4], nR x1, lR x3]⟩ (Wnt ((W_ret (thenS_r ?_))))))
    cases h
    exact ⟨[0, 1, 2], True, by kernel_rfl, trivial⟩
   ·refine Ww [0, 1, 2] [0, 9] ⟨[(0, pA 0 0), (9, I i29)], [.cells [.sl 1 0 k2, .sl 2 0 k4], nR x1, lR x3]⟩ (W_skip (thenS_n (Wsr ((guardO_e h (fun hg40 h => (Wp 8 [0, 1, 2] [53] (True ∧ ((0 ≤ i29 ∧ i29 < ((k2 : Nat) : Int)) ∧ T2)) ⟨[(53, I ((x1.getD i29.toNat dnod).value))], [.cells [.sl 1 0 k2, .sl 2 0 k4], nR x1, lR x3]⟩ ⟨trivial, hg40, trivial, trivial⟩ (bindO_e h (fun s41 hc42 h => (Wc [] rfl rfl rfl Tryz.func24 rfl (spec_decimal_ok n ((x1.getD i29.toNat dnod).value) s41 hc42) (trivial) rfl (Ws 1 [0, 1, 2] [6] ⟨[(6, S s41)], [.cells [.sl 1 0 k2, .sl 2 0 k4], nR x1, lR x3]⟩ (Wnt ((W_ret ?_))))))))))))))
    cases h
    exact ⟨[0, 1, 2], True, by kernel_rfl, trivial⟩

/- spec.needAbove -/
def spec_needAbove (i1 : Int) : Option (Int) :=
 bindO (iteO (decide (i1 = 1))
 (some (decide (i1 = 1)))
 (some (decide (i1 = 3)))) fun b67 =>
 iteO b67
 (some 1)
 (bindO (iteO (decide (i1 = 2))
 (some (decide (i1 = 2)))
 (bindO (iteO (decide (i1 = 4))
 (some (decide (i1 = 4)))
 (some (decide (i1 = 5)))) fun b88 =>
 some b88)) fun b84 =>
 iteO b84
 (some 2)
 (some 0))

theorem spec_needAbove_ok (i1 : Int) (i44 : Int) (h : spec_needAbove i1 = some i44) : FOk EE 128 [I i1] [] (I i44) [] := by
  unfold spec_needAbove at h
  refine FOk_of_W 11 0 Tryz.func128 rfl rfl (Nat.le_of_ble_eq_true rfl) rfl (fun w X θ => ?_)
  refine Wsr ((Ws 1 [] [0] ⟨[(0, I i1)], []⟩ (Wnt ((W_seq (W_seq ?_))))))
  refine W_region (Ws 1 [] [3] ⟨[(3, I i1)], []⟩ (Wnt ((W_block (W_seq (W_seq ?_))))))
  refine W_region (Wp 2 [] [3, 4] T2 ⟨[(3, I i1), (4, B (decide (i1 = 1)))], []⟩ t2 (Wnt ((bindO_e h (fun b67 hb67 h => (W_cut (Q' := fun (e : Exit) (s : St) => e = .normal ∧ s = ⟨[(3, I i1), (4, B b67)], []⟩) ?_ ?_))))))
  ·refine iteO_e hb67 (fun hb69 hb67 => W_true rfl hb69 ?_) (fun hb69 hb67 => W_false rfl hb69 ?_)
   ·refine W_skip ?_
    cases hb67
    exact aI rfl rfl
   ·refine W_region (Wp 2 [] [3, 4] T2 ⟨[(3, I i1), (4, B (decide (i1 = 3)))], []⟩ t2 (WO_nil rfl ?_))
    cases hb67
    exact aI rfl rfl
  ·rintro _ _ ⟨rfl, rfl⟩
   refine thenS_n (iteO_e h (fun hb79 h => W_true rfl hb79 ?_) (fun hb79 h => W_false rfl hb79 ?_))
   ·refine Wsr ((Ws 1 [] [2] ⟨[(2, I 1)], []⟩ (Wnt ((W_ret (blockS_r (thenS_r ?_)))))))
    cases h
    exact ⟨[], True, by kernel_rfl, trivial⟩
   ·refine W_seq (Wsr ((Wp 2 [] [3, 7] T2 ⟨[(3, I i1), (7, B (decide (i1 = 2)))], []⟩ t2 (Wnt ((bindO_e h (fun b84 hb84 h => (W_cut (Q' := fun (e : Exit) (s : St) => e = .normal ∧ s = ⟨[(7, B b84)], []⟩) ?_ ?_))))))))
    ·refine iteO_e hb84 (fun hb86 hb84 => W_true rfl hb86 ?_) (fun hb86 hb84 => W_false rfl hb86 ?_)
     ·refine Ww [] [7] ⟨[(7, B (decide (i1 = 2)))], []⟩ (W_skip ?_)
      cases hb84
      exact aI rfl rfl
     ·refine Wsr ((Wp 2 [] [3, 7] T2 ⟨[(3, I i1), (7, B (decide (i1 = 4)))], []⟩ t2 (Wnt ((bindO_e hb84 (fun b88 hb88 hb84 => (W_cut (Q' := fun (e : Exit) (s : St) => e = .normal ∧ s = ⟨[(7, B b88)], []⟩) ?_ ?_)))))))
      ·refine iteO_e hb88 (fun hb90 hb88 => W_true rfl hb90 ?_) (fun hb90 hb88 => W_false rfl hb90 ?_)
       ·refine Ww [] [7] ⟨[(7, B (decide (i1 = 4)))], []⟩ (W_skip ?_)
        cases hb88
        exact aI rfl rfl
       ·refine W_region (Wp 2 [] [7] T2 ⟨[(7, B (decide (i1 = 5)))], []⟩ t2 (WO_nil rfl ?_))
        cases hb88
        exact aI rfl rfl
      ·rintro _ _ ⟨rfl, rfl⟩
       cases hb84
       exact aI rfl rfl
    ·rintro _ _ ⟨rfl, rfl⟩
     refine thenS_n (iteO_e h (fun hb92 h => W_true rfl hb92 ?_) (fun hb92 h => W_false rfl hb92 ?_))
     ·refine Wsr ((Ws 1 [] [2] ⟨[(2, I 2)], []⟩ (Wnt ((W_ret (blockS_r (thenS_r ?_)))))))
      cases h
      exact ⟨[], True, by kernel_rfl, trivial⟩
     ·refine Ww [] [] ⟨[], []⟩ (W_skip (blockS_n (thenS_n (Wsr ((Ws 1 [] [2] ⟨[(2, I 0)], []⟩ (Wnt ((W_ret ?_)))))))))
      cases h
      exact ⟨[], True, by kernel_rfl, trivial⟩

/- spec.locksFor -/
def spec_locksFor_L1 (i2 : Int) (i3 : Int) (i4 : Int) (x51 : List Int) (x1 : List Nod) : Nat → (List Lck) → Int → Option ((List Lck))
| 0, _, _ => none
| n + 1, x69, i70 =>
 iteO (decide ((w64 (i70 + 1)) < ((x51.length : Nat) : Int)))
 (guardO (0 ≤ i70 ∧ i70 < ((x51.length : Nat) : Int)) <|
 bindO (spec_needAbove i4) fun i92 =>
 guardO (0 = 0 ∧ x69.length = x69.length ∧ x69.length + (([(⟨i2, (x51.getD i70.toNat 0), i92⟩ : Lck)].drop 0).take ([(⟨i2, (x51.getD i70.toNat 0), i92⟩ : Lck)].length)).length ≤ 1099511627776) <|
 spec_locksFor_L1 i2 i3 i4 x51 x1 n (x69 ++ (([(⟨i2, (x51.getD i70.toNat 0), i92⟩ : Lck)].drop 0).take ([(⟨i2, (x51.getD i70.toNat 0), i92⟩ : Lck)].length))) (w64 (i70 + 1)))
 (some x69)

theorem spec_locksFor_L1_ok (w : World) (X : Nat → Prop) (θ : List Loc) (i2 : Int) (i3 : Int) (i4 : Int) (x51 : List Int) (x1 : List Nod) (x83 : (List Lck)) : ∀ (n : Nat) (x69 : List Lck) (i70 : Int), spec_locksFor_L1 i2 i3 i4 x51 x1 n x69 i70 = some x83 → WL EE ⟨w, X, θ, 41, 1⟩ (subC [1, 1, 1, 0, 1, 4, 4] (bodyC Tryz.f94)) (fun (e : Exit) (s : St) => e = .exit 0 ∧ s = ⟨[(1, I i2), (2, I i3), (3, I i4), (9, sF 1 x83)], [nR x1, lO x83]⟩) ⟨[(1, I i2), (2, I i3), (3, I i4), (9, sF 1 x69), (10, sF 2 x51), (11, I i70)], [nR x1, lO x69, iO x51]⟩ := by
  intro n
  induction n with
  | zero => intro _ _ h; exact none_e h
  | succ n ih =>
    intro x69 i70 h
    rw [spec_locksFor_L1] at h
    refine WL_round ?_
    refine W_seq (Wsr ((Wp 5 [0, 1, 2] [1, 2, 3, 9, 10, 11, 20] T4 ⟨[(1, I i2), (2, I i3), (3, I i4), (9, sF 1 x69), (10, sF 2 x51), (11, I i70), (20, B (decide ((w64 (i70 + 1)) < (lI x51))))], [nR x1, lO x69, iO x51]⟩ t4 (Wnt ((iteO_e h (fun hb86 h => W_true rfl hb86 ?_) (fun hb86 h => W_false rfl hb86 ?_)))))))
    ·refine Ww [0, 1, 2] [1, 2, 3, 9, 10, 11] ⟨[(1, I i2), (2, I i3), (3, I i4), (9, sF 1 x69), (10, sF 2 x51), (11, I i70)], [nR x1, lO x69, iO x51]⟩ (W_skip (thenS_n (W_seq (W_block (guardO_e h (fun hg91 h => (bindO_e h (fun i92 hc93 h => (guardO_e h (fun hg94 h => (W_cut (Q' := fun (e : Exit) (s : St) => e = .normal ∧ s = ⟨[(1, I i2), (2, I i3), (3, I i4), (9, .one (.e (.sl 1 0 ((x69 ++ (([(⟨i2, (x51.getD i70.toNat 0), i92⟩ : Lck)].drop 0).take ([(⟨i2, (x51.getD i70.toNat 0), i92⟩ : Lck)].length))).length)))), (10, sF 2 x51), (11, I i70)], [nR x1, .row .lck (x69 ++ (([(⟨i2, (x51.getD i70.toNat 0), i92⟩ : Lck)].drop 0).take ([(⟨i2, (x51.getD i70.toNat 0), i92⟩ : Lck)].length))) true, iO x51]⟩) ?_ ?_)))))))))))
     ·refine W_draw [1] false (by kernel_rfl) (by kernel_rfl) (WD_takeQ [0, 1, 2, 3, 4, 5, 6] [1, 2, 3, 9, 10, 11, 23, 24, 28, 29] [1, 2, 3, 9, 10, 11, 23, 24, 28, 29] (φ := ((0 ≤ i70 ∧ i70 < (lI x51)) ∧ (0 ≤ i70 ∧ i70 < (lI x51)) ∧ (True ∧ True ∧ True))) (ls' := (tf true [7, 5])) (st' := ⟨[(1, I i2), (2, I i3), (3, I i4), (9, sF 1 x69), (10, sF 2 x51), (11, I i70), (23, sF 1 x69), (24, I i2), (28, I (x51.getD i70.toNat 0)), (29, I i4)], [nR x1, lO x69, iO x51]⟩) (n2 := 5) (by kernel_rfl) ⟨hg91, hg91, trivial, trivial, trivial⟩ rfl (WD_all [7] (n := 4) (by kernel_rfl) rfl (WM_call [] Tryz.f128 rfl rfl (by kernel_rfl) Tryz.func128 rfl (by kernel_rfl) (spec_needAbove_ok i4 i92 hc93) (trivial) rfl (aI rfl (aI rfl (trivial))) (WD_takeQ [8] [1, 2, 3, 9, 10, 11, 23, 31] [1, 2, 3, 9, 10, 11, 23, 31] (φ := True) (ls' := (tf true [9, 3])) (st' := ⟨[(1, I i2), (2, I i3), (3, I i4), (9, sF 1 x69), (10, sF 2 x51), (11, I i70), (23, sF 1 x69), (31, AGG [cI i2, cI (x51.getD i70.toNat 0), cI i92])], [nR x1, lO x69, iO x51]⟩) (n2 := 3) (by kernel_rfl) trivial rfl (WD_all [9] (n := 2) (by kernel_rfl) rfl (WM_op (φ := True) (v := .one (.e (.sl 3 0 ([(⟨i2, (x51.getD i70.toNat 0), i92⟩ : Lck)].length)))) (H' := [nR x1, lO x69, iO x51, .row .lck [(⟨i2, (x51.getD i70.toNat 0), i92⟩ : Lck)] true]) rfl rfl (by kernel_rfl) trivial rfl (aI rfl (aI rfl (trivial))) (WD_all [10] (n := 1) (by kernel_rfl) rfl (WM_op (φ := 0 = 0 ∧ x69.length = x69.length ∧ x69.length + (([(⟨i2, (x51.getD i70.toNat 0), i92⟩ : Lck)].drop 0).take ([(⟨i2, (x51.getD i70.toNat 0), i92⟩ : Lck)].length)).length ≤ 1099511627776) (v := .one (.e (.sl 4 0 ((x69 ++ (([(⟨i2, (x51.getD i70.toNat 0), i92⟩ : Lck)].drop 0).take ([(⟨i2, (x51.getD i70.toNat 0), i92⟩ : Lck)].length))).length)))) (H' := [nR x1, .dead, iO x51, .row .lck [(⟨i2, (x51.getD i70.toNat 0), i92⟩ : Lck)] true, .row .lck (x69 ++ (([(⟨i2, (x51.getD i70.toNat 0), i92⟩ : Lck)].drop 0).take ([(⟨i2, (x51.getD i70.toNat 0), i92⟩ : Lck)].length))) true]) rfl rfl (by kernel_rfl) hg94 rfl (aI rfl (aI rfl (trivial))) (WD_all [11] (n := 0) (by kernel_rfl) rfl (WM_op (φ := True) (v := .one (.e (.sl 4 0 ((x69 ++ (([(⟨i2, (x51.getD i70.toNat 0), i92⟩ : Lck)].drop 0).take ([(⟨i2, (x51.getD i70.toNat 0), i92⟩ : Lck)].length))).length)))) (H' := [nR x1, .dead, iO x51, .row .lck [(⟨i2, (x51.getD i70.toNat 0), i92⟩ : Lck)] true, .row .lck (x69 ++ (([(⟨i2, (x51.getD i70.toNat 0), i92⟩ : Lck)].drop 0).take ([(⟨i2, (x51.getD i70.toNat 0), i92⟩ : Lck)].length))) true]) rfl rfl (by kernel_rfl) trivial rfl (aI rfl (aI rfl (trivial))) ?_))))))))))
      exact WD_done [0, 4, 2] [1, 2, 3, 9, 10, 11] (st' := ⟨[(1, I i2), (2, I i3), (3, I i4), (9, .one (.e (.sl 1 0 ((x69 ++ (([(⟨i2, (x51.getD i70.toNat 0), i92⟩ : Lck)].drop 0).take ([(⟨i2, (x51.getD i70.toNat 0), i92⟩ : Lck)].length))).length)))), (10, sF 2 x51), (11, I i70)], [nR x1, .row .lck (x69 ++ (([(⟨i2, (x51.getD i70.toNat 0), i92⟩ : Lck)].drop 0).take ([(⟨i2, (x51.getD i70.toNat 0), i92⟩ : Lck)].length))) true, iO x51]⟩) (by kernel_rfl) (by kernel_rfl) (aI rfl rfl)
     ·rintro _ _ ⟨rfl, rfl⟩
      refine blockS_n (thenS_n (W_region (Wp 3 [0, 1, 2] [1, 2, 3, 9, 10, 11] T2 ⟨[(1, I i2), (2, I i3), (3, I i4), (9, .one (.e (.sl 1 0 ((x69 ++ (([(⟨i2, (x51.getD i70.toNat 0), i92⟩ : Lck)].drop 0).take ([(⟨i2, (x51.getD i70.toNat 0), i92⟩ : Lck)].length))).length)))), (10, sF 2 x51), (11, I (w64 (i70 + 1)))], [nR x1, .row .lck (x69 ++ (([(⟨i2, (x51.getD i70.toNat 0), i92⟩ : Lck)].drop 0).take ([(⟨i2, (x51.getD i70.toNat 0), i92⟩ : Lck)].length))) true, iO x51]⟩ t2 (Wnt (?_)))))
      exact ih _ _ h
    ·refine Ww [0, 1] [1, 2, 3, 9] ⟨[(1, I i2), (2, I i3), (3, I i4), (9, sF 1 x69)], [nR x1, lO x69]⟩ (W_exit (thenS_e (thenS_e ?_)))
     cases h
     exact aI rfl rfl

def spec_locksFor (n : Nat) (x1 : List Nod) (i2 : Int) (i3 : Int) (i4 : Int) : Option ((List Lck)) :=
 bindO (spec_pathTo n x1 i3) fun x51 =>
 bindO (spec_locksFor_L1 i2 i3 i4 x51 x1 n ([] : List Lck) 0) fun x83 =>
 guardO (0 = 0 ∧ x83.length = x83.length ∧ x83.length + (([(⟨i2, i3, i4⟩ : Lck)].drop 0).take ([(⟨i2, i3, i4⟩ : Lck)].length)).length ≤ 1099511627776) <|
 some (x83 ++ (([(⟨i2, i3, i4⟩ : Lck)].drop 0).take ([(⟨i2, i3, i4⟩ : Lck)].length)))

theorem spec_locksFor_ok (n : Nat) (x1 : List Nod) (i2 : Int) (i3 : Int) (i4 : Int) (x50 : List Lck) (h : spec_locksFor n x1 i2 i3 i4 = some x50) : FOk EE 94 [sF 0 x1, I i2, I i3, I i4] [nR x1] (sF 1 x50) [nR x1, lO x50] := by
  unfold spec_locksFor at h
  refine FOk_of_W 41 1 Tryz.func94 rfl rfl (Nat.le_of_ble_eq_true rfl) rfl (fun w X θ => ?_)
  refine Wsr ((Ws 1 [0] [0, 1, 2, 3] ⟨[(0, sF 0 x1), (1, I i2), (2, I i3), (3, I i4)], [nR x1]⟩ (Wnt ((W_seq (W_region ?_))))))
  refine Ws 2 [0, 1] [0, 1, 2, 3, 9] ⟨[(0, sF 0 x1), (1, I i2), (2, I i3), (3, I i4), (9, .one (.e (.sl 1 0 (([] : List Lck).length))))], [nR x1, lO ([] : List Lck)]⟩ (Wnt ((Wsr ((Ws 2 [0, 1] [1, 2, 3, 9, 13, 14] ⟨[(1, I i2), (2, I i3), (3, I i4), (9, .one (.e (.sl 1 0 (([] : List Lck).length)))), (13, sF 0 x1), (14, I i3)], [nR x1, lO ([] : List Lck)]⟩ (bindO_e h (fun x51 hc52 h => ?_)))))))
  refine Wc [.ro 0] rfl rfl rfl Tryz.func107 rfl (spec_pathTo_ok n x1 i3 x51 hc52) (aI (aI rfl rfl) (trivial)) rfl (Ws 1 [0, 1, 2] [1, 2, 3, 9, 10] ⟨[(1, I i2), (2, I i3), (3, I i4), (9, .one (.e (.sl 1 0 (([] : List Lck).length)))), (10, sF 2 x51)], [nR x1, lO ([] : List Lck), iO x51]⟩ (Wnt ((W_seq (W_seq (W_region ?_))))))
  refine Ws 1 [0, 1, 2] [1, 2, 3, 9, 10, 11] ⟨[(1, I i2), (2, I i3), (3, I i4), (9, .one (.e (.sl 1 0 (([] : List Lck).length)))), (10, sF 2 x51), (11, I 0)], [nR x1, lO ([] : List Lck), iO x51]⟩ (Wnt ((W_block (W_loop (bindO_e h (fun x83 hx83 h => (WL_cut (spec_locksFor_L1_ok w X θ i2 i3 i4 x51 x1 x83 n ([] : List Lck) 0 hx83) ?_)))))))
  rintro _ _ ⟨rfl, rfl⟩
  refine blockS_y (thenS_n (Wsr ((guardO_e h (fun hg96 h => (Wp 8 [0, 3] [8] ((0 = 0 ∧ x83.length = x83.length ∧ x83.length + (([(⟨i2, i3, i4⟩ : Lck)].drop 0).take ([(⟨i2, i3, i4⟩ : Lck)].length)).length ≤ 1099511627776) ∧ True) ⟨[(8, .one (.e (.sl 1 0 ((x83 ++ (([(⟨i2, i3, i4⟩ : Lck)].drop 0).take ([(⟨i2, i3, i4⟩ : Lck)].length))).length))))], [nR x1, .row .lck (x83 ++ (([(⟨i2, i3, i4⟩ : Lck)].drop 0).take ([(⟨i2, i3, i4⟩ : Lck)].length))) true]⟩ ⟨hg96, trivial⟩ (WO_nil rfl ?_)))))))
  refine thenS_n (W_ret ?_)
  cases h
  exact ⟨[0, 1], True, by kernel_rfl, trivial⟩

/- spec.goTogether -/
def spec_goTogether (i1 : Int) (i2 : Int) : Option (Bool) :=
 iteO (decide ((if i2 < i1 then i2 else i1) = 0))
 (some true)
 (iteO (decide ((if i2 < i1 then i2 else i1) = 1))
 (some (!decide ((if i2 > i1 then i2 else i1) = 5)))
 (iteO (decide ((if i2 < i1 then i2 else i1) = 2))
 (some (decide ((if i2 > i1 then i2 else i1) = 2)))
 (iteO (decide ((if i2 < i1 then i2 else i1) = 3))
 (some (decide ((if i2 > i1 then i2 else i1) = 3)))
 (some false))))

theorem spec_goTogether_ok (i1 : Int) (i2 : Int) (b63 : Bool) (h : spec_goTogether i1 i2 = some b63) : FOk EE 129 [I i1, I i2] [] (B b63) [] := by
  unfold spec_goTogether at h
  refine FOk_of_W 28 0 Tryz.func129 rfl rfl (Nat.le_of_ble_eq_true rfl) rfl (fun w X θ => ?_)
  refine Wsr ((Ws 1 [] [0, 1] ⟨[(0, I i1), (1, I i2)], []⟩ (Wnt ((W_seq (W_region ?_))))))
  refine Wp 4 [] [0, 1, 5] T2 ⟨[(0, I i1), (1, I i2), (5, I (if i2 < i1 then i2 else i1))], []⟩ t2 (Wnt ((Wsr ((Wp 4 [] [5, 6] T2 ⟨[(5, I (if i2 < i1 then i2 else i1)), (6, I (if i2 > i1 then i2 else i1))], []⟩ t2 (WO_nil rfl ?_))))))
  refine thenS_n (W_seq (Wsr ((Ws 1 [] [6, 13] ⟨[(6, I (if i2 > i1 then i2 else i1)), (13, I (if i2 < i1 then i2 else i1))], []⟩ (Wnt (?_))))))
  refine W_block (Wsr ((Wp 2 [] [6, 13, 14] T2 ⟨[(6, I (if i2 > i1 then i2 else i1)), (13, I (if i2 < i1 then i2 else i1)), (14, B (decide ((if i2 < i1 then i2 else i1) = 0)))], []⟩ t2 (Wnt ((iteO_e h (fun hb109 h => W_true rfl hb109 ?_) (fun hb109 h => W_false rfl hb109 ?_)))))))
  ·refine Wsr ((Ws 1 [] [4] ⟨[(4, B true)], []⟩ (Wnt ((W_ret (blockS_r (thenS_r ?_)))))))
   cases h
   exact ⟨[], True, by kernel_rfl, trivial⟩
  ·refine Wsr ((Wp 2 [] [6, 13, 16] T2 ⟨[(6, I (if i2 > i1 then i2 else i1)), (13, I (if i2 < i1 then i2 else i1)), (16, B (decide ((if i2 < i1 then i2 else i1) = 1)))], []⟩ t2 (Wnt ((iteO_e h (fun hb117 h => W_true rfl hb117 ?_) (fun hb117 h => W_false rfl hb117 ?_))))))
   ·refine Wsr ((Wp 3 [] [4] T2 ⟨[(4, B (!decide ((if i2 > i1 then i2 else i1) = 5)))], []⟩ t2 (Wnt ((W_ret (blockS_r (thenS_r ?_)))))))
    cases h
    exact ⟨[], True, by kernel_rfl, trivial⟩
   ·refine Wsr ((Wp 2 [] [6, 13, 20] T2 ⟨[(6, I (if i2 > i1 then i2 else i1)), (13, I (if i2 < i1 then i2 else i1)), (20, B (decide ((if i2 < i1 then i2 else i1) = 2)))], []⟩ t2 (Wnt ((iteO_e h (fun hb121 h => W_true rfl hb121 ?_) (fun hb121 h => W_false rfl hb121 ?_))))))
    ·refine Wsr ((Wp 3 [] [4] T2 ⟨[(4, B (decide ((if i2 > i1 then i2 else i1) = 2)))], []⟩ t2 (Wnt ((W_ret (blockS_r (thenS_r ?_)))))))
     cases h
     exact ⟨[], True, by kernel_rfl, trivial⟩
    ·refine Wsr ((Wp 2 [] [6, 24] T2 ⟨[(6, I (if i2 > i1 then i2 else i1)), (24, B (decide ((if i2 < i1 then i2 else i1) = 3)))], []⟩ t2 (Wnt ((iteO_e h (fun hb123 h => W_true rfl hb123 ?_) (fun hb123 h => W_false rfl hb123 ?_))))))
     ·refine Wsr ((Wp 3 [] [4] T2 ⟨[(4, B (decide ((if i2 > i1 then i2 else i1) = 3)))], []⟩ t2 (Wnt ((W_ret (blockS_r (thenS_r ?_)))))))
      cases h
      exact ⟨[], True, by kernel_rfl, trivial⟩
     ·refine Ww [] [] ⟨[], []⟩ (W_skip (blockS_n (thenS_n (Wsr ((Ws 1 [] [4] ⟨[(4, B false)], []⟩ (Wnt ((W_ret ?_)))))))))
      cases h
      exact ⟨[], True, by kernel_rfl, trivial⟩

/- spec.validTable -/
def spec_validTable_L2 (x1 : List Lck) (i682 : Int) : Nat → Int → Option ((Unit) ⊕ (Unit))
| 0, _ => none
| n + 1, i972 =>
 iteO (decide (i972 < i682))
 (guardO (0 ≤ i972 ∧ i972 < ((x1.length : Nat) : Int)) <|
 guardO (0 ≤ i682 ∧ i682 < ((x1.length : Nat) : Int)) <|
 bindO (iteO (decide (((x1.getD i972.toNat dlck).node) = ((x1.getD i682.toNat dlck).node)))
 (guardO (0 ≤ i972 ∧ i972 < ((x1.length : Nat) : Int)) <|
 guardO (0 ≤ i682 ∧ i682 < ((x1.length : Nat) : Int)) <|
 iteO (decide (((x1.getD i972.toNat dlck).who) = ((x1.getD i682.toNat dlck).who)))
 (some true)
 (guardO (0 ≤ i972 ∧ i972 < ((x1.length : Nat) : Int)) <|
 guardO (0 ≤ i682 ∧ i682 < ((x1.length : Nat) : Int)) <|
 bindO (spec_goTogether ((x1.getD i972.toNat dlck).mode) ((x1.getD i682.toNat dlck).mode)) fun b1029 =>
 some (!b1029)))
 (some false)) fun b1031 =>
 iteO b1031
 (some (.inl ()))
 (spec_validTable_L2 x1 i682 n (w64 (i972 + 1))))
 (some (.inr ()))

theorem spec_validTable_L2_ok (w : World) (X : Nat → Prop) (θ : List Loc) (x1 : List Lck) (i682 : Int) (v : (Unit) ⊕ (Unit)) : ∀ (n : Nat) (i972 : Int), spec_validTable_L2 x1 i682 n i972 = some v → WL EE ⟨w, X, θ, 82, 1⟩ (subC [1, 0, 1, 4, 4, 1, 0, 4, 1, 1, 4, 4] (bodyC Tryz.f96)) (fun (e : Exit) (s : St) => (match v with | (.inl _) => e = .ret ∧ s = ⟨[(2, B false)], [lR x1]⟩ | (.inr _) => e = .exit 2 ∧ s = ⟨[(0, sF 0 x1), (3, I i682)], [lR x1]⟩ : Prop)) ⟨[(0, sF 0 x1), (3, I i682), (4, I i972)], [lR x1]⟩ := by
  intro n
  induction n with
  | zero => intro _ h; exact none_e h
  | succ n ih =>
    intro i972 h
    rw [spec_validTable_L2] at h
    refine WL_round ?_
    refine W_seq (Wsr ((Wp 3 [0] [0, 3, 4, 38] T2 ⟨[(0, sF 0 x1), (3, I i682), (4, I i972), (38, B (decide (i972 < i682)))], [lR x1]⟩ t2 (Wnt ((iteO_e h (fun hb1006 h => W_true rfl hb1006 ?_) (fun hb1006 h => W_false rfl hb1006 ?_)))))))
    ·refine Ww [0] [0, 3, 4] ⟨[(0, sF 0 x1), (3, I i682), (4, I i972)], [lR x1]⟩ (W_skip (thenS_n (W_seq (W_block (W_seq (guardO_e h (fun hg1021 h => (guardO_e h (fun hg1022 h => (bindO_e h (fun b1031 hv1032 h => (W_cut (Q' := fun (e : Exit) (s : St) => e = .normal ∧ s = ⟨[(0, sF 0 x1), (3, I i682), (4, I i972), (78, B b1031)], [lR x1]⟩) ?_ ?_))))))))))))
     ·refine iteO_e hv1032 (fun hb1023 hv1032 => ?_) (fun hb1023 hv1032 => ?_)
      ·refine guardO_e hv1032 (fun hg1024 hv1032 => (guardO_e hv1032 (fun hg1025 hv1032 => (iteO_e hv1032 (fun hb1026 hv1032 => ?_) (fun hb1026 hv1032 => ?_)))))
       ·refine W_draw [] false (by kernel_rfl) (by kernel_rfl) (WD_takeQ [0, 1, 2, 3, 4, 5, 6, 7, 8, 9, 10, 11] [0, 3, 4, 52] [0, 3, 4, 52] (φ := ((0 ≤ i972 ∧ i972 < (lI x1)) ∧ (0 ≤ i972 ∧ i972 < (lI x1)) ∧ (True ∧ True ∧ ((0 ≤ i682 ∧ i682 < (lI x1)) ∧ (0 ≤ i682 ∧ i682 < (lI x1)) ∧ (True ∧ True ∧ (True ∧ True ∧ True)))))) (ls' := (tf true [12, 26])) (st' := ⟨[(0, sF 0 x1), (3, I i682), (4, I i972), (52, B (decide (((x1.getD i972.toNat dlck).node) = ((x1.getD i682.toNat dlck).node))))], [lR x1]⟩) (n2 := 26) (by kernel_rfl) ⟨hg1021, hg1021, trivial, trivial, hg1022, hg1022, trivial, trivial, trivial, trivial, trivial⟩ rfl (WD_known 52 true rfl rfl hb1023 (WD_takeQ [12, 13, 14, 15, 16, 17, 18, 19, 20, 21, 22, 23] [0, 3, 4, 52, 64] [0, 3, 4, 52, 64] (φ := ((0 ≤ i972 ∧ i972 < (lI x1)) ∧ (0 ≤ i972 ∧ i972 < (lI x1)) ∧ (True ∧ True ∧ ((0 ≤ i682 ∧ i682 < (lI x1)) ∧ (0 ≤ i682 ∧ i682 < (lI x1)) ∧ (True ∧ True ∧ (True ∧ True ∧ True)))))) (ls' := (tf true [24, 14])) (st' := ⟨[(0, sF 0 x1), (3, I i682), (4, I i972), (52, B true), (64, B (decide (((x1.getD i972.toNat dlck).who) = ((x1.getD i682.toNat dlck).who))))], [lR x1]⟩) (n2 := 14) (by kernel_rfl) ⟨hg1024, hg1024, trivial, trivial, hg1025, hg1025, trivial, trivial, trivial, trivial, trivial⟩ rfl (WD_known 64 true rfl rfl hb1026 (WD_takeQ [24, 25, 26, 27, 28, 29, 30, 31, 32, 33, 34, 35, 36, 37] [0, 3, 4, 78] [0, 3, 4, 78] (φ := True) (ls' := (tf true [38])) (st' := ⟨[(0, sF 0 x1), (3, I i682), (4, I i972), (78, B true)], [lR x1]⟩) (n2 := 0) (by kernel_rfl) trivial rfl ?_)))))
        exact WD_done [0] [0, 3, 4, 78] (st' := ⟨[(0, sF 0 x1), (3, I i682), (4, I i972), (78, B true)], [lR x1]⟩) (by kernel_rfl) (by kernel_rfl) (aI rfl (by cases hv1032; rfl))
       ·refine guardO_e hv1032 (fun hg1027 hv1032 => (guardO_e hv1032 (fun hg1028 hv1032 => (bindO_e hv1032 (fun b1029 hc1030 hv1032 => (W_draw [] false (by kernel_rfl) (by kernel_rfl) (WD_takeQ [0, 1, 2, 3, 4, 5, 6, 7, 8, 9, 10, 11] [0, 3, 4, 52] [0, 3, 4, 52] (φ := ((0 ≤ i972 ∧ i972 < (lI x1)) ∧ (0 ≤ i972 ∧ i972 < (lI x1)) ∧ (True ∧ True ∧ ((0 ≤ i682 ∧ i682 < (lI x1)) ∧ (0 ≤ i682 ∧ i682 < (lI x1)) ∧ (True ∧ True ∧ (True ∧ True ∧ True)))))) (ls' := (tf true [12, 26])) (st' := ⟨[(0, sF 0 x1), (3, I i682), (4, I i972), (52, B (decide (((x1.getD i972.toNat dlck).node) = ((x1.getD i682.toNat dlck).node))))], [lR x1]⟩) (n2 := 26) (by kernel_rfl) ⟨hg1021, hg1021, trivial, trivial, hg1022, hg1022, trivial, trivial, trivial, trivial, trivial⟩ rfl (WD_known 52 true rfl rfl hb1023 (WD_takeQ [12, 13, 14, 15, 16, 17, 18, 19, 20, 21, 22, 23] [0, 3, 4, 52, 64] [0, 3, 4, 52, 64] (φ := ((0 ≤ i972 ∧ i972 < (lI x1)) ∧ (0 ≤ i972 ∧ i972 < (lI x1)) ∧ (True ∧ True ∧ ((0 ≤ i682 ∧ i682 < (lI x1)) ∧ (0 ≤ i682 ∧ i682 < (lI x1)) ∧ (True ∧ True ∧ (True ∧ True ∧ True)))))) (ls' := (tf true [24, 14])) (st' := ⟨[(0, sF 0 x1), (3, I i682), (4, I i972), (52, B true), (64, B (decide (((x1.getD i972.toNat dlck).who) = ((x1.getD i682.toNat dlck).who))))], [lR x1]⟩) (n2 := 14) (by kernel_rfl) ⟨hg1024, hg1024, trivial, trivial, hg1025, hg1025, trivial, trivial, trivial, trivial, trivial⟩ rfl (WD_known 64 false rfl rfl hb1026 (WD_takeQ [24, 25, 26, 27, 28, 29, 30, 31, 32, 33] [0, 3, 4, 52, 64, 69, 74] [0, 3, 4, 52, 64, 69, 74] (φ := ((0 ≤ i972 ∧ i972 < (lI x1)) ∧ (0 ≤ i972 ∧ i972 < (lI x1)) ∧ (True ∧ True ∧ ((0 ≤ i682 ∧ i682 < (lI x1)) ∧ (0 ≤ i682 ∧ i682 < (lI x1)) ∧ (True ∧ True ∧ True))))) (ls' := (tf true [34, 4])) (st' := ⟨[(0, sF 0 x1), (3, I i682), (4, I i972), (52, B true), (64, B false), (69, I ((x1.getD i972.toNat dlck).mode)), (74, I ((x1.getD i682.toNat dlck).mode))], [lR x1]⟩) (n2 := 4) (by kernel_rfl) ⟨hg1027, hg1027, trivial, trivial, hg1028, hg1028, trivial, trivial, trivial⟩ rfl (WD_all [34] (n := 3) (by kernel_rfl) rfl (WM_call [] Tryz.f129 rfl rfl (by kernel_rfl) Tryz.func129 rfl (by kernel_rfl) (spec_goTogether_ok ((x1.getD i972.toNat dlck).mode) ((x1.getD i682.toNat dlck).mode) b1029 hc1030) (trivial) rfl (aI rfl (trivial)) (WD_takeQ [35, 36, 37] [0, 3, 4, 78] [0, 3, 4, 78] (φ := True) (ls' := (tf true [38])) (st' := ⟨[(0, sF 0 x1), (3, I i682), (4, I i972), (78, B (!b1029))], [lR x1]⟩) (n2 := 0) (by kernel_rfl) trivial rfl ?_))))))))))))))
        exact WD_done [0] [0, 3, 4, 78] (st' := ⟨[(0, sF 0 x1), (3, I i682), (4, I i972), (78, B (!b1029))], [lR x1]⟩) (by kernel_rfl) (by kernel_rfl) (aI rfl (by cases hv1032; rfl))
      ·refine W_draw [] false (by kernel_rfl) (by kernel_rfl) (WD_takeQ [0, 1, 2, 3, 4, 5, 6, 7, 8, 9, 10, 11] [0, 3, 4, 52] [0, 3, 4, 52] (φ := ((0 ≤ i972 ∧ i972 < (lI x1)) ∧ (0 ≤ i972 ∧ i972 < (lI x1)) ∧ (True ∧ True ∧ ((0 ≤ i682 ∧ i682 < (lI x1)) ∧ (0 ≤ i682 ∧ i682 < (lI x1)) ∧ (True ∧ True ∧ (True ∧ True ∧ True)))))) (ls' := (tf true [12, 26])) (st' := ⟨[(0, sF 0 x1), (3, I i682), (4, I i972), (52, B (decide (((x1.getD i972.toNat dlck).node) = ((x1.getD i682.toNat dlck).node))))], [lR x1]⟩) (n2 := 26) (by kernel_rfl) ⟨hg1021, hg1021, trivial, trivial, hg1022, hg1022, trivial, trivial, trivial, trivial, trivial⟩ rfl (WD_known 52 false rfl rfl hb1023 (WD_takeQ [12, 13, 14, 15, 16, 17, 18, 19, 20, 21, 22, 23, 24, 25, 26, 27, 28, 29, 30, 31, 32, 33, 34, 35, 36, 37] [0, 3, 4, 78] [0, 3, 4, 78] (φ := True) (ls' := (tf true [38])) (st' := ⟨[(0, sF 0 x1), (3, I i682), (4, I i972), (78, B false)], [lR x1]⟩) (n2 := 0) (by kernel_rfl) trivial rfl ?_)))
       exact WD_done [0] [0, 3, 4, 78] (st' := ⟨[(0, sF 0 x1), (3, I i682), (4, I i972), (78, B false)], [lR x1]⟩) (by kernel_rfl) (by kernel_rfl) (aI rfl (by cases hv1032; rfl))
     ·rintro _ _ ⟨rfl, rfl⟩
      refine thenS_n (iteO_e h (fun hb1034 h => W_true rfl hb1034 ?_) (fun hb1034 h => W_false rfl hb1034 ?_))
      ·refine Wsr ((Ws 1 [0] [2] ⟨[(2, B false)], [lR x1]⟩ (Wnt ((W_ret (blockS_r (thenS_r (thenS_r ?_))))))))
       cases h
       exact aI rfl rfl
      ·refine Ww [0] [0, 3, 4] ⟨[(0, sF 0 x1), (3, I i682), (4, I i972)], [lR x1]⟩ (W_skip (blockS_n (thenS_n (W_region (Wp 3 [0] [0, 3, 4] T2 ⟨[(0, sF 0 x1), (3, I i682), (4, I (w64 (i972 + 1)))], [lR x1]⟩ t2 (Wnt (?_)))))))
       exact ih _ h
    ·refine Ww [0] [0, 3] ⟨[(0, sF 0 x1), (3, I i682)], [lR x1]⟩ (W_exit (thenS_e (thenS_e ?_)))
     cases h
     exact aI rfl rfl

def spec_validTable_L1 (x1 : List Lck) : Nat → Int → Option ((Unit) ⊕ (Unit))
| 0, _ => none
| n + 1, i682 =>
 iteO (decide (i682 < ((x1.length : Nat) : Int)))
 (guardO (0 ≤ i682 ∧ i682 < ((x1.length : Nat) : Int)) <|
 bindO (iteO (!(spec_inRange ((x1.getD i682.toNat dlck).who) 0 3))
 (some true)
 (guardO (0 ≤ i682 ∧ i682 < ((x1.length : Nat) : Int)) <|
 iteO (!(spec_inRange ((x1.getD i682.toNat dlck).node) 0 11))
 (some true)
 (guardO (0 ≤ i682 ∧ i682 < ((x1.length : Nat) : Int)) <|
 some (!(spec_inRange ((x1.getD i682.toNat dlck).mode) 1 5))))) fun b931 =>
 iteO b931
 (some (.inl ()))
 (bindO (spec_validTable_L2 x1 i682 n 0) fun v1035 =>
 match v1035 with
 | (.inl _) => (some (.inl ()))
 | (.inr _) => (spec_validTable_L1 x1 n (w64 (i682 + 1)))
))
 (some (.inr ()))

theorem spec_validTable_L1_ok (w : World) (X : Nat → Prop) (θ : List Loc) (x1 : List Lck) (v : (Unit) ⊕ (Unit)) : ∀ (n : Nat) (i682 : Int), spec_validTable_L1 x1 n i682 = some v → WL EE ⟨w, X, θ, 82, 1⟩ (subC [1, 0, 1, 4, 4] (bodyC Tryz.f96)) (fun (e : Exit) (s : St) => (match v with | (.inl _) => e = .ret ∧ s = ⟨[(2, B false)], [lR x1]⟩ | (.inr _) => e = .exit 0 ∧ s = ⟨[(0, sF 0 x1)], [lR x1]⟩ : Prop)) ⟨[(0, sF 0 x1), (3, I i682)], [lR x1]⟩ := by
  intro n
  induction n with
  | zero => intro _ h; exact none_e h
  | succ n ih =>
    intro i682 h
    rw [spec_validTable_L1] at h
    refine WL_round ?_
    refine W_seq (Wsr ((Wp 4 [0] [0, 3, 8] T3 ⟨[(0, sF 0 x1), (3, I i682), (8, B (decide (i682 < (lI x1))))], [lR x1]⟩ t3 (Wnt ((iteO_e h (fun hb846 h => W_true rfl hb846 ?_) (fun hb846 h => W_false rfl hb846 ?_)))))))
    ·refine Ww [0] [0, 3] ⟨[(0, sF 0 x1), (3, I i682)], [lR x1]⟩ (W_skip (thenS_n (W_seq (W_block (W_seq (Wsr ((guardO_e h (fun hg926 h => (Wp 5 [0] [0, 3, 15] ((0 ≤ i682 ∧ i682 < (lI x1)) ∧ T2) ⟨[(0, sF 0 x1), (3, I i682), (15, I ((x1.getD i682.toNat dlck).who))], [lR x1]⟩ ⟨hg926, trivial, trivial⟩ (Wc [] rfl rfl rfl Tryz.func71 rfl (spec_inRange_ok ((x1.getD i682.toNat dlck).who) 0 3) (trivial) rfl (Ws 2 [0] [0, 3, 18] ⟨[(0, sF 0 x1), (3, I i682), (18, B (!(spec_inRange ((x1.getD i682.toNat dlck).who) 0 3)))], [lR x1]⟩ (bindO_e h (fun b931 hv932 h => (WO_thru ⟨[(0, sF 0 x1), (3, I i682), (35, B b931)], [lR x1]⟩ ?_ ?_)))))))))))))))
     ·refine iteO_e hv932 (fun hb933 hv932 => WO_known 18 true rfl hb933 ?_) (fun hb933 hv932 => WO_known 18 false rfl hb933 ?_)
      ·refine Ws 17 [0] [0, 3, 35] ⟨[(0, sF 0 x1), (3, I i682), (35, B true)], [lR x1]⟩ ?_
       cases hv932
       exact WO_nil rfl ⟨rfl, rfl⟩
      ·refine guardO_e hv932 (fun hg934 hv932 => (Wp 5 [0] [0, 3, 18, 23] ((0 ≤ i682 ∧ i682 < (lI x1)) ∧ T2) ⟨[(0, sF 0 x1), (3, I i682), (18, B false), (23, I ((x1.getD i682.toNat dlck).node))], [lR x1]⟩ ⟨hg934, trivial, trivial⟩ (Wc [] rfl rfl rfl Tryz.func71 rfl (spec_inRange_ok ((x1.getD i682.toNat dlck).node) 0 11) (trivial) rfl (Ws 3 [0] [0, 3, 27] ⟨[(0, sF 0 x1), (3, I i682), (27, B (!(spec_inRange ((x1.getD i682.toNat dlck).node) 0 11)))], [lR x1]⟩ (iteO_e hv932 (fun hb935 hv932 => WO_known 27 true rfl hb935 ?_) (fun hb935 hv932 => WO_known 27 false rfl hb935 ?_))))))
       ·refine Ws 8 [0] [0, 3, 35] ⟨[(0, sF 0 x1), (3, I i682), (35, B true)], [lR x1]⟩ ?_
        cases hv932
        exact WO_nil rfl ⟨rfl, rfl⟩
       ·refine guardO_e hv932 (fun hg936 hv932 => (Wp 5 [0] [0, 3, 27, 32] ((0 ≤ i682 ∧ i682 < (lI x1)) ∧ T2) ⟨[(0, sF 0 x1), (3, I i682), (27, B false), (32, I ((x1.getD i682.toNat dlck).mode))], [lR x1]⟩ ⟨hg936, trivial, trivial⟩ (Wc [] rfl rfl rfl Tryz.func71 rfl (spec_inRange_ok ((x1.getD i682.toNat dlck).mode) 1 5) (trivial) rfl (Ws 2 [0] [0, 3, 35] ⟨[(0, sF 0 x1), (3, I i682), (35, B (!(spec_inRange ((x1.getD i682.toNat dlck).mode) 1 5)))], [lR x1]⟩ ?_))))
        cases hv932
        exact WO_nil rfl ⟨rfl, rfl⟩
     ·refine thenS_n (iteO_e h (fun hb938 h => W_true rfl hb938 ?_) (fun hb938 h => W_false rfl hb938 ?_))
      ·refine Wsr ((Ws 1 [0] [2] ⟨[(2, B false)], [lR x1]⟩ (Wnt ((W_ret (thenS_r (blockS_r (thenS_r (thenS_r ?_)))))))))
       cases h
       exact aI rfl rfl
      ·refine Ww [0] [0, 3] ⟨[(0, sF 0 x1), (3, I i682)], [lR x1]⟩ (W_skip (thenS_n (Wsr ((Ws 1 [0] [0, 3, 4] ⟨[(0, sF 0 x1), (3, I i682), (4, I 0)], [lR x1]⟩ (Wnt ((W_block (W_loop (bindO_e h (fun v1035 hv1035 h => (WL_cut (spec_validTable_L2_ok w X θ x1 i682 v1035 n 0 hv1035) ?_))))))))))))
       rcases v1035 with _ | _
       ·rintro _ _ ⟨rfl, rfl⟩
        refine blockS_r (blockS_r (thenS_r (thenS_r ?_)))
        cases h
        exact aI rfl rfl
       ·rintro _ _ ⟨rfl, rfl⟩
        refine blockS_y (blockS_n (thenS_n (W_region (Wp 3 [0] [0, 3] T2 ⟨[(0, sF 0 x1), (3, I (w64 (i682 + 1)))], [lR x1]⟩ t2 (Wnt (?_))))))
        exact ih _ h
    ·refine Ww [0] [0] ⟨[(0, sF 0 x1)], [lR x1]⟩ (W_exit (thenS_e (thenS_e ?_)))
     cases h
     exact aI rfl rfl

def spec_validTable (n : Nat) (x1 : List Lck) : Option (Bool) :=
 bindO (spec_validTable_L1 x1 n 0) fun v1036 =>
 match v1036 with
 | (.inl _) => (some false)
 | (.inr _) => (some (decide (((x1.length : Nat) : Int) ≤ 48)))


theorem spec_validTable_ok (n : Nat) (x1 : List Lck) (b518 : Bool) (h : spec_validTable n x1 = some b518) : FOk EE 96 [sF 0 x1] [lR x1] (B b518) [lR x1] := by
  unfold spec_validTable at h
  refine FOk_of_W 82 1 Tryz.func96 rfl rfl (Nat.le_of_ble_eq_true rfl) rfl (fun w X θ => ?_)
  refine Wsr ((Ws 1 [0] [0] ⟨[(0, sF 0 x1)], [lR x1]⟩ (Wnt ((W_seq (W_seq ?_))))))
  refine W_region (Ws 1 [0] [0, 3] ⟨[(0, sF 0 x1), (3, I 0)], [lR x1]⟩ (Wnt ((W_block (W_loop (bindO_e h (fun v1036 hv1036 h => ?_)))))))
  refine WL_cut (spec_validTable_L1_ok w X θ x1 v1036 n 0 hv1036) ?_
  rcases v1036 with _ | _
  ·rintro _ _ ⟨rfl, rfl⟩
   refine blockS_r (thenS_r ?_)
   cases h
   exact ⟨[0], True, by kernel_rfl, trivial⟩
  ·rintro _ _ ⟨rfl, rfl⟩
   refine blockS_y (thenS_n (Wsr ((Wp 4 [0] [2] T3 ⟨[(2, B (decide ((lI x1) ≤ 48)))], [lR x1]⟩ t3 (Wnt ((W_ret ?_)))))))
   cases h
   exact ⟨[0], True, by kernel_rfl, trivial⟩

/- spec.validAsk -/
def spec_validAsk (n : Nat) (x1 : List Lck) (i2 : Int) (i3 : Int) (i4 : Int) : Option (Bool) :=
 bindO (spec_validTable n x1) fun b15 =>
 some (b15 && ((spec_inRange i2 0 3) && ((spec_inRange i3 0 11) && (spec_inRange i4 1 5))))

theorem spec_validAsk_ok (n : Nat) (x1 : List Lck) (i2 : Int) (i3 : Int) (i4 : Int) (b14 : Bool) (h : spec_validAsk n x1 i2 i3 i4 = some b14) : FOk EE 153 [sF 0 x1, I i2, I i3, I i4] [lR x1] (B b14) [lR x1] := by
  unfold spec_validAsk at h
  refine FOk_of_W 23 1 Tryz.func153 rfl rfl (Nat.le_of_ble_eq_true rfl) rfl (fun w X θ => ?_)
  refine Wsr ((Ws 1 [0] [0, 1, 2, 3] ⟨[(0, sF 0 x1), (1, I i2), (2, I i3), (3, I i4)], [lR x1]⟩ (Wnt ((W_seq (W_region ?_))))))
  refine Ws 1 [0] [1, 2, 3, 9] ⟨[(1, I i2), (2, I i3), (3, I i4), (9, sF 0 x1)], [lR x1]⟩ (bindO_e h (fun b15 hc16 h => (Wc [.ro 0] rfl rfl rfl Tryz.func96 rfl (spec_validTable_ok n x1 b15 hc16) (aI (aI rfl rfl) (trivial)) rfl (Ws 1 [0] [1, 2, 3, 11] ⟨[(1, I i2), (2, I i3), (3, I i4), (11, B b15)], [lR x1]⟩ (WO_thru ⟨[(8, B (b15 && ((spec_inRange i2 0 3) && ((spec_inRange i3 0 11) && (spec_inRange i4 1 5)))))], [lR x1]⟩ ?_ ?_)))))
  ·refine WO_if 11 rfl (fun hb21 => ?_) (fun hb21 => ?_)
   ·refine Ws 1 [0] [2, 3, 11, 12] ⟨[(2, I i3), (3, I i4), (11, B true), (12, I i2)], [lR x1]⟩ (Wc [] rfl rfl rfl Tryz.func71 rfl (spec_inRange_ok i2 0 3) (trivial) rfl (Ws 2 [0] [2, 3, 15] ⟨[(2, I i3), (3, I i4), (15, B (spec_inRange i2 0 3))], [lR x1]⟩ (WO_if 15 rfl (fun hb22 => ?_) (fun hb22 => ?_))))
    ·refine Ws 1 [0] [3, 15, 16] ⟨[(3, I i4), (15, B true), (16, I i3)], [lR x1]⟩ (Wc [] rfl rfl rfl Tryz.func71 rfl (spec_inRange_ok i3 0 11) (trivial) rfl (Ws 2 [0] [3, 19] ⟨[(3, I i4), (19, B (spec_inRange i3 0 11))], [lR x1]⟩ (WO_if 19 rfl (fun hb23 => ?_) (fun hb23 => ?_))))
     ·refine Ws 1 [0] [19, 20] ⟨[(19, B true), (20, I i4)], [lR x1]⟩ (Wc [] rfl rfl rfl Tryz.func71 rfl (spec_inRange_ok i4 1 5) (trivial) rfl (Ws 2 [0] [8] ⟨[(8, B (spec_inRange i4 1 5))], [lR x1]⟩ ?_))
      exact WO_nil rfl ⟨rfl, by first | rfl | (simp only [hb21, hb22, hb23]; first | done | rfl)⟩
     ·refine Ws 4 [0] [8] ⟨[(8, B false)], [lR x1]⟩ ?_
      exact WO_nil rfl ⟨rfl, by first | rfl | (simp only [hb21, hb22, hb23]; first | done | rfl)⟩
    ·refine Ws 8 [0] [8] ⟨[(8, B false)], [lR x1]⟩ ?_
     exact WO_nil rfl ⟨rfl, by first | rfl | (simp only [hb21, hb22]; first | done | rfl)⟩
   ·refine Ws 12 [0] [8] ⟨[(8, B false)], [lR x1]⟩ ?_
    exact WO_nil rfl ⟨rfl, by first | rfl | (rw [hb21]; first | done | rfl)⟩
  ·refine thenS_n (W_ret ?_)
   cases h
   exact ⟨[0], True, by kernel_rfl, trivial⟩

/- spec.joined -/
def spec_joined (i1 : Int) (i2 : Int) : Option (Int) :=
 iteO ((decide ((if i2 < i1 then i2 else i1) = 2)) && (decide ((if i2 > i1 then i2 else i1) = 3)))
 (some 4)
 (some (if i2 > i1 then i2 else i1))

theorem spec_joined_ok (i1 : Int) (i2 : Int) (i8 : Int) (h : spec_joined i1 i2 = some i8) : FOk EE 155 [I i1, I i2] [] (I i8) [] := by
  unfold spec_joined at h
  refine FOk_of_W 20 0 Tryz.func155 rfl rfl (Nat.le_of_ble_eq_true rfl) rfl (fun w X θ => ?_)
  refine Wsr ((Ws 1 [] [0, 1] ⟨[(0, I i1), (1, I i2)], []⟩ (Wnt ((W_seq (W_region ?_))))))
  refine Wp 4 [] [0, 1, 5] T2 ⟨[(0, I i1), (1, I i2), (5, I (if i2 < i1 then i2 else i1))], []⟩ t2 (Wnt ((Wsr ((Wp 4 [] [5, 6] T2 ⟨[(5, I (if i2 < i1 then i2 else i1)), (6, I (if i2 > i1 then i2 else i1))], []⟩ t2 (WO_nil rfl ?_))))))
  refine thenS_n (W_seq (Wsr ((Wp 3 [] [6, 15] T2 ⟨[(6, I (if i2 > i1 then i2 else i1)), (15, B (decide ((if i2 < i1 then i2 else i1) = 2)))], []⟩ t2 (WO_thru ⟨[(6, I (if i2 > i1 then i2 else i1)), (18, B ((decide ((if i2 < i1 then i2 else i1) = 2)) && (decide ((if i2 > i1 then i2 else i1) = 3))))], []⟩ ?_ ?_)))))
  ·refine WO_if 15 rfl (fun hb11 => ?_) (fun hb11 => ?_)
   ·refine Wp 3 [] [6, 18] T2 ⟨[(6, I (if i2 > i1 then i2 else i1)), (18, B (decide ((if i2 > i1 then i2 else i1) = 3)))], []⟩ t2 ?_
    exact WO_nil rfl ⟨rfl, by first | rfl | (rw [hb11]; first | done | rfl)⟩
   ·refine Ws 3 [] [6, 18] ⟨[(6, I (if i2 > i1 then i2 else i1)), (18, B false)], []⟩ ?_
    exact WO_nil rfl ⟨rfl, by first | rfl | (rw [hb11]; first | done | rfl)⟩
  ·refine thenS_n (iteO_e h (fun hb13 h => W_true rfl hb13 ?_) (fun hb13 h => W_false rfl hb13 ?_))
   ·refine Wsr ((Ws 1 [] [4] ⟨[(4, I 4)], []⟩ (Wnt ((W_ret (thenS_r ?_))))))
    cases h
    exact ⟨[], True, by kernel_rfl, trivial⟩
   ·refine Ww [] [6] ⟨[(6, I (if i2 > i1 then i2 else i1))], []⟩ (W_skip (thenS_n (Wsr ((Ws 2 [] [4] ⟨[(4, I (if i2 > i1 then i2 else i1))], []⟩ (Wnt ((W_ret ?_))))))))
    cases h
    exact ⟨[], True, by kernel_rfl, trivial⟩

/- spec.blockers -/
def spec_blockers_L1 (x1 : List Lck) (i2 : Int) (i3 : Int) (i4 : Int) : Nat → (List Int) → Int → Option ((List Int))
| 0, _, _ => none
| n + 1, x158, i159 =>
 iteO (decide (i159 < 4))
 (bindO (iteO (!decide (i159 = i2))
 (bindO (spec_held n x1 i159 i3) fun i224 =>
 bindO (spec_goTogether i224 i4) fun b226 =>
 some (!b226))
 (some false)) fun b221 =>
 bindO (iteO b221
 (guardO (0 = 0 ∧ x158.length = x158.length ∧ x158.length + (([i159].drop 0).take ([i159].length)).length ≤ 1099511627776) <|
 some (x158 ++ (([i159].drop 0).take ([i159].length))))
 (some x158)) fun x230 =>
 spec_blockers_L1 x1 i2 i3 i4 n x230 (w64 (i159 + 1)))
 (some x158)

theorem spec_blockers_L1_ok (w : World) (X : Nat → Prop) (θ : List Loc) (x1 : List Lck) (i2 : Int) (i3 : Int) (i4 : Int) (x196 : (List Int)) : ∀ (n : Nat) (x158 : List Int) (i159 : Int), spec_blockers_L1 x1 i2 i3 i4 n x158 i159 = some x196 → WL EE ⟨w, X, θ, 33, 1⟩ (subC [1, 1, 0, 1, 4, 4] (bodyC Tryz.f154)) (fun (e : Exit) (s : St) => e = .exit 0 ∧ s = ⟨[(9, sF 1 x196)], [lR x1, iO x196]⟩) ⟨[(0, sF 0 x1), (1, I i2), (2, I i3), (3, I i4), (9, sF 1 x158), (10, I i159)], [lR x1, iO x158]⟩ := by
  intro n
  induction n with
  | zero => intro _ _ h; exact none_e h
  | succ n ih =>
    intro x158 i159 h
    rw [spec_blockers_L1] at h
    refine WL_round ?_
    refine W_seq (Wsr ((Wp 2 [0, 1] [0, 1, 2, 3, 9, 10, 13] T2 ⟨[(0, sF 0 x1), (1, I i2), (2, I i3), (3, I i4), (9, sF 1 x158), (10, I i159), (13, B (decide (i159 < 4)))], [lR x1, iO x158]⟩ t2 (Wnt ((iteO_e h (fun hb199 h => W_true rfl hb199 ?_) (fun hb199 h => W_false rfl hb199 ?_)))))))
    ·refine Ww [0, 1] [0, 1, 2, 3, 9, 10] ⟨[(0, sF 0 x1), (1, I i2), (2, I i3), (3, I i4), (9, sF 1 x158), (10, I i159)], [lR x1, iO x158]⟩ (W_skip (thenS_n (W_seq (W_block (Wsr ((Wp 4 [0, 1] [0, 1, 2, 3, 9, 10, 19] T2 ⟨[(0, sF 0 x1), (1, I i2), (2, I i3), (3, I i4), (9, sF 1 x158), (10, I i159), (19, B (!decide (i159 = i2)))], [lR x1, iO x158]⟩ t2 (bindO_e h (fun b221 hv222 h => (WO_thru ⟨[(0, sF 0 x1), (1, I i2), (2, I i3), (3, I i4), (9, sF 1 x158), (10, I i159), (27, B b221)], [lR x1, iO x158]⟩ ?_ ?_))))))))))
     ·refine iteO_e hv222 (fun hb223 hv222 => WO_known 19 true rfl hb223 ?_) (fun hb223 hv222 => WO_known 19 false rfl hb223 ?_)
      ·refine Ws 3 [0, 1] [0, 1, 2, 3, 9, 10, 19, 20, 21, 22] ⟨[(0, sF 0 x1), (1, I i2), (2, I i3), (3, I i4), (9, sF 1 x158), (10, I i159), (19, B true), (20, sF 0 x1), (21, I i159), (22, I i3)], [lR x1, iO x158]⟩ (bindO_e hv222 (fun i224 hc225 hv222 => (Wc [.ro 0] rfl rfl rfl Tryz.func125 rfl (spec_held_ok n x1 i159 i3 i224 hc225) (aI (aI rfl rfl) (trivial)) rfl (Ws 1 [0, 1] [0, 1, 2, 3, 9, 10, 19, 23, 24] ⟨[(0, sF 0 x1), (1, I i2), (2, I i3), (3, I i4), (9, sF 1 x158), (10, I i159), (19, B true), (23, I i224), (24, I i4)], [lR x1, iO x158]⟩ (bindO_e hv222 (fun b226 hc227 hv222 => (Wc [] rfl rfl rfl Tryz.func129 rfl (spec_goTogether_ok i224 i4 b226 hc227) (trivial) rfl (Ws 2 [0, 1] [0, 1, 2, 3, 9, 10, 27] ⟨[(0, sF 0 x1), (1, I i2), (2, I i3), (3, I i4), (9, sF 1 x158), (10, I i159), (27, B (!b226))], [lR x1, iO x158]⟩ ?_))))))))
       cases hv222
       exact WO_nil rfl ⟨rfl, rfl⟩
      ·refine Ws 8 [0, 1] [0, 1, 2, 3, 9, 10, 27] ⟨[(0, sF 0 x1), (1, I i2), (2, I i3), (3, I i4), (9, sF 1 x158), (10, I i159), (27, B false)], [lR x1, iO x158]⟩ ?_
       cases hv222
       exact WO_nil rfl ⟨rfl, rfl⟩
     ·refine thenS_n (bindO_e h (fun x230 hx230 h => (W_cut (Q' := fun (e : Exit) (s : St) => e = .normal ∧ s = ⟨[(0, sF 0 x1), (1, I i2), (2, I i3), (3, I i4), (9, sF 1 x230), (10, I i159)], [lR x1, iO x230]⟩) ?_ ?_)))
      ·refine iteO_e hx230 (fun hb232 hx230 => W_true rfl hb232 ?_) (fun hb232 hx230 => W_false rfl hb232 ?_)
       ·refine W_region (guardO_e hx230 (fun hg233 hx230 => (Wp 5 [0, 3] [0, 1, 2, 3, 9, 10] ((0 = 0 ∧ x158.length = x158.length ∧ x158.length + (([i159].drop 0).take ([i159].length)).length ≤ 1099511627776) ∧ True) ⟨[(0, sF 0 x1), (1, I i2), (2, I i3), (3, I i4), (9, .one (.e (.sl 1 0 ((x158 ++ (([i159].drop 0).take ([i159].length))).length)))), (10, I i159)], [lR x1, .row .int (x158 ++ (([i159].drop 0).take ([i159].length))) true]⟩ ⟨hg233, trivial⟩ (WO_nil rfl ?_))))
        cases hx230
        exact aI rfl rfl
       ·refine Ww [0, 1] [0, 1, 2, 3, 9, 10] ⟨[(0, sF 0 x1), (1, I i2), (2, I i3), (3, I i4), (9, sF 1 x158), (10, I i159)], [lR x1, iO x158]⟩ (W_skip ?_)
        cases hx230
        exact aI rfl rfl
      ·rintro _ _ ⟨rfl, rfl⟩
       refine blockS_n (thenS_n (W_region (Wp 3 [0, 1] [0, 1, 2, 3, 9, 10] T2 ⟨[(0, sF 0 x1), (1, I i2), (2, I i3), (3, I i4), (9, sF 1 x230), (10, I (w64 (i159 + 1)))], [lR x1, iO x230]⟩ t2 (Wnt (?_)))))
       exact ih _ _ h
    ·refine Ww [0, 1] [9] ⟨[(9, sF 1 x158)], [lR x1, iO x158]⟩ (W_exit (thenS_e (thenS_e ?_)))
     cases h
     exact aI rfl rfl

def spec_blockers (n : Nat) (x1 : List Lck) (i2 : Int) (i3 : Int) (i4 : Int) : Option ((List Int)) :=
 bindO (spec_blockers_L1 x1 i2 i3 i4 n ([] : List Int) 0) fun x196 =>
 some x196

theorem spec_blockers_ok (n : Nat) (x1 : List Lck) (i2 : Int) (i3 : Int) (i4 : Int) (x117 : List Int) (h : spec_blockers n x1 i2 i3 i4 = some x117) : FOk EE 154 [sF 0 x1, I i2, I i3, I i4] [lR x1] (sF 1 x117) [lR x1, iO x117] := by
  unfold spec_blockers at h
  refine FOk_of_W 33 1 Tryz.func154 rfl rfl (Nat.le_of_ble_eq_true rfl) rfl (fun w X θ => ?_)
  refine Wsr ((Ws 1 [0] [0, 1, 2, 3] ⟨[(0, sF 0 x1), (1, I i2), (2, I i3), (3, I i4)], [lR x1]⟩ (Wnt ((W_seq (W_region ?_))))))
  refine Ws 2 [0, 1] [0, 1, 2, 3, 9] ⟨[(0, sF 0 x1), (1, I i2), (2, I i3), (3, I i4), (9, .one (.e (.sl 1 0 (([] : List Int).length))))], [lR x1, iO ([] : List Int)]⟩ (Wnt ((W_seq (Wsr ((Ws 1 [0, 1] [0, 1, 2, 3, 9, 10] ⟨[(0, sF 0 x1), (1, I i2), (2, I i3), (3, I i4), (9, .one (.e (.sl 1 0 (([] : List Int).length)))), (10, I 0)], [lR x1, iO ([] : List Int)]⟩ ?_))))))
  refine Wnt ((W_block (W_loop (bindO_e h (fun x196 hx196 h => (WL_cut (spec_blockers_L1_ok w X θ x1 i2 i3 i4 x196 n ([] : List Int) 0 hx196) ?_))))))
  rintro _ _ ⟨rfl, rfl⟩
  refine blockS_y (thenS_n (Wsr ((Ws 2 [0, 1] [8] ⟨[(8, sF 1 x196)], [lR x1, iO x196]⟩ (Wnt (?_))))))
  refine W_ret ?_
  cases h
  exact ⟨[0, 1], True, by kernel_rfl, trivial⟩

/- spec.grant -/
def spec_grant_L1 (i2 : Int) (i3 : Int) (i4 : Int) (x1 : List Lck) : Nat → Int → Option (((List Lck)) ⊕ (Unit))
| 0, _ => none
| n + 1, i165 =>
 iteO (decide (i165 < (((([] : List Lck) ++ ((x1.drop 0).take x1.length)).length : Nat) : Int)))
 (guardO (0 ≤ i165 ∧ i165 < (((([] : List Lck) ++ ((x1.drop 0).take x1.length)).length : Nat) : Int)) <|
 bindO (iteO (decide ((((([] : List Lck) ++ ((x1.drop 0).take x1.length)).getD i165.toNat dlck).who) = i2))
 (guardO (0 ≤ i165 ∧ i165 < (((([] : List Lck) ++ ((x1.drop 0).take x1.length)).length : Nat) : Int)) <|
 some (decide ((((([] : List Lck) ++ ((x1.drop 0).take x1.length)).getD i165.toNat dlck).node) = i3)))
 (some false)) fun b227 =>
 iteO b227
 (guardO (0 ≤ i165 ∧ i165 < (((([] : List Lck) ++ ((x1.drop 0).take x1.length)).length : Nat) : Int)) <|
 bindO (spec_joined (((([] : List Lck) ++ ((x1.drop 0).take x1.length)).getD i165.toNat dlck).mode) i4) fun i238 =>
 guardO (0 ≤ i165 ∧ i165 < (((([] : List Lck) ++ ((x1.drop 0).take x1.length)).length : Nat) : Int)) <|
 some (.inl ((([] : List Lck) ++ ((x1.drop 0).take x1.length)).set i165.toNat (⟨((([] : List Lck) ++ ((x1.drop 0).take x1.length)).getD i165.toNat dlck).who, ((([] : List Lck) ++ ((x1.drop 0).take x1.length)).getD i165.toNat dlck).node, i238⟩ : Lck))))
 (spec_grant_L1 i2 i3 i4 x1 n (w64 (i165 + 1))))
 (some (.inr ()))

theorem spec_grant_L1_ok (w : World) (X : Nat → Prop) (θ : List Loc) (i2 : Int) (i3 : Int) (i4 : Int) (x1 : List Lck) (v : ((List Lck)) ⊕ (Unit)) : ∀ (n : Nat) (i165 : Int), spec_grant_L1 i2 i3 i4 x1 n i165 = some v → WL EE ⟨w, X, θ, 55, 1⟩ (subC [1, 1, 0, 1, 4, 4] (bodyC Tryz.f156)) (fun (e : Exit) (s : St) => (match v with | (.inl x203) => e = .ret ∧ s = ⟨[(8, sF 1 x203)], [lR x1, lO x203]⟩ | (.inr _) => e = .exit 0 ∧ s = ⟨[(1, I i2), (2, I i3), (3, I i4), (9, .one (.e (.sl 1 0 ((([] : List Lck) ++ ((x1.drop 0).take x1.length)).length))))], [lR x1, .row .lck (([] : List Lck) ++ ((x1.drop 0).take x1.length)) true]⟩ : Prop)) ⟨[(1, I i2), (2, I i3), (3, I i4), (9, .one (.e (.sl 1 0 ((([] : List Lck) ++ ((x1.drop 0).take x1.length)).length)))), (10, I i165)], [lR x1, .row .lck (([] : List Lck) ++ ((x1.drop 0).take x1.length)) true]⟩ := by
  intro n
  induction n with
  | zero => intro _ h; exact none_e h
  | succ n ih =>
    intro i165 h
    rw [spec_grant_L1] at h
    refine WL_round ?_
    refine W_seq (Wsr ((Wp 4 [0, 1] [1, 2, 3, 9, 10, 17] T3 ⟨[(1, I i2), (2, I i3), (3, I i4), (9, .one (.e (.sl 1 0 ((([] : List Lck) ++ ((x1.drop 0).take x1.length)).length)))), (10, I i165), (17, B (decide (i165 < (((([] : List Lck) ++ ((x1.drop 0).take x1.length)).length : Nat) : Int))))], [lR x1, .row .lck (([] : List Lck) ++ ((x1.drop 0).take x1.length)) true]⟩ t3 (Wnt ((iteO_e h (fun hb206 h => W_true rfl hb206 ?_) (fun hb206 h => W_false rfl hb206 ?_)))))))
    ·refine Ww [0, 1] [1, 2, 3, 9, 10] ⟨[(1, I i2), (2, I i3), (3, I i4), (9, .one (.e (.sl 1 0 ((([] : List Lck) ++ ((x1.drop 0).take x1.length)).length)))), (10, I i165)], [lR x1, .row .lck (([] : List Lck) ++ ((x1.drop 0).take x1.length)) true]⟩ (W_skip (thenS_n (W_seq (W_block (Wsr ((guardO_e h (fun hg224 h => (Wp 8 [0, 1] [1, 2, 3, 9, 10, 27] ((0 ≤ i165 ∧ i165 < (((([] : List Lck) ++ ((x1.drop 0).take x1.length)).length : Nat) : Int)) ∧ T3) ⟨[(1, I i2), (2, I i3), (3, I i4), (9, .one (.e (.sl 1 0 ((([] : List Lck) ++ ((x1.drop 0).take x1.length)).length)))), (10, I i165), (27, B (decide ((((([] : List Lck) ++ ((x1.drop 0).take x1.length)).getD i165.toNat dlck).who) = i2)))], [lR x1, .row .lck (([] : List Lck) ++ ((x1.drop 0).take x1.length)) true]⟩ ⟨hg224, trivial, trivial, trivial⟩ (bindO_e h (fun b227 hv228 h => (WO_thru ⟨[(1, I i2), (2, I i3), (3, I i4), (9, .one (.e (.sl 1 0 ((([] : List Lck) ++ ((x1.drop 0).take x1.length)).length)))), (10, I i165), (35, B b227)], [lR x1, .row .lck (([] : List Lck) ++ ((x1.drop 0).take x1.length)) true]⟩ ?_ ?_))))))))))))
     ·refine iteO_e hv228 (fun hb229 hv228 => WO_known 27 true rfl hb229 ?_) (fun hb229 hv228 => WO_known 27 false rfl hb229 ?_)
      ·refine guardO_e hv228 (fun hg230 hv228 => (Wp 8 [0, 1] [1, 2, 3, 9, 10, 35] ((0 ≤ i165 ∧ i165 < (((([] : List Lck) ++ ((x1.drop 0).take x1.length)).length : Nat) : Int)) ∧ T3) ⟨[(1, I i2), (2, I i3), (3, I i4), (9, .one (.e (.sl 1 0 ((([] : List Lck) ++ ((x1.drop 0).take x1.length)).length)))), (10, I i165), (35, B (decide ((((([] : List Lck) ++ ((x1.drop 0).take x1.length)).getD i165.toNat dlck).node) = i3)))], [lR x1, .row .lck (([] : List Lck) ++ ((x1.drop 0).take x1.length)) true]⟩ ⟨hg230, trivial, trivial, trivial⟩ ?_))
       cases hv228
       exact WO_nil rfl ⟨rfl, rfl⟩
      ·refine Ws 8 [0, 1] [1, 2, 3, 9, 10, 35] ⟨[(1, I i2), (2, I i3), (3, I i4), (9, .one (.e (.sl 1 0 ((([] : List Lck) ++ ((x1.drop 0).take x1.length)).length)))), (10, I i165), (35, B false)], [lR x1, .row .lck (([] : List Lck) ++ ((x1.drop 0).take x1.length)) true]⟩ ?_
       cases hv228
       exact WO_nil rfl ⟨rfl, rfl⟩
     ·refine thenS_n (iteO_e h (fun hb236 h => W_true rfl hb236 ?_) (fun hb236 h => W_false rfl hb236 ?_))
      ·refine Wsr ((guardO_e h (fun hg237 h => (Wp 8 [0, 1] [9, 36, 37, 42, 43] ((0 ≤ i165 ∧ i165 < (((([] : List Lck) ++ ((x1.drop 0).take x1.length)).length : Nat) : Int)) ∧ T2) ⟨[(9, .one (.e (.sl 1 0 ((([] : List Lck) ++ ((x1.drop 0).take x1.length)).length)))), (36, .one (.e (.sl 1 0 ((([] : List Lck) ++ ((x1.drop 0).take x1.length)).length)))), (37, I i165), (42, I (((([] : List Lck) ++ ((x1.drop 0).take x1.length)).getD i165.toNat dlck).mode)), (43, I i4)], [lR x1, .row .lck (([] : List Lck) ++ ((x1.drop 0).take x1.length)) true]⟩ ⟨hg237, trivial, trivial⟩ (bindO_e h (fun i238 hc239 h => (Wc [] rfl rfl rfl Tryz.func155 rfl (spec_joined_ok (((([] : List Lck) ++ ((x1.drop 0).take x1.length)).getD i165.toNat dlck).mode) i4 i238 hc239) (trivial) rfl (guardO_e h (fun hg240 h => (Wp 3 [0, 1] [9] ((0 ≤ i165 ∧ i165 < (((([] : List Lck) ++ ((x1.drop 0).take x1.length)).length : Nat) : Int)) ∧ T2) ⟨[(9, .one (.e (.sl 1 0 ((([] : List Lck) ++ ((x1.drop 0).take x1.length)).length))))], [lR x1, .row .lck ((([] : List Lck) ++ ((x1.drop 0).take x1.length)).set i165.toNat (⟨((([] : List Lck) ++ ((x1.drop 0).take x1.length)).getD i165.toNat dlck).who, ((([] : List Lck) ++ ((x1.drop 0).take x1.length)).getD i165.toNat dlck).node, i238⟩ : Lck)) true]⟩ ⟨hg240, trivial, trivial⟩ (WO_eq (st' := ⟨[(9, .one (.e (.sl 1 0 (((([] : List Lck) ++ ((x1.drop 0).take x1.length)).set i165.toNat (⟨((([] : List Lck) ++ ((x1.drop 0).take x1.length)).getD i165.toNat dlck).who, ((([] : List Lck) ++ ((x1.drop 0).take x1.length)).getD i165.toNat dlck).node, i238⟩ : Lck)).length))))], [lR x1, .row .lck ((([] : List Lck) ++ ((x1.drop 0).take x1.length)).set i165.toNat (⟨((([] : List Lck) ++ ((x1.drop 0).take x1.length)).getD i165.toNat dlck).who, ((([] : List Lck) ++ ((x1.drop 0).take x1.length)).getD i165.toNat dlck).node, i238⟩ : Lck)) true]⟩) (by simp only [sF, List.length_set]) (Wnt ((Wsr ((Ws 2 [0, 1] [8] ⟨[(8, .one (.e (.sl 1 0 (((([] : List Lck) ++ ((x1.drop 0).take x1.length)).set i165.toNat (⟨((([] : List Lck) ++ ((x1.drop 0).take x1.length)).getD i165.toNat dlck).who, ((([] : List Lck) ++ ((x1.drop 0).take x1.length)).getD i165.toNat dlck).node, i238⟩ : Lck)).length))))], [lR x1, .row .lck ((([] : List Lck) ++ ((x1.drop 0).take x1.length)).set i165.toNat (⟨((([] : List Lck) ++ ((x1.drop 0).take x1.length)).getD i165.toNat dlck).who, ((([] : List Lck) ++ ((x1.drop 0).take x1.length)).getD i165.toNat dlck).node, i238⟩ : Lck)) true]⟩ (Wnt ((W_ret (blockS_r (thenS_r (thenS_r ?_))))))))))))))))))))))
       cases h
       exact aI rfl rfl
      ·refine Ww [0, 1] [1, 2, 3, 9, 10] ⟨[(1, I i2), (2, I i3), (3, I i4), (9, .one (.e (.sl 1 0 ((([] : List Lck) ++ ((x1.drop 0).take x1.length)).length)))), (10, I i165)], [lR x1, .row .lck (([] : List Lck) ++ ((x1.drop 0).take x1.length)) true]⟩ (W_skip (blockS_n (thenS_n (W_region (Wp 3 [0, 1] [1, 2, 3, 9, 10] T2 ⟨[(1, I i2), (2, I i3), (3, I i4), (9, .one (.e (.sl 1 0 ((([] : List Lck) ++ ((x1.drop 0).take x1.length)).length)))), (10, I (w64 (i165 + 1)))], [lR x1, .row .lck (([] : List Lck) ++ ((x1.drop 0).take x1.length)) true]⟩ t2 (Wnt (?_)))))))
       exact ih _ h
    ·refine Ww [0, 1] [1, 2, 3, 9] ⟨[(1, I i2), (2, I i3), (3, I i4), (9, .one (.e (.sl 1 0 ((([] : List Lck) ++ ((x1.drop 0).take x1.length)).length))))], [lR x1, .row .lck (([] : List Lck) ++ ((x1.drop 0).take x1.length)) true]⟩ (W_exit (thenS_e (thenS_e ?_)))
     cases h
     exact aI rfl rfl

def spec_grant (n : Nat) (x1 : List Lck) (i2 : Int) (i3 : Int) (i4 : Int) : Option ((List Lck)) :=
 guardO (0 = 0 ∧ ([] : List Lck).length = ([] : List Lck).length ∧ ([] : List Lck).length + ((x1.drop 0).take x1.length).length ≤ 1099511627776) <|
 bindO (spec_grant_L1 i2 i3 i4 x1 n 0) fun v241 =>
 match v241 with
 | (.inl x203) => (some x203)
 | (.inr _) => (guardO (0 = 0 ∧ (([] : List Lck) ++ ((x1.drop 0).take x1.length)).length = (([] : List Lck) ++ ((x1.drop 0).take x1.length)).length ∧ (([] : List Lck) ++ ((x1.drop 0).take x1.length)).length + (([(⟨i2, i3, i4⟩ : Lck)].drop 0).take ([(⟨i2, i3, i4⟩ : Lck)].length)).length ≤ 1099511627776) <|
 some ((([] : List Lck) ++ ((x1.drop 0).take x1.length)) ++ (([(⟨i2, i3, i4⟩ : Lck)].drop 0).take ([(⟨i2, i3, i4⟩ : Lck)].length))))


theorem spec_grant_ok (n : Nat) (x1 : List Lck) (i2 : Int) (i3 : Int) (i4 : Int) (x123 : List Lck) (h : spec_grant n x1 i2 i3 i4 = some x123) : FOk EE 156 [sF 0 x1, I i2, I i3, I i4] [lR x1] (sF 1 x123) [lR x1, lO x123] := by
  unfold spec_grant at h
  refine FOk_of_W 55 1 Tryz.func156 rfl rfl (Nat.le_of_ble_eq_true rfl) rfl (fun w X θ => ?_)
  refine Wsr ((Ws 1 [0] [0, 1, 2, 3] ⟨[(0, sF 0 x1), (1, I i2), (2, I i3), (3, I i4)], [lR x1]⟩ (Wnt ((W_seq (W_region ?_))))))
  refine guardO_e h (fun hg124 h => (Wp 4 [0, 2] [1, 2, 3, 9] ((0 = 0 ∧ ([] : List Lck).length = ([] : List Lck).length ∧ ([] : List Lck).length + ((x1.drop 0).take x1.length).length ≤ 1099511627776) ∧ True) ⟨[(1, I i2), (2, I i3), (3, I i4), (9, .one (.e (.sl 1 0 ((([] : List Lck) ++ ((x1.drop 0).take x1.length)).length))))], [lR x1, .row .lck (([] : List Lck) ++ ((x1.drop 0).take x1.length)) true]⟩ ⟨hg124, trivial⟩ (Wnt ((W_seq (W_seq (W_region ?_)))))))
  refine Ws 1 [0, 1] [1, 2, 3, 9, 10] ⟨[(1, I i2), (2, I i3), (3, I i4), (9, .one (.e (.sl 1 0 ((([] : List Lck) ++ ((x1.drop 0).take x1.length)).length)))), (10, I 0)], [lR x1, .row .lck (([] : List Lck) ++ ((x1.drop 0).take x1.length)) true]⟩ (Wnt ((W_block (W_loop (bindO_e h (fun v241 hv241 h => (WL_cut (spec_grant_L1_ok w X θ i2 i3 i4 x1 v241 n 0 hv241) ?_)))))))
  rcases v241 with x203 | _
  ·rintro _ _ ⟨rfl, rfl⟩
   refine blockS_r (thenS_r ?_)
   cases h
   exact ⟨[0, 1], True, by kernel_rfl, trivial⟩
  ·rintro _ _ ⟨rfl, rfl⟩
   refine blockS_y (thenS_n (Wsr ((guardO_e h (fun hg242 h => (Wp 8 [0, 3] [8] ((0 = 0 ∧ (([] : List Lck) ++ ((x1.drop 0).take x1.length)).length = (([] : List Lck) ++ ((x1.drop 0).take x1.length)).length ∧ (([] : List Lck) ++ ((x1.drop 0).take x1.length)).length + (([(⟨i2, i3, i4⟩ : Lck)].drop 0).take ([(⟨i2, i3, i4⟩ : Lck)].length)).length ≤ 1099511627776) ∧ True) ⟨[(8, .one (.e (.sl 1 0 (((([] : List Lck) ++ ((x1.drop 0).take x1.length)) ++ (([(⟨i2, i3, i4⟩ : Lck)].drop 0).take ([(⟨i2, i3, i4⟩ : Lck)].length))).length))))], [lR x1, .row .lck ((([] : List Lck) ++ ((x1.drop 0).take x1.length)) ++ (([(⟨i2, i3, i4⟩ : Lck)].drop 0).take ([(⟨i2, i3, i4⟩ : Lck)].length))) true]⟩ ⟨hg242, trivial⟩ (Wnt ((W_ret ?_)))))))))
   cases h
   exact ⟨[0, 1], True, by kernel_rfl, trivial⟩

/- spec.TakeLock -/
def spec_TakeLock (n : Nat) (x1 : List Lck) (i2 : Int) (i3 : Int) (i4 : Int) : Option ((List Lck) × Bool) :=
 bindO (spec_validAsk n x1 i2 i3 i4) fun b29 =>
 bindO (iteO (!b29)
 (some true)
 (bindO (spec_held n x1 i2 i3) fun i41 =>
 bindO (spec_joined i41 i4) fun i43 =>
 bindO (spec_blockers n x1 i2 i3 i43) fun x45 =>
 some (decide (0 < ((x45.length : Nat) : Int))))) fun b38 =>
 iteO b38
 (some (([] : List Lck), false))
 (bindO (spec_grant n x1 i2 i3 i4) fun x49 =>
 some (x49, true))

theorem spec_TakeLock_ok (n : Nat) (x1 : List Lck) (i2 : Int) (i3 : Int) (i4 : Int) (x27 : List Lck) (b28 : Bool) (h : spec_TakeLock n x1 i2 i3 i4 = some (x27, b28)) : FOk EE 127 [sF 0 x1, I i2, I i3, I i4] [lR x1] (.tup [.e (.sl 1 0 x27.length), .e (cB b28)]) [lR x1, lO x27] := by
  unfold spec_TakeLock at h
  refine FOk_of_W 35 1 Tryz.func127 rfl rfl (Nat.le_of_ble_eq_true rfl) rfl (fun w X θ => ?_)
  refine Wsr ((Ws 2 [0] [0, 1, 2, 3] ⟨[(0, sF 0 x1), (1, I i2), (2, I i3), (3, I i4)], [lR x1]⟩ (Wnt ((W_seq (W_seq ?_))))))
  refine W_region (Ws 4 [0] [0, 1, 2, 3, 10, 11, 12, 13] ⟨[(0, sF 0 x1), (1, I i2), (2, I i3), (3, I i4), (10, sF 0 x1), (11, I i2), (12, I i3), (13, I i4)], [lR x1]⟩ (bindO_e h (fun b29 hc30 h => (Wc [.ro 0] rfl rfl rfl Tryz.func153 rfl (spec_validAsk_ok n x1 i2 i3 i4 b29 hc30) (aI (aI rfl rfl) (trivial)) rfl (Ws 2 [0] [0, 1, 2, 3, 16] ⟨[(0, sF 0 x1), (1, I i2), (2, I i3), (3, I i4), (16, B (!b29))], [lR x1]⟩ (bindO_e h (fun b38 hv39 h => (WO_thru ⟨[(0, sF 0 x1), (1, I i2), (2, I i3), (3, I i4), (29, B b38)], [lR x1]⟩ ?_ ?_))))))))
  ·refine iteO_e hv39 (fun hb40 hv39 => WO_known 16 true rfl hb40 ?_) (fun hb40 hv39 => WO_known 16 false rfl hb40 ?_)
   ·refine Ws 13 [0] [0, 1, 2, 3, 29] ⟨[(0, sF 0 x1), (1, I i2), (2, I i3), (3, I i4), (29, B true)], [lR x1]⟩ ?_
    cases hv39
    exact WO_nil rfl ⟨rfl, rfl⟩
   ·refine Ws 6 [0] [0, 1, 2, 3, 16, 17, 18, 19, 20, 21, 22] ⟨[(0, sF 0 x1), (1, I i2), (2, I i3), (3, I i4), (16, B false), (17, sF 0 x1), (18, I i2), (19, I i3), (20, sF 0 x1), (21, I i2), (22, I i3)], [lR x1]⟩ (bindO_e hv39 (fun i41 hc42 hv39 => (Wc [.ro 0] rfl rfl rfl Tryz.func125 rfl (spec_held_ok n x1 i2 i3 i41 hc42) (aI (aI rfl rfl) (trivial)) rfl (Ws 1 [0] [0, 1, 2, 3, 16, 17, 18, 19, 23, 24] ⟨[(0, sF 0 x1), (1, I i2), (2, I i3), (3, I i4), (16, B false), (17, sF 0 x1), (18, I i2), (19, I i3), (23, I i41), (24, I i4)], [lR x1]⟩ (bindO_e hv39 (fun i43 hc44 hv39 => (Wc [] rfl rfl rfl Tryz.func155 rfl (spec_joined_ok i41 i4 i43 hc44) (trivial) rfl (Wb [0] [0, 1, 2, 3, 16, 17, 18, 19, 25] ⟨[(0, sF 0 x1), (1, I i2), (2, I i3), (3, I i4), (16, B false), (17, sF 0 x1), (18, I i2), (19, I i3), (25, I i43)], [lR x1]⟩ (bindO_e hv39 (fun x45 hc46 hv39 => (Wc [.ro 0] rfl rfl rfl Tryz.func154 rfl (spec_blockers_ok n x1 i2 i3 i43 x45 hc46) (aI (aI rfl rfl) (trivial)) rfl (Wp 3 [0] [0, 1, 2, 3, 29] T3 ⟨[(0, sF 0 x1), (1, I i2), (2, I i3), (3, I i4), (29, B (decide (0 < (lI x45))))], [lR x1]⟩ t3 ?_))))))))))))
    cases hv39
    exact WO_nil rfl ⟨rfl, rfl⟩
  ·refine thenS_n (iteO_e h (fun hb48 h => W_true rfl hb48 ?_) (fun hb48 h => W_false rfl hb48 ?_))
   ·refine Wsr ((Ws 2 [0] [8, 9] ⟨[(8, .one (.e (.nsl))), (9, B false)], [lR x1]⟩ (WO_nilrow 8 .lck rfl (Wb [0, 1] [8, 9] ⟨[(8, .one (.e (.sl 1 0 (([] : List Lck).length)))), (9, B false)], [lR x1, lO ([] : List Lck)]⟩ (Wnt ((W_ret (thenS_r ?_))))))))
    cases h
    exact ⟨[0, 1], True, by kernel_rfl, trivial⟩
   ·refine Ww [0] [0, 1, 2, 3] ⟨[(0, sF 0 x1), (1, I i2), (2, I i3), (3, I i4)], [lR x1]⟩ (W_skip (thenS_n (Wsr ((Ws 4 [0] [30, 31, 32, 33] ⟨[(30, sF 0 x1), (31, I i2), (32, I i3), (33, I i4)], [lR x1]⟩ (bindO_e h (fun x49 hc50 h => (Wc [.ro 0] rfl rfl rfl Tryz.func156 rfl (spec_grant_ok n x1 i2 i3 i4 x49 hc50) (aI (aI rfl rfl) (trivial)) rfl (Ws 2 [0, 1] [8, 9] ⟨[(8, sF 1 x49), (9, B true)], [lR x1, lO x49]⟩ (Wnt ((W_ret ?_))))))))))))
    cases h
    exact ⟨[0, 1], True, by kernel_rfl, trivial⟩

/- spec.takeAll -/
def spec_takeAll_L1 (x2 : List Lck) (x1 : List Lck) : Nat → (List Lck) → Int → Option ((Unit) ⊕ ((List Lck)))
| 0, _, _ => none
| n + 1, x143, i144 =>
 iteO (decide (i144 < ((x2.length : Nat) : Int)))
 (guardO (0 ≤ i144 ∧ i144 < ((x2.length : Nat) : Int)) <|
 guardO (0 ≤ i144 ∧ i144 < ((x2.length : Nat) : Int)) <|
 guardO (0 ≤ i144 ∧ i144 < ((x2.length : Nat) : Int)) <|
 bindO (spec_TakeLock n x143 ((x2.getD i144.toNat dlck).who) ((x2.getD i144.toNat dlck).node) ((x2.getD i144.toNat dlck).mode)) fun (x183, b184) =>
 iteO (!b184)
 (some (.inl ()))
 (spec_takeAll_L1 x2 x1 n x183 (w64 (i144 + 1))))
 (some (.inr x143))

theorem spec_takeAll_L1_ok (w : World) (X : Nat → Prop) (θ : List Loc) (x2 : List Lck) (x1 : List Lck) (v : (Unit) ⊕ ((List Lck))) : ∀ (n : Nat) (x143 : List Lck) (i144 : Int), spec_takeAll_L1 x2 x1 n x143 i144 = some v → WL EE ⟨w, X, θ, 41, 2⟩ (subC [1, 0, 1, 4, 4] (bodyC Tryz.f93)) (fun (e : Exit) (s : St) => (match v with | (.inl _) => e = .ret ∧ s = ⟨[(4, .one (.e (.sl 2 0 (([] : List Lck).length)))), (5, B false)], [lR x1, lR x2, lO ([] : List Lck)]⟩ | (.inr x167) => e = .exit 0 ∧ s = ⟨[(0, sF 2 x167)], [lR x1, lR x2, lO x167]⟩ : Prop)) ⟨[(0, sF 2 x143), (1, sF 1 x2), (6, I i144)], [lR x1, lR x2, lO x143]⟩ := by
  intro n
  induction n with
  | zero => intro _ _ h; exact none_e h
  | succ n ih =>
    intro x143 i144 h
    rw [spec_takeAll_L1] at h
    refine WL_round ?_
    refine W_seq (Wsr ((Wp 4 [0, 1, 2] [0, 1, 6, 12] T3 ⟨[(0, sF 2 x143), (1, sF 1 x2), (6, I i144), (12, B (decide (i144 < (lI x2))))], [lR x1, lR x2, lO x143]⟩ t3 (Wnt ((iteO_e h (fun hb170 h => W_true rfl hb170 ?_) (fun hb170 h => W_false rfl hb170 ?_)))))))
    ·refine Ww [0, 1, 2] [0, 1, 6] ⟨[(0, sF 2 x143), (1, sF 1 x2), (6, I i144)], [lR x1, lR x2, lO x143]⟩ (W_skip (thenS_n (W_seq (W_block (W_seq (guardO_e h (fun hg180 h => (guardO_e h (fun hg181 h => (guardO_e h (fun hg182 h => (bindO_e h (fun v186 hc185 h => ?_)))))))))))))
     obtain ⟨x183, b184⟩ := v186
     refine W_cut (Q' := fun (e : Exit) (s : St) => e = .normal ∧ s = ⟨[(1, sF 1 x2), (6, I i144), (7, sF 2 x183), (8, B b184)], [lR x1, lR x2, lO x183]⟩) ?_ ?_
     ·refine W_draw [] false (by kernel_rfl) (by kernel_rfl) (WD_takeQ [0, 1, 2, 3, 4, 5, 6, 7, 8, 9, 10, 11, 12, 13, 14, 15] [1, 6, 16, 21, 26, 31] [1, 6, 16, 21, 26, 31] (φ := ((0 ≤ i144 ∧ i144 < (lI x2)) ∧ (0 ≤ i144 ∧ i144 < (lI x2)) ∧ (True ∧ True ∧ ((0 ≤ i144 ∧ i144 < (lI x2)) ∧ (0 ≤ i144 ∧ i144 < (lI x2)) ∧ (True ∧ True ∧ ((0 ≤ i144 ∧ i144 < (lI x2)) ∧ (0 ≤ i144 ∧ i144 < (lI x2)) ∧ (True ∧ True ∧ True))))))) (ls' := (tf true [16, 6])) (st' := ⟨[(1, sF 1 x2), (6, I i144), (16, sF 2 x143), (21, I ((x2.getD i144.toNat dlck).who)), (26, I ((x2.getD i144.toNat dlck).node)), (31, I ((x2.getD i144.toNat dlck).mode))], [lR x1, lR x2, lO x143]⟩) (n2 := 6) (by kernel_rfl) ⟨hg180, hg180, trivial, trivial, hg181, hg181, trivial, trivial, hg182, hg182, trivial, trivial, trivial⟩ rfl (WD_all [16] (n := 5) (by kernel_rfl) rfl (WM_call [.ro 2] Tryz.f127 rfl rfl (by kernel_rfl) Tryz.func127 rfl (by kernel_rfl) (spec_TakeLock_ok n x143 ((x2.getD i144.toNat dlck).who) ((x2.getD i144.toNat dlck).node) ((x2.getD i144.toNat dlck).mode) x183 b184 hc185) (aI (aI rfl rfl) (trivial)) rfl (aI rfl (aI rfl (aI rfl (trivial)))) (WD_all [17] (n := 4) (by kernel_rfl) rfl (WM_op (φ := True) (v := .tup [.e (.sl 3 0 x183.length), .e (cB b184)]) (H' := [lR x1, lR x2, lO x143, lO x183]) rfl rfl (by kernel_rfl) trivial rfl (aI rfl (aI rfl (aI rfl (trivial)))) (WD_all [18, 19] (n := 3) (by kernel_rfl) rfl (aI ?_ (?_))))))))
      ·refine WM_op (φ := True) (v := sF 3 x183) (H' := [lR x1, lR x2, lO x143, lO x183]) rfl rfl (by kernel_rfl) trivial rfl (aI rfl (aI rfl (aI rfl (trivial)))) (WD_all [19, 20] (n := 2) (by kernel_rfl) rfl (aI ?_ (?_)))
       ·refine WM_op (φ := True) (v := B b184) (H' := [lR x1, lR x2, lO x143, lO x183]) rfl rfl (by kernel_rfl) trivial rfl (aI rfl (aI rfl (aI rfl (trivial)))) (WD_all [20] (n := 1) (by kernel_rfl) rfl (WM_op (φ := True) (v := sF 3 x183) (H' := [lR x1, lR x2, lO x143, lO x183]) rfl rfl (by kernel_rfl) trivial rfl (aI rfl (aI rfl (aI rfl (trivial)))) (WD_takeK [21] [1, 6, 8] [1, 6, 7, 8] (φ := True) (ls' := (tf true [22])) (Ts' := [(1, sF 1 x2), (6, I i144), (8, B b184)]) (st' := ⟨[(1, sF 1 x2), (6, I i144), (7, sF 3 x183), (8, B b184)], [lR x1, lR x2, lO x143, lO x183]⟩) (n2 := 0) (by kernel_rfl) trivial rfl ?_)))
        exact WD_done [0, 1, 3] [1, 6, 7, 8] (st' := ⟨[(1, sF 1 x2), (6, I i144), (7, sF 2 x183), (8, B b184)], [lR x1, lR x2, lO x183]⟩) (by kernel_rfl) (by kernel_rfl) (aI rfl rfl)
       ·refine WM_op (φ := True) (v := sF 3 x183) (H' := [lR x1, lR x2, lO x143, lO x183]) rfl rfl (by kernel_rfl) trivial rfl (aI rfl (aI rfl (aI rfl (trivial)))) (WD_all [19] (n := 1) (by kernel_rfl) rfl (WM_op (φ := True) (v := B b184) (H' := [lR x1, lR x2, lO x143, lO x183]) rfl rfl (by kernel_rfl) trivial rfl (aI rfl (aI rfl (aI rfl (trivial)))) (WD_takeK [21] [1, 6, 8] [1, 6, 7, 8] (φ := True) (ls' := (tf true [22])) (Ts' := [(1, sF 1 x2), (6, I i144), (8, B b184)]) (st' := ⟨[(1, sF 1 x2), (6, I i144), (7, sF 3 x183), (8, B b184)], [lR x1, lR x2, lO x143, lO x183]⟩) (n2 := 0) (by kernel_rfl) trivial rfl ?_)))
        exact WD_done [0, 1, 3] [1, 6, 7, 8] (st' := ⟨[(1, sF 1 x2), (6, I i144), (7, sF 2 x183), (8, B b184)], [lR x1, lR x2, lO x183]⟩) (by kernel_rfl) (by kernel_rfl) (aI rfl rfl)
      ·refine WM_op (φ := True) (v := B b184) (H' := [lR x1, lR x2, lO x143, lO x183]) rfl rfl (by kernel_rfl) trivial rfl (aI rfl (aI rfl (aI rfl (trivial)))) (WD_all [18] (n := 2) (by kernel_rfl) rfl (WM_op (φ := True) (v := sF 3 x183) (H' := [lR x1, lR x2, lO x143, lO x183]) rfl rfl (by kernel_rfl) trivial rfl (aI rfl (aI rfl (aI rfl (trivial)))) (WD_all [20] (n := 1) (by kernel_rfl) rfl (WM_op (φ := True) (v := sF 3 x183) (H' := [lR x1, lR x2, lO x143, lO x183]) rfl rfl (by kernel_rfl) trivial rfl (aI rfl (aI rfl (aI rfl (trivial)))) (WD_takeK [21] [1, 6, 8] [1, 6, 7, 8] (φ := True) (ls' := (tf true [22])) (Ts' := [(1, sF 1 x2), (6, I i144), (8, B b184)]) (st' := ⟨[(1, sF 1 x2), (6, I i144), (7, sF 3 x183), (8, B b184)], [lR x1, lR x2, lO x143, lO x183]⟩) (n2 := 0) (by kernel_rfl) trivial rfl ?_)))))
       exact WD_done [0, 1, 3] [1, 6, 7, 8] (st' := ⟨[(1, sF 1 x2), (6, I i144), (7, sF 2 x183), (8, B b184)], [lR x1, lR x2, lO x183]⟩) (by kernel_rfl) (by kernel_rfl) (aI rfl rfl)
     ·rintro _ _ ⟨rfl, rfl⟩
      refine thenS_n (W_seq (Wsr ((Ws 2 [0, 1, 2] [1, 6, 7, 36] ⟨[(1, sF 1 x2), (6, I i144), (7, sF 2 x183), (36, B (!b184))], [lR x1, lR x2, lO x183]⟩ (Wnt ((iteO_e h (fun hb188 h => W_true rfl hb188 ?_) (fun hb188 h => W_false rfl hb188 ?_))))))))
      ·refine Wsr ((Ws 2 [0, 1] [4, 5] ⟨[(4, .one (.e (.nsl))), (5, B false)], [lR x1, lR x2]⟩ (WO_nilrow 4 .lck rfl (Wb [0, 1, 2] [4, 5] ⟨[(4, .one (.e (.sl 2 0 (([] : List Lck).length)))), (5, B false)], [lR x1, lR x2, lO ([] : List Lck)]⟩ (Wnt ((W_ret (thenS_r (blockS_r (thenS_r (thenS_r ?_)))))))))))
       cases h
       exact aI rfl rfl
      ·refine Ww [0, 1, 2] [1, 6, 7] ⟨[(1, sF 1 x2), (6, I i144), (7, sF 2 x183)], [lR x1, lR x2, lO x183]⟩ (W_skip (thenS_n (W_region (Ws 2 [0, 1, 2] [0, 1, 6] ⟨[(0, sF 2 x183), (1, sF 1 x2), (6, I i144)], [lR x1, lR x2, lO x183]⟩ (WO_nil rfl (blockS_n (thenS_n (W_region (Wp 3 [0, 1, 2] [0, 1, 6] T2 ⟨[(0, sF 2 x183), (1, sF 1 x2), (6, I (w64 (i144 + 1)))], [lR x1, lR x2, lO x183]⟩ t2 (Wnt (?_)))))))))))
       exact ih _ _ h
    ·refine Ww [0, 1, 2] [0] ⟨[(0, sF 2 x143)], [lR x1, lR x2, lO x143]⟩ (W_exit (thenS_e (thenS_e ?_)))
     cases h
     exact aI rfl rfl

def spec_takeAll (n : Nat) (x1 : List Lck) (x2 : List Lck) : Option ((List Lck) × Bool) :=
 bindO (iteO (decide (0 < ((x2.length : Nat) : Int)))
 (guardO (0 ≤ (0 : Int) ∧ (0 : Int) < ((x2.length : Nat) : Int)) <|
 guardO (0 ≤ (0 : Int) ∧ (0 : Int) < ((x2.length : Nat) : Int)) <|
 guardO (0 ≤ (0 : Int) ∧ (0 : Int) < ((x2.length : Nat) : Int)) <|
 bindO (spec_TakeLock n x1 ((x2.getD 0 dlck).who) ((x2.getD 0 dlck).node) ((x2.getD 0 dlck).mode)) fun (x137, b138) =>
 iteO (!b138)
 (some (.inl ()))
 (bindO (spec_takeAll_L1 x2 x1 n x137 (w64 (0 + 1))) fun v189 =>
 match v189 with
 | (.inl _) => (some (.inl ()))
 | (.inr x167) => (some (.inr (.inl x167)))
))
 (some (.inr (.inr ()))) : Option ((Unit) ⊕ (((List Lck)) ⊕ (Unit)))) fun v122 =>
 match v122 with
 | (.inl _) => (some (([] : List Lck), false))
 | (.inr (.inl x121)) => (guardO (0 = 0 ∧ ([] : List Lck).length = ([] : List Lck).length ∧ ([] : List Lck).length + ((x121.drop 0).take x121.length).length ≤ 1099511627776) <|
 some ((([] : List Lck) ++ ((x121.drop 0).take x121.length)), true))
 | (.inr (.inr _)) => (guardO (0 = 0 ∧ ([] : List Lck).length = ([] : List Lck).length ∧ ([] : List Lck).length + ((x1.drop 0).take x1.length).length ≤ 1099511627776) <|
 some ((([] : List Lck) ++ ((x1.drop 0).take x1.length)), true))


theorem spec_takeAll_ok (n : Nat) (x1 : List Lck) (x2 : List Lck) (x73 : List Lck) (b74 : Bool) (h : spec_takeAll n x1 x2 = some (x73, b74)) : FOk EE 93 [sF 0 x1, sF 1 x2] [lR x1, lR x2] (.tup [.e (.sl 2 0 x73.length), .e (cB b74)]) [lR x1, lR x2, lO x73] := by
  unfold spec_takeAll at h
  refine FOk_of_W 41 2 Tryz.func93 rfl rfl (Nat.le_of_ble_eq_true rfl) rfl (fun w X θ => ?_)
  refine Wsr ((Ws 2 [0, 1] [0, 1] ⟨[(0, sF 0 x1), (1, sF 1 x2)], [lR x1, lR x2]⟩ (Wnt ((W_seq (W_seq ?_))))))
  refine W_region (Ws 1 [0, 1] [0, 1, 6] ⟨[(0, sF 0 x1), (1, sF 1 x2), (6, I 0)], [lR x1, lR x2]⟩ (Wnt ((bindO_e h (fun v122 hv122 h => (W_cut (Q' := fun (e : Exit) (s : St) => (match v122 with | (.inl _) => e = .ret ∧ s = ⟨[(4, .one (.e (.sl 2 0 (([] : List Lck).length)))), (5, B false)], [lR x1, lR x2, lO ([] : List Lck)]⟩ | (.inr (.inl x121)) => e = .normal ∧ s = ⟨[(0, sF 2 x121)], [lR x1, lR x2, lO x121]⟩ | (.inr (.inr _)) => e = .normal ∧ s = ⟨[(0, sF 0 x1)], [lR x1, lR x2]⟩ : Prop)) ?_ ?_))))))
  ·refine W_block (W_loop (WL_round (W_seq (Wsr ((Wp 4 [0, 1] [0, 1, 6, 12] T3 ⟨[(0, sF 0 x1), (1, sF 1 x2), (6, I 0), (12, B (decide (0 < (lI x2))))], [lR x1, lR x2]⟩ t3 (Wnt ((iteO_e hv122 (fun hb124 hv122 => W_true rfl hb124 ?_) (fun hb124 hv122 => W_false rfl hb124 ?_))))))))))
   ·refine Ww [0, 1] [0, 1, 6] ⟨[(0, sF 0 x1), (1, sF 1 x2), (6, I 0)], [lR x1, lR x2]⟩ (W_skip (thenS_n (W_seq (W_block (W_seq (guardO_e hv122 (fun hg134 hv122 => (guardO_e hv122 (fun hg135 hv122 => (guardO_e hv122 (fun hg136 hv122 => (bindO_e hv122 (fun v140 hc139 hv122 => ?_)))))))))))))
    obtain ⟨x137, b138⟩ := v140
    refine W_cut (Q' := fun (e : Exit) (s : St) => e = .normal ∧ s = ⟨[(1, sF 1 x2), (6, I 0), (7, sF 2 x137), (8, B b138)], [lR x1, lR x2, lO x137]⟩) ?_ ?_
    ·refine W_draw [] false (by kernel_rfl) (by kernel_rfl) (WD_takeQ [0, 1, 2, 3, 4, 5, 6, 7, 8, 9, 10, 11, 12, 13, 14, 15] [1, 6, 16, 21, 26, 31] [1, 6, 16, 21, 26, 31] (φ := ((0 ≤ (0 : Int) ∧ (0 : Int) < (lI x2)) ∧ (0 ≤ (0 : Int) ∧ (0 : Int) < (lI x2)) ∧ (True ∧ True ∧ ((0 ≤ (0 : Int) ∧ (0 : Int) < (lI x2)) ∧ (0 ≤ (0 : Int) ∧ (0 : Int) < (lI x2)) ∧ (True ∧ True ∧ ((0 ≤ (0 : Int) ∧ (0 : Int) < (lI x2)) ∧ (0 ≤ (0 : Int) ∧ (0 : Int) < (lI x2)) ∧ (True ∧ True ∧ True))))))) (ls' := (tf true [16, 6])) (st' := ⟨[(1, sF 1 x2), (6, I 0), (16, sF 0 x1), (21, I ((x2.getD 0 dlck).who)), (26, I ((x2.getD 0 dlck).node)), (31, I ((x2.getD 0 dlck).mode))], [lR x1, lR x2]⟩) (n2 := 6) (by kernel_rfl) ⟨hg134, hg134, trivial, trivial, hg135, hg135, trivial, trivial, hg136, hg136, trivial, trivial, trivial⟩ rfl (WD_all [16] (n := 5) (by kernel_rfl) rfl (WM_call [.ro 0] Tryz.f127 rfl rfl (by kernel_rfl) Tryz.func127 rfl (by kernel_rfl) (spec_TakeLock_ok n x1 ((x2.getD 0 dlck).who) ((x2.getD 0 dlck).node) ((x2.getD 0 dlck).mode) x137 b138 hc139) (aI (aI rfl rfl) (trivial)) rfl (aI rfl (aI rfl (trivial))) (WD_all [17] (n := 4) (by kernel_rfl) rfl (WM_op (φ := True) (v := .tup [.e (.sl 2 0 x137.length), .e (cB b138)]) (H' := [lR x1, lR x2, lO x137]) rfl rfl (by kernel_rfl) trivial rfl (aI rfl (aI rfl (trivial))) (WD_all [18, 19] (n := 3) (by kernel_rfl) rfl (aI ?_ (?_))))))))
     ·refine WM_op (φ := True) (v := sF 2 x137) (H' := [lR x1, lR x2, lO x137]) rfl rfl (by kernel_rfl) trivial rfl (aI rfl (aI rfl (trivial))) (WD_all [19, 20] (n := 2) (by kernel_rfl) rfl (aI ?_ (?_)))
      ·refine WM_op (φ := True) (v := B b138) (H' := [lR x1, lR x2, lO x137]) rfl rfl (by kernel_rfl) trivial rfl (aI rfl (aI rfl (trivial))) (WD_all [20] (n := 1) (by kernel_rfl) rfl (WM_op (φ := True) (v := sF 2 x137) (H' := [lR x1, lR x2, lO x137]) rfl rfl (by kernel_rfl) trivial rfl (aI rfl (aI rfl (trivial))) (WD_takeK [21] [1, 6, 8] [1, 6, 7, 8] (φ := True) (ls' := (tf true [22])) (Ts' := [(1, sF 1 x2), (6, I 0), (8, B b138)]) (st' := ⟨[(1, sF 1 x2), (6, I 0), (7, sF 2 x137), (8, B b138)], [lR x1, lR x2, lO x137]⟩) (n2 := 0) (by kernel_rfl) trivial rfl ?_)))
       exact WD_done [0, 1, 2] [1, 6, 7, 8] (st' := ⟨[(1, sF 1 x2), (6, I 0), (7, sF 2 x137), (8, B b138)], [lR x1, lR x2, lO x137]⟩) (by kernel_rfl) (by kernel_rfl) (aI rfl rfl)
      ·refine WM_op (φ := True) (v := sF 2 x137) (H' := [lR x1, lR x2, lO x137]) rfl rfl (by kernel_rfl) trivial rfl (aI rfl (aI rfl (trivial))) (WD_all [19] (n := 1) (by kernel_rfl) rfl (WM_op (φ := True) (v := B b138) (H' := [lR x1, lR x2, lO x137]) rfl rfl (by kernel_rfl) trivial rfl (aI rfl (aI rfl (trivial))) (WD_takeK [21] [1, 6, 8] [1, 6, 7, 8] (φ := True) (ls' := (tf true [22])) (Ts' := [(1, sF 1 x2), (6, I 0), (8, B b138)]) (st' := ⟨[(1, sF 1 x2), (6, I 0), (7, sF 2 x137), (8, B b138)], [lR x1, lR x2, lO x137]⟩) (n2 := 0) (by kernel_rfl) trivial rfl ?_)))
       exact WD_done [0, 1, 2] [1, 6, 7, 8] (st' := ⟨[(1, sF 1 x2), (6, I 0), (7, sF 2 x137), (8, B b138)], [lR x1, lR x2, lO x137]⟩) (by kernel_rfl) (by kernel_rfl) (aI rfl rfl)
     ·refine WM_op (φ := True) (v := B b138) (H' := [lR x1, lR x2, lO x137]) rfl rfl (by kernel_rfl) trivial rfl (aI rfl (aI rfl (trivial))) (WD_all [18] (n := 2) (by kernel_rfl) rfl (WM_op (φ := True) (v := sF 2 x137) (H' := [lR x1, lR x2, lO x137]) rfl rfl (by kernel_rfl) trivial rfl (aI rfl (aI rfl (trivial))) (WD_all [20] (n := 1) (by kernel_rfl) rfl (WM_op (φ := True) (v := sF 2 x137) (H' := [lR x1, lR x2, lO x137]) rfl rfl (by kernel_rfl) trivial rfl (aI rfl (aI rfl (trivial))) (WD_takeK [21] [1, 6, 8] [1, 6, 7, 8] (φ := True) (ls' := (tf true [22])) (Ts' := [(1, sF 1 x2), (6, I 0), (8, B b138)]) (st' := ⟨[(1, sF 1 x2), (6, I 0), (7, sF 2 x137), (8, B b138)], [lR x1, lR x2, lO x137]⟩) (n2 := 0) (by kernel_rfl) trivial rfl ?_)))))
      exact WD_done [0, 1, 2] [1, 6, 7, 8] (st' := ⟨[(1, sF 1 x2), (6, I 0), (7, sF 2 x137), (8, B b138)], [lR x1, lR x2, lO x137]⟩) (by kernel_rfl) (by kernel_rfl) (aI rfl rfl)
    ·rintro _ _ ⟨rfl, rfl⟩
     refine thenS_n (W_seq (Wsr ((Ws 2 [0, 1, 2] [1, 6, 7, 36] ⟨[(1, sF 1 x2), (6, I 0), (7, sF 2 x137), (36, B (!b138))], [lR x1, lR x2, lO x137]⟩ (Wnt ((iteO_e hv122 (fun hb142 hv122 => W_true rfl hb142 ?_) (fun hb142 hv122 => W_false rfl hb142 ?_))))))))
     ·refine Wsr ((Ws 2 [0, 1] [4, 5] ⟨[(4, .one (.e (.nsl))), (5, B false)], [lR x1, lR x2]⟩ (WO_nilrow 4 .lck rfl (Wb [0, 1, 2] [4, 5] ⟨[(4, .one (.e (.sl 2 0 (([] : List Lck).length)))), (5, B false)], [lR x1, lR x2, lO ([] : List Lck)]⟩ (Wnt ((W_ret (thenS_r (blockS_r (thenS_r (thenS_r (blockS_r ?_))))))))))))
      cases hv122
      exact aI rfl rfl
     ·refine Ww [0, 1, 2] [1, 6, 7] ⟨[(1, sF 1 x2), (6, I 0), (7, sF 2 x137)], [lR x1, lR x2, lO x137]⟩ (W_skip (thenS_n (W_region (Ws 2 [0, 1, 2] [0, 1, 6] ⟨[(0, sF 2 x137), (1, sF 1 x2), (6, I 0)], [lR x1, lR x2, lO x137]⟩ (WO_nil rfl (blockS_n (thenS_n (W_region (Wp 3 [0, 1, 2] [0, 1, 6] T2 ⟨[(0, sF 2 x137), (1, sF 1 x2), (6, I (w64 (0 + 1)))], [lR x1, lR x2, lO x137]⟩ t2 (Wnt ((bindO_e hv122 (fun v189 hv189 hv122 => (WL_cut (spec_takeAll_L1_ok w X θ x2 x1 v189 n x137 (w64 (0 + 1)) hv189) ?_))))))))))))))
      rcases v189 with _ | x167
      ·rintro _ _ ⟨rfl, rfl⟩
       refine blockS_r ?_
       cases hv122
       exact aI rfl rfl
      ·rintro _ _ ⟨rfl, rfl⟩
       refine blockS_y ?_
       cases hv122
       exact aI rfl rfl
   ·refine Ww [0, 1] [0] ⟨[(0, sF 0 x1)], [lR x1, lR x2]⟩ (W_exit (thenS_e (thenS_e (blockS_y ?_))))
    cases hv122
    exact aI rfl rfl
  ·rcases v122 with _ | x121 | _
   ·rintro _ _ ⟨rfl, rfl⟩
    refine thenS_r ?_
    cases h
    exact ⟨[0, 1, 2], True, by kernel_rfl, trivial⟩
   ·rintro _ _ ⟨rfl, rfl⟩
    refine thenS_n (Wsr ((guardO_e h (fun hg190 h => (Wp 5 [0, 1, 4] [4, 5] ((0 = 0 ∧ ([] : List Lck).length = ([] : List Lck).length ∧ ([] : List Lck).length + ((x121.drop 0).take x121.length).length ≤ 1099511627776) ∧ True) ⟨[(4, .one (.e (.sl 2 0 ((([] : List Lck) ++ ((x121.drop 0).take x121.length)).length)))), (5, B true)], [lR x1, lR x2, .row .lck (([] : List Lck) ++ ((x121.drop 0).take x121.length)) true]⟩ ⟨hg190, trivial⟩ (Wnt ((W_ret ?_))))))))
    cases h
    exact ⟨[0, 1, 2], True, by kernel_rfl, trivial⟩
   ·rintro _ _ ⟨rfl, rfl⟩
    refine thenS_n (Wsr ((guardO_e h (fun hg191 h => (Wp 5 [0, 1, 3] [4, 5] ((0 = 0 ∧ ([] : List Lck).length = ([] : List Lck).length ∧ ([] : List Lck).length + ((x1.drop 0).take x1.length).length ≤ 1099511627776) ∧ True) ⟨[(4, .one (.e (.sl 2 0 ((([] : List Lck) ++ ((x1.drop 0).take x1.length)).length)))), (5, B true)], [lR x1, lR x2, .row .lck (([] : List Lck) ++ ((x1.drop 0).take x1.length)) true]⟩ ⟨hg191, trivial⟩ (Wnt ((W_ret ?_))))))))
    cases h
    exact ⟨[0, 1, 2], True, by kernel_rfl, trivial⟩

end Go.Proofs.YtghdgncfcfdlfaaGreatDoor
