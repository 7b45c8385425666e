import Derived.Test.YtghdgncfcfdlfaaGreatDoorTT1
namespace Go.Proofs.YtghdgncfcfdlfaaGreatDoor
open Go Go.Shelf Go.Proofs
set_option linter.unusedVariables false
/- spec.parseInt -/
def spec_parseInt_L1 (s1 : Str) : Nat → Int → Int → Option ((Unit) ⊕ (Int))
| 0, _, _ => none
| n + 1, i167, i168 =>
 iteO ((decide (i168 < ((s1.length : Nat) : Int))) && (decide (((s1.length : Nat) : Int) ≤ 5)))
 (guardO (0 ≤ i168 ∧ i168 < ((s1.length : Nat) : Int)) <|
 bindO (iteO (spec_inRange (w64 ((s1.getD i168.toNat 0).toNat : Int)) 48 57)
 (guardO (0 ≤ i168 ∧ i168 < ((s1.length : Nat) : Int)) <|
 some (.inl (w64 ((w64 ((w64 (10 * i167)) + (w64 ((s1.getD i168.toNat 0).toNat : Int)))) - 48))))
 (bindO (iteO (decide (0 < i168))
 (some true)
 (guardO (0 ≤ i168 ∧ i168 < ((s1.length : Nat) : Int)) <|
 some (!decide (((s1.getD i168.toNat 0).toNat : Int) = 45)))) fun b239 =>
 iteO b239
 (some (.inr ()))
 (some (.inl i167))) : Option ((Int) ⊕ (Unit))) fun v234 =>
 match v234 with
 | (.inl i233) => (spec_parseInt_L1 s1 n i233 (w64 (i168 + 1)))
 | (.inr _) => (some (.inl ()))
)
 (some (.inr i167))

theorem spec_parseInt_L1_ok (w : World) (X : Nat → Prop) (θ : List Loc) (s1 : Str) (v : (Unit) ⊕ (Int)) : ∀ (n : Nat) (i167 : Int) (i168 : Int), spec_parseInt_L1 s1 n i167 i168 = some v → WL EE ⟨w, X, θ, 63, 0⟩ (subC [1, 1, 0, 1, 4, 4] (bodyC Tryz.f42)) (fun (e : Exit) (s : St) => (match v with | (.inl _) => e = .ret ∧ s = ⟨[(2, I 0), (3, B false)], []⟩ | (.inr i202) => e = .exit 0 ∧ s = ⟨[(0, S s1), (4, I i202)], []⟩ : Prop)) ⟨[(0, S s1), (4, I i167), (5, I i168)], []⟩ := by
  intro n
  induction n with
  | zero => intro _ _ h; exact none_e h
  | succ n ih =>
    intro i167 i168 h
    rw [spec_parseInt_L1] at h
    refine WL_round ?_
    refine W_seq (Wsr ((Wp 5 [] [0, 4, 5, 10] T3 ⟨[(0, S s1), (4, I i167), (5, I i168), (10, B (decide (i168 < (lI s1))))], []⟩ t3 (WO_thru ⟨[(0, S s1), (4, I i167), (5, I i168), (14, B ((decide (i168 < (lI s1))) && (decide ((lI s1) ≤ 5))))], []⟩ ?_ ?_))))
    ·refine WO_if 10 rfl (fun hb206 => ?_) (fun hb206 => ?_)
     ·refine Wp 4 [] [0, 4, 5, 14] T3 ⟨[(0, S s1), (4, I i167), (5, I i168), (14, B (decide ((lI s1) ≤ 5)))], []⟩ t3 ?_
      exact WO_nil rfl ⟨rfl, by first | rfl | (rw [hb206]; first | done | rfl)⟩
     ·refine Ws 4 [] [0, 4, 5, 14] ⟨[(0, S s1), (4, I i167), (5, I i168), (14, B false)], []⟩ ?_
      exact WO_nil rfl ⟨rfl, by first | rfl | (rw [hb206]; first | done | rfl)⟩
    ·refine thenS_n (iteO_e h (fun hb208 h => W_true rfl hb208 ?_) (fun hb208 h => W_false rfl hb208 ?_))
     ·refine Ww [] [0, 4, 5] ⟨[(0, S s1), (4, I i167), (5, I i168)], []⟩ (W_skip (thenS_n (W_seq (W_block (Wsr ((guardO_e h (fun hg222 h => (Wp 4 [] [0, 4, 5, 20] ((0 ≤ i168 ∧ i168 < (lI s1)) ∧ T2) ⟨[(0, S s1), (4, I i167), (5, I i168), (20, I (w64 ((s1.getD i168.toNat 0).toNat : Int)))], []⟩ ⟨hg222, trivial, trivial⟩ (Wc [] rfl rfl rfl Tryz.func71 rfl (spec_inRange_ok (w64 ((s1.getD i168.toNat 0).toNat : Int)) 48 57) (trivial) rfl (Wb [] [0, 4, 5, 21] ⟨[(0, S s1), (4, I i167), (5, I i168), (21, B (spec_inRange (w64 ((s1.getD i168.toNat 0).toNat : Int)) 48 57))], []⟩ (Wnt ((bindO_e h (fun v234 hv234 h => (W_cut (Q' := fun (e : Exit) (s : St) => (match v234 with | (.inl i233) => e = .normal ∧ s = ⟨[(0, S s1), (4, I i233), (5, I i168)], []⟩ | (.inr _) => e = .ret ∧ s = ⟨[(2, I 0), (3, B false)], []⟩ : Prop)) ?_ ?_))))))))))))))))
      ·refine iteO_e hv234 (fun hb235 hv234 => W_true rfl hb235 ?_) (fun hb235 hv234 => W_false rfl hb235 ?_)
       ·refine W_region (guardO_e hv234 (fun hg236 hv234 => (Wp 9 [] [0, 4, 5] (True ∧ ((0 ≤ i168 ∧ i168 < (lI s1)) ∧ T4)) ⟨[(0, S s1), (4, I (w64 ((w64 ((w64 (10 * i167)) + (w64 ((s1.getD i168.toNat 0).toNat : Int)))) - 48))), (5, I i168)], []⟩ ⟨trivial, hg236, trivial, trivial, trivial, trivial⟩ (WO_nil rfl ?_))))
        cases hv234
        exact aI rfl rfl
       ·refine Wsr ((Wp 3 [] [0, 4, 5, 32] T2 ⟨[(0, S s1), (4, I i167), (5, I i168), (32, B (decide (0 < i168)))], []⟩ t2 (bindO_e hv234 (fun b239 hv240 hv234 => (WO_thru ⟨[(0, S s1), (4, I i167), (5, I i168), (37, B b239)], []⟩ ?_ ?_)))))
        ·refine iteO_e hv240 (fun hb241 hv240 => WO_known 32 true rfl hb241 ?_) (fun hb241 hv240 => WO_known 32 false rfl hb241 ?_)
         ·refine Ws 5 [] [0, 4, 5, 37] ⟨[(0, S s1), (4, I i167), (5, I i168), (37, B true)], []⟩ ?_
          cases hv240
          exact WO_nil rfl ⟨rfl, rfl⟩
         ·refine guardO_e hv240 (fun hg242 hv240 => (Wp 5 [] [0, 4, 5, 37] ((0 ≤ i168 ∧ i168 < (lI s1)) ∧ T2) ⟨[(0, S s1), (4, I i167), (5, I i168), (37, B (!decide (((s1.getD i168.toNat 0).toNat : Int) = 45)))], []⟩ ⟨hg242, trivial, trivial⟩ ?_))
          cases hv240
          exact WO_nil rfl ⟨rfl, rfl⟩
        ·refine thenS_n (iteO_e hv234 (fun hb244 hv234 => W_true rfl hb244 ?_) (fun hb244 hv234 => W_false rfl hb244 ?_))
         ·refine Wsr ((Ws 2 [] [2, 3] ⟨[(2, I 0), (3, B false)], []⟩ (Wnt ((W_ret ?_)))))
          cases hv234
          exact aI rfl rfl
         ·refine Ww [] [0, 4, 5] ⟨[(0, S s1), (4, I i167), (5, I i168)], []⟩ (W_skip ?_)
          cases hv234
          exact aI rfl rfl
      ·rcases v234 with i233 | _
       ·rintro _ _ ⟨rfl, rfl⟩
        refine blockS_n (thenS_n (W_region (Wp 3 [] [0, 4, 5] T2 ⟨[(0, S s1), (4, I i233), (5, I (w64 (i168 + 1)))], []⟩ t2 (Wnt (?_)))))
        exact ih _ _ h
       ·rintro _ _ ⟨rfl, rfl⟩
        refine blockS_r (thenS_r (thenS_r ?_))
        cases h
        exact aI rfl rfl
     ·refine Ww [] [0, 4] ⟨[(0, S s1), (4, I i167)], []⟩ (W_exit (thenS_e (thenS_e ?_)))
      cases h
      exact aI rfl rfl

def spec_parseInt (n : Nat) (s1 : Str) : Option (Int × Bool) :=
 bindO (spec_parseInt_L1 s1 n 0 0) fun v245 =>
 match v245 with
 | (.inl _) => (some (0, false))
 | (.inr i202) => (bindO (iteO (decide (0 < ((s1.length : Nat) : Int)))
 (guardO (0 ≤ (0 : Int) ∧ (0 : Int) < ((s1.length : Nat) : Int)) <|
 some (decide (((s1.getD ((0 : Int).toNat) 0).toNat : Int) = 45)))
 (some false)) fun b248 =>
 bindO (iteO b248
 (some (w64 (0 - i202)))
 (some i202)) fun i253 =>
 bindO (iteO (decide (((s1.length : Nat) : Int) = 0))
 (some true)
 (iteO (decide (5 < ((s1.length : Nat) : Int)))
 (some true)
 (bindO (spec_decimal n i253) fun s264 =>
 some (!decide (s264 = s1))))) fun b260 =>
 iteO b260
 (some (0, false))
 (some (i253, true)))


theorem spec_parseInt_ok (n : Nat) (s1 : Str) (i128 : Int) (b129 : Bool) (h : spec_parseInt n s1 = some (i128, b129)) : FOk EE 42 [S s1] [] (.tup [.e (cI i128), .e (cB b129)]) [] := by
  unfold spec_parseInt at h
  refine FOk_of_W 63 0 Tryz.func42 rfl rfl (Nat.le_of_ble_eq_true rfl) rfl (fun w X θ => ?_)
  refine Wsr ((Ws 2 [] [0] ⟨[(0, S s1)], []⟩ (Wnt ((W_seq (W_region ?_))))))
  refine Ws 1 [] [0, 4] ⟨[(0, S s1), (4, I 0)], []⟩ (Wnt ((W_seq (Wsr ((Ws 1 [] [0, 4, 5] ⟨[(0, S s1), (4, I 0), (5, I 0)], []⟩ ?_))))))
  refine Wnt ((W_block (W_loop (bindO_e h (fun v245 hv245 h => (WL_cut (spec_parseInt_L1_ok w X θ s1 v245 n 0 0 hv245) ?_))))))
  rcases v245 with _ | i202
  ·rintro _ _ ⟨rfl, rfl⟩
   refine blockS_r (thenS_r ?_)
   cases h
   exact ⟨[], True, by kernel_rfl, trivial⟩
  ·rintro _ _ ⟨rfl, rfl⟩
   refine blockS_y (thenS_n (W_seq (Wsr ((Wp 4 [] [0, 4, 41] T3 ⟨[(0, S s1), (4, I i202), (41, B (decide (0 < (lI s1))))], []⟩ t3 (bindO_e h (fun b248 hv249 h => (WO_thru ⟨[(0, S s1), (4, I i202), (45, B b248)], []⟩ ?_ ?_))))))))
   ·refine iteO_e hv249 (fun hb250 hv249 => WO_known 41 true rfl hb250 ?_) (fun hb250 hv249 => WO_known 41 false rfl hb250 ?_)
    ·refine guardO_e hv249 (fun hg251 hv249 => (Wp 4 [] [0, 4, 45] ((0 ≤ (0 : Int) ∧ (0 : Int) < (lI s1)) ∧ T2) ⟨[(0, S s1), (4, I i202), (45, B (decide (((s1.getD ((0 : Int).toNat) 0).toNat : Int) = 45)))], []⟩ ⟨hg251, trivial, trivial⟩ ?_))
     cases hv249
     exact WO_nil rfl ⟨rfl, rfl⟩
    ·refine Ws 4 [] [0, 4, 45] ⟨[(0, S s1), (4, I i202), (45, B false)], []⟩ ?_
     cases hv249
     exact WO_nil rfl ⟨rfl, rfl⟩
   ·refine thenS_n (bindO_e h (fun i253 hi253 h => (W_cut (Q' := fun (e : Exit) (s : St) => e = .normal ∧ s = ⟨[(0, S s1), (4, I i253)], []⟩) ?_ ?_)))
    ·refine iteO_e hi253 (fun hb255 hi253 => W_true rfl hb255 ?_) (fun hb255 hi253 => W_false rfl hb255 ?_)
     ·refine W_region (Ws 3 [] [0, 4] ⟨[(0, S s1), (4, I (w64 (0 - i202)))], []⟩ (WO_nil rfl ?_))
      cases hi253
      exact aI rfl rfl
     ·refine Ww [] [0, 4] ⟨[(0, S s1), (4, I i202)], []⟩ (W_skip ?_)
      cases hi253
      exact aI rfl rfl
    ·rintro _ _ ⟨rfl, rfl⟩
     refine thenS_n (W_seq (Wsr ((Wp 4 [] [0, 4, 51] T3 ⟨[(0, S s1), (4, I i253), (51, B (decide ((lI s1) = 0)))], []⟩ t3 (bindO_e h (fun b260 hv261 h => (WO_thru ⟨[(4, I i253), (61, B b260)], []⟩ ?_ ?_)))))))
     ·refine iteO_e hv261 (fun hb262 hv261 => WO_known 51 true rfl hb262 ?_) (fun hb262 hv261 => WO_known 51 false rfl hb262 ?_)
      ·refine Ws 10 [] [4, 61] ⟨[(4, I i253), (61, B true)], []⟩ ?_
       cases hv261
       exact WO_nil rfl ⟨rfl, rfl⟩
      ·refine Wp 5 [] [0, 4, 56] T3 ⟨[(0, S s1), (4, I i253), (56, B (decide (5 < (lI s1))))], []⟩ t3 (iteO_e hv261 (fun hb263 hv261 => WO_known 56 true rfl hb263 ?_) (fun hb263 hv261 => WO_known 56 false rfl hb263 ?_))
       ·refine Ws 5 [] [4, 61] ⟨[(4, I i253), (61, B true)], []⟩ ?_
        cases hv261
        exact WO_nil rfl ⟨rfl, rfl⟩
       ·refine Ws 1 [] [0, 4, 56, 57] ⟨[(0, S s1), (4, I i253), (56, B false), (57, I i253)], []⟩ (bindO_e hv261 (fun s264 hc265 hv261 => (Wc [] rfl rfl rfl Tryz.func24 rfl (spec_decimal_ok n i253 s264 hc265) (trivial) rfl (Wp 3 [] [4, 61] T2 ⟨[(4, I i253), (61, B (!decide (s264 = s1)))], []⟩ t2 ?_))))
        cases hv261
        exact WO_nil rfl ⟨rfl, rfl⟩
     ·refine thenS_n (iteO_e h (fun hb267 h => W_true rfl hb267 ?_) (fun hb267 h => W_false rfl hb267 ?_))
      ·refine Wsr ((Ws 2 [] [2, 3] ⟨[(2, I 0), (3, B false)], []⟩ (Wnt ((W_ret (thenS_r ?_))))))
       cases h
       exact ⟨[], True, by kernel_rfl, trivial⟩
      ·refine Ww [] [4] ⟨[(4, I i253)], []⟩ (W_skip (thenS_n (Wsr ((Ws 3 [] [2, 3] ⟨[(2, I i253), (3, B true)], []⟩ (Wnt ((W_ret ?_))))))))
       cases h
       exact ⟨[], True, by kernel_rfl, trivial⟩

/- spec.cut -/
def spec_cut_L1 (s1 : Str) : Nat → Int → Option ((Str × Str) ⊕ (Unit))
| 0, _ => none
| n + 1, i86 =>
 iteO (decide (0 < i86))
 (guardO (0 ≤ i86 ∧ i86 < ((s1.length : Nat) : Int)) <|
 iteO (decide (((s1.getD i86.toNat 0).toNat : Int) = 47))
 (guardO (0 ≤ i86 ∧ i86 ≤ ((s1.length : Nat) : Int)) <|
 guardO (0 ≤ (w64 (i86 + 1)) ∧ (w64 (i86 + 1)) ≤ ((s1.length : Nat) : Int)) <|
 some (.inl ((s1.take i86.toNat), (s1.drop ((w64 (i86 + 1)).toNat)))))
 (spec_cut_L1 s1 n (w64 (i86 - 1))))
 (some (.inr ()))

theorem spec_cut_L1_ok (w : World) (X : Nat → Prop) (θ : List Loc) (s1 : Str) (v : (Str × Str) ⊕ (Unit)) : ∀ (n : Nat) (i86 : Int), spec_cut_L1 s1 n i86 = some v → WL EE ⟨w, X, θ, 28, 0⟩ (subC [1, 0, 1, 4, 4] (bodyC Tryz.f43)) (fun (e : Exit) (s : St) => (match v with | (.inl (s104, s105)) => e = .ret ∧ s = ⟨[(2, S s104), (3, S s105)], []⟩ | (.inr _) => e = .exit 0 ∧ s = ⟨[(0, S s1)], []⟩ : Prop)) ⟨[(0, S s1), (4, I i86)], []⟩ := by
  intro n
  induction n with
  | zero => intro _ h; exact none_e h
  | succ n ih =>
    intro i86 h
    rw [spec_cut_L1] at h
    refine WL_round ?_
    refine W_seq (Wsr ((Wp 2 [] [0, 4, 9] T2 ⟨[(0, S s1), (4, I i86), (9, B (decide (0 < i86)))], []⟩ t2 (Wnt ((iteO_e h (fun hb108 h => W_true rfl hb108 ?_) (fun hb108 h => W_false rfl hb108 ?_)))))))
    ·refine Ww [] [0, 4] ⟨[(0, S s1), (4, I i86)], []⟩ (W_skip (thenS_n (W_seq (W_block (Wsr ((guardO_e h (fun hg116 h => (Wp 4 [] [0, 4, 15] ((0 ≤ i86 ∧ i86 < (lI s1)) ∧ T2) ⟨[(0, S s1), (4, I i86), (15, B (decide (((s1.getD i86.toNat 0).toNat : Int) = 47)))], []⟩ ⟨hg116, trivial, trivial⟩ (Wnt ((iteO_e h (fun hb120 h => W_true rfl hb120 ?_) (fun hb120 h => W_false rfl hb120 ?_)))))))))))))
     ·refine W_seq (guardO_e h (fun hg121 h => (guardO_e h (fun hg122 h => (W_cut (Q' := fun (e : Exit) (s : St) => e = .normal ∧ s = ⟨[(2, S (s1.take i86.toNat)), (3, S (s1.drop ((w64 (i86 + 1)).toNat)))], []⟩) ?_ ?_)))))
      ·refine W_draw [] true (by kernel_rfl) (by kernel_rfl) (WD_takeQ [0, 1, 2, 3, 4, 5, 6, 7, 8] [2, 3] [2, 3] (φ := ((0 ≤ i86 ∧ i86 ≤ (lI s1)) ∧ (0 ≤ i86 ∧ i86 ≤ (lI s1)) ∧ (True ∧ True ∧ ((0 ≤ (w64 (i86 + 1)) ∧ (w64 (i86 + 1)) ≤ (lI s1)) ∧ (0 ≤ (w64 (i86 + 1)) ∧ (w64 (i86 + 1)) ≤ (lI s1)) ∧ True)))) (ls' := (tf true [9])) (st' := ⟨[(2, S (s1.take i86.toNat)), (3, S (s1.drop ((w64 (i86 + 1)).toNat)))], []⟩) (n2 := 0) (by kernel_rfl) ⟨hg121, hg121, trivial, trivial, hg122, hg122, trivial⟩ rfl ?_)
       exact WD_done [] [2, 3] (st' := ⟨[(2, S (s1.take i86.toNat)), (3, S (s1.drop ((w64 (i86 + 1)).toNat)))], []⟩) (by kernel_rfl) (by kernel_rfl) (aI rfl rfl)
      ·rintro _ _ ⟨rfl, rfl⟩
       refine thenS_n (W_ret (blockS_r (thenS_r (thenS_r ?_))))
       cases h
       exact aI rfl rfl
     ·refine Ww [] [0, 4] ⟨[(0, S s1), (4, I i86)], []⟩ (W_skip (blockS_n (thenS_n (W_region (Wp 3 [] [0, 4] T2 ⟨[(0, S s1), (4, I (w64 (i86 - 1)))], []⟩ t2 (Wnt (?_)))))))
      exact ih _ h
    ·refine Ww [] [0] ⟨[(0, S s1)], []⟩ (W_exit (thenS_e (thenS_e ?_)))
     cases h
     exact aI rfl rfl

def spec_cut (n : Nat) (s1 : Str) : Option (Str × Str) :=
 bindO (spec_cut_L1 s1 n (w64 (((s1.length : Nat) : Int) - 1))) fun v123 =>
 match v123 with
 | (.inl (s104, s105)) => (some (s104, s105))
 | (.inr _) => (iteO (decide (((s1.length : Nat) : Int) = 0))
 (some ([], []))
 (guardO (0 ≤ (1 : Int) ∧ (1 : Int) ≤ ((s1.length : Nat) : Int)) <|
 some ([47], (s1.drop 1))))


theorem spec_cut_ok (n : Nat) (s1 : Str) (s63 : Str) (s64 : Str) (h : spec_cut n s1 = some (s63, s64)) : FOk EE 43 [S s1] [] (.tup [.e (cS s63), .e (cS s64)]) [] := by
  unfold spec_cut at h
  refine FOk_of_W 28 0 Tryz.func43 rfl rfl (Nat.le_of_ble_eq_true rfl) rfl (fun w X θ => ?_)
  refine Wsr ((Ws 2 [] [0] ⟨[(0, S s1)], []⟩ (Wnt ((W_seq (W_seq ?_))))))
  refine W_region (Wp 4 [] [0, 4] T3 ⟨[(0, S s1), (4, I (w64 ((lI s1) - 1)))], []⟩ t3 (Wnt ((W_block (W_loop (bindO_e h (fun v123 hv123 h => ?_)))))))
  refine WL_cut (spec_cut_L1_ok w X θ s1 v123 n (w64 ((lI s1) - 1)) hv123) ?_
  rcases v123 with ⟨s104, s105⟩ | _
  ·rintro _ _ ⟨rfl, rfl⟩
   refine blockS_r (thenS_r ?_)
   cases h
   exact ⟨[], True, by kernel_rfl, trivial⟩
  ·rintro _ _ ⟨rfl, rfl⟩
   refine blockS_y (thenS_n (W_seq (Wsr ((Wp 3 [] [0, 25] T3 ⟨[(0, S s1), (25, B (decide ((lI s1) = 0)))], []⟩ t3 (Wnt ((iteO_e h (fun hb125 h => W_true rfl hb125 ?_) (fun hb125 h => W_false rfl hb125 ?_)))))))))
   ·refine Wsr ((Ws 2 [] [2, 3] ⟨[(2, S []), (3, S [])], []⟩ (Wnt ((W_ret (thenS_r ?_))))))
    cases h
    exact ⟨[], True, by kernel_rfl, trivial⟩
   ·refine Ww [] [0] ⟨[(0, S s1)], []⟩ (W_skip (thenS_n (W_seq (guardO_e h (fun hg126 h => (W_cut (Q' := fun (e : Exit) (s : St) => e = .normal ∧ s = ⟨[(2, S [47]), (3, S (s1.drop 1))], []⟩) ?_ ?_))))))
    ·refine W_draw [] true (by kernel_rfl) (by kernel_rfl) (WD_takeQ [0, 1, 2, 3] [2, 3] [2, 3] (φ := ((0 ≤ (1 : Int) ∧ (1 : Int) ≤ (lI s1)) ∧ (0 ≤ (1 : Int) ∧ (1 : Int) ≤ (lI s1)) ∧ True)) (ls' := #[true, true, true, true]) (st' := ⟨[(2, S [47]), (3, S (s1.drop 1))], []⟩) (n2 := 0) (by kernel_rfl) ⟨hg126, hg126, trivial⟩ rfl ?_)
     exact WD_done [] [2, 3] (st' := ⟨[(2, S [47]), (3, S (s1.drop 1))], []⟩) (by kernel_rfl) (by kernel_rfl) (aI rfl rfl)
    ·rintro _ _ ⟨rfl, rfl⟩
     refine thenS_n (W_ret ?_)
     cases h
     exact ⟨[], True, by kernel_rfl, trivial⟩

/- spec.resolve -/
def spec_resolve_L1 (x1 : List Nod) (s2 : Str) : Nat → Int → Option ((Int) ⊕ (Unit))
| 0, _ => none
| n + 1, i56 =>
 iteO (decide (i56 < ((x1.length : Nat) : Int)))
 (bindO (spec_pathText n x1 i56) fun s76 =>
 iteO (decide (s76 = s2))
 (some (.inl i56))
 (spec_resolve_L1 x1 s2 n (w64 (i56 + 1))))
 (some (.inr ()))

theorem spec_resolve_L1_ok (w : World) (X : Nat → Prop) (θ : List Loc) (x1 : List Nod) (s2 : Str) (v : (Int) ⊕ (Unit)) : ∀ (n : Nat) (i56 : Int), spec_resolve_L1 x1 s2 n i56 = some v → WL EE ⟨w, X, θ, 18, 1⟩ (subC [1, 0, 1, 4, 4] (bodyC Tryz.f44)) (fun (e : Exit) (s : St) => (match v with | (.inl i68) => e = .ret ∧ s = ⟨[(4, I i68)], [nR x1]⟩ | (.inr _) => e = .exit 0 ∧ s = ⟨[], [nR x1]⟩ : Prop)) ⟨[(0, sF 0 x1), (1, S s2), (5, I i56)], [nR x1]⟩ := by
  intro n
  induction n with
  | zero => intro _ h; exact none_e h
  | succ n ih =>
    intro i56 h
    rw [spec_resolve_L1] at h
    refine WL_round ?_
    refine W_seq (Wsr ((Wp 4 [0] [0, 1, 5, 9] T3 ⟨[(0, sF 0 x1), (1, S s2), (5, I i56), (9, B (decide (i56 < (lI x1))))], [nR x1]⟩ t3 (Wnt ((iteO_e h (fun hb71 h => W_true rfl hb71 ?_) (fun hb71 h => W_false rfl hb71 ?_)))))))
    ·refine Ww [0] [0, 1, 5] ⟨[(0, sF 0 x1), (1, S s2), (5, I i56)], [nR x1]⟩ (W_skip (thenS_n (W_seq (W_block (Wsr ((Ws 2 [0] [0, 1, 5, 12, 13] ⟨[(0, sF 0 x1), (1, S s2), (5, I i56), (12, sF 0 x1), (13, I i56)], [nR x1]⟩ (bindO_e h (fun s76 hc77 h => (Wc [.ro 0] rfl rfl rfl Tryz.func72 rfl (spec_pathText_ok n x1 i56 s76 hc77) (aI (aI rfl rfl) (trivial)) rfl (Wp 2 [0] [0, 1, 5, 16] T2 ⟨[(0, sF 0 x1), (1, S s2), (5, I i56), (16, B (decide (s76 = s2)))], [nR x1]⟩ t2 (Wnt ((iteO_e h (fun hb79 h => W_true rfl hb79 ?_) (fun hb79 h => W_false rfl hb79 ?_)))))))))))))))
     ·refine Wsr ((Ws 2 [0] [4] ⟨[(4, I i56)], [nR x1]⟩ (Wnt ((W_ret (blockS_r (thenS_r (thenS_r ?_))))))))
      cases h
      exact aI rfl rfl
     ·refine Ww [0] [0, 1, 5] ⟨[(0, sF 0 x1), (1, S s2), (5, I i56)], [nR x1]⟩ (W_skip (blockS_n (thenS_n (W_region (Wp 3 [0] [0, 1, 5] T2 ⟨[(0, sF 0 x1), (1, S s2), (5, I (w64 (i56 + 1)))], [nR x1]⟩ t2 (Wnt (?_)))))))
      exact ih _ h
    ·refine Ww [0] [] ⟨[], [nR x1]⟩ (W_exit (thenS_e (thenS_e ?_)))
     cases h
     exact aI rfl rfl

def spec_resolve (n : Nat) (x1 : List Nod) (s2 : Str) : Option (Int) :=
 bindO (spec_resolve_L1 x1 s2 n 0) fun v80 =>
 match v80 with
 | (.inl i68) => (some i68)
 | (.inr _) => (some (-1))


theorem spec_resolve_ok (n : Nat) (x1 : List Nod) (s2 : Str) (i41 : Int) (h : spec_resolve n x1 s2 = some i41) : FOk EE 44 [sF 0 x1, S s2] [nR x1] (I i41) [nR x1] := by
  unfold spec_resolve at h
  refine FOk_of_W 18 1 Tryz.func44 rfl rfl (Nat.le_of_ble_eq_true rfl) rfl (fun w X θ => ?_)
  refine Wsr ((Ws 1 [0] [0, 1] ⟨[(0, sF 0 x1), (1, S s2)], [nR x1]⟩ (Wnt ((W_seq (W_seq ?_))))))
  refine W_region (Ws 1 [0] [0, 1, 5] ⟨[(0, sF 0 x1), (1, S s2), (5, I 0)], [nR x1]⟩ (Wnt ((W_block (W_loop (bindO_e h (fun v80 hv80 h => ?_)))))))
  refine WL_cut (spec_resolve_L1_ok w X θ x1 s2 v80 n 0 hv80) ?_
  rcases v80 with i68 | _
  ·rintro _ _ ⟨rfl, rfl⟩
   refine blockS_r (thenS_r ?_)
   cases h
   exact ⟨[0], True, by kernel_rfl, trivial⟩
  ·rintro _ _ ⟨rfl, rfl⟩
   refine blockS_y (thenS_n (Wsr ((Ws 1 [0] [4] ⟨[(4, I (-1))], [nR x1]⟩ (Wnt ((W_ret ?_)))))))
   cases h
   exact ⟨[0], True, by kernel_rfl, trivial⟩

/- spec.ParseTree -/
def spec_ParseTree_L1 (s1 : Str) (x294 : List Str) : Nat → (List Nod) → Int → Option ((Unit) ⊕ ((List Nod)))
| 0, _, _ => none
| n + 1, x394, i395 =>
 iteO (decide (i395 < ((x294.length : Nat) : Int)))
 (guardO (0 ≤ i395 ∧ i395 < ((x294.length : Nat) : Int)) <|
 bindO (iteO (decide (0 < i395))
 (bindO (iteO (decide ((((x294.getD i395.toNat []).length : Nat) : Int) = 0))
 (some true)
 (guardO (0 ≤ (0 : Int) ∧ (0 : Int) < (((x294.getD i395.toNat []).length : Nat) : Int)) <|
 some (!decide ((((x294.getD i395.toNat []).getD ((0 : Int).toNat) 0).toNat : Int) = 32)))) fun b552 =>
 iteO b552
 (some (.inl ()))
 (guardO (0 ≤ (1 : Int) ∧ (1 : Int) ≤ (((x294.getD i395.toNat []).length : Nat) : Int)) <|
 some (.inr ((x294.getD i395.toNat []).drop 1))))
 (some (.inr (x294.getD i395.toNat []))) : Option ((Unit) ⊕ (Str))) fun v548 =>
 match v548 with
 | (.inl _) => (some (.inl ()))
 | (.inr s547) => (bindO (spec_splitAt n s547 32) fun x559 =>
 iteO (!decide (((x559.length : Nat) : Int) = 2))
 (some (.inl ()))
 (guardO (0 ≤ (1 : Int) ∧ (1 : Int) < ((x559.length : Nat) : Int)) <|
 bindO (spec_parseInt n (x559.getD 1 [])) fun (i564, b565) =>
 bindO (iteO (decide (0 < i395))
 (guardO (0 ≤ (0 : Int) ∧ (0 : Int) < ((x559.length : Nat) : Int)) <|
 bindO (spec_cut n (x559.getD 0 [])) fun (s580, s581) =>
 bindO (spec_resolve n x394 s580) fun i583 =>
 some (i583, s581))
 (some ((-1), []))) fun v577 =>
 match v577 with
 | (i575, s576) => (guardO (0 = 0 ∧ x394.length = x394.length ∧ x394.length + (([(⟨i575, s576, i564⟩ : Nod)].drop 0).take ([(⟨i575, s576, i564⟩ : Nod)].length)).length ≤ 1099511627776) <|
 bindO (iteO (!b565)
 (some true)
 (bindO (spec_validTree n (x394 ++ (([(⟨i575, s576, i564⟩ : Nod)].drop 0).take ([(⟨i575, s576, i564⟩ : Nod)].length)))) fun b593 =>
 some (!b593))) fun b590 =>
 iteO b590
 (some (.inl ()))
 (spec_ParseTree_L1 s1 x294 n (x394 ++ (([(⟨i575, s576, i564⟩ : Nod)].drop 0).take ([(⟨i575, s576, i564⟩ : Nod)].length))) (w64 (i395 + 1))))
))
)
 (some (.inr x394))

theorem spec_ParseTree_L1_ok (w : World) (X : Nat → Prop) (θ : List Loc) (s1 : Str) (x294 : List Str) (v : (Unit) ⊕ ((List Nod))) : ∀ (n : Nat) (x394 : List Nod) (i395 : Int), spec_ParseTree_L1 s1 x294 n x394 i395 = some v → WL EE ⟨w, X, θ, 87, 0⟩ (subC [1, 1, 1, 1, 0, 1, 4, 4] (bodyC Tryz.f15)) (fun (e : Exit) (s : St) => (match v with | (.inl _) => e = .ret ∧ s = ⟨[(2, .one (.e (.sl 0 0 (([] : List Nod).length)))), (3, B false)], [nO ([] : List Nod)]⟩ | (.inr x488) => e = .exit 0 ∧ s = ⟨[(0, S s1), (5, sF 0 x488)], [nO x488]⟩ : Prop)) ⟨[(0, S s1), (4, sF 0 x294), (5, sF 1 x394), (6, I i395)], [sO x294, nO x394]⟩ := by
  intro n
  induction n with
  | zero => intro _ _ h; exact none_e h
  | succ n ih =>
    intro x394 i395 h
    rw [spec_ParseTree_L1] at h
    refine WL_round ?_
    refine W_seq (Wsr ((Wp 4 [0, 1] [0, 4, 5, 6, 23] T3 ⟨[(0, S s1), (4, sF 0 x294), (5, sF 1 x394), (6, I i395), (23, B (decide (i395 < (lI x294))))], [sO x294, nO x394]⟩ t3 (Wnt ((iteO_e h (fun hb491 h => W_true rfl hb491 ?_) (fun hb491 h => W_false rfl hb491 ?_)))))))
    ·refine Ww [0, 1] [0, 4, 5, 6] ⟨[(0, S s1), (4, sF 0 x294), (5, sF 1 x394), (6, I i395)], [sO x294, nO x394]⟩ (W_skip (thenS_n (W_seq (W_block (Wsr ((guardO_e h (fun hg536 h => (Wp 5 [0, 1] [0, 4, 5, 6, 7] ((0 ≤ i395 ∧ i395 < (lI x294)) ∧ T2) ⟨[(0, S s1), (4, sF 0 x294), (5, sF 1 x394), (6, I i395), (7, S (x294.getD i395.toNat []))], [sO x294, nO x394]⟩ ⟨hg536, trivial, trivial⟩ (Wnt ((W_seq (Wsr ((Wp 2 [0, 1] [0, 4, 5, 6, 7, 31] T2 ⟨[(0, S s1), (4, sF 0 x294), (5, sF 1 x394), (6, I i395), (7, S (x294.getD i395.toNat [])), (31, B (decide (0 < i395)))], [sO x294, nO x394]⟩ t2 (Wnt ((bindO_e h (fun v548 hv548 h => (W_cut (Q' := fun (e : Exit) (s : St) => (match v548 with | (.inl _) => e = .ret ∧ s = ⟨[(2, .one (.e (.sl 0 0 (([] : List Nod).length)))), (3, B false)], [nO ([] : List Nod)]⟩ | (.inr s547) => e = .normal ∧ s = ⟨[(0, S s1), (4, sF 0 x294), (5, sF 1 x394), (6, I i395), (7, S s547)], [sO x294, nO x394]⟩ : Prop)) ?_ ?_))))))))))))))))))))
     ·refine iteO_e hv548 (fun hb549 hv548 => W_true rfl hb549 ?_) (fun hb549 hv548 => W_false rfl hb549 ?_)
      ·refine W_seq (Wsr ((Wp 4 [0, 1] [0, 4, 5, 6, 7, 35] T3 ⟨[(0, S s1), (4, sF 0 x294), (5, sF 1 x394), (6, I i395), (7, S (x294.getD i395.toNat [])), (35, B (decide ((((x294.getD i395.toNat []).length : Nat) : Int) = 0)))], [sO x294, nO x394]⟩ t3 (bindO_e hv548 (fun b552 hv553 hv548 => (WO_thru ⟨[(0, S s1), (4, sF 0 x294), (5, sF 1 x394), (6, I i395), (7, S (x294.getD i395.toNat [])), (39, B b552)], [sO x294, nO x394]⟩ ?_ ?_))))))
       ·refine iteO_e hv553 (fun hb554 hv553 => WO_known 35 true rfl hb554 ?_) (fun hb554 hv553 => WO_known 35 false rfl hb554 ?_)
        ·refine Ws 4 [0, 1] [0, 4, 5, 6, 7, 39] ⟨[(0, S s1), (4, sF 0 x294), (5, sF 1 x394), (6, I i395), (7, S (x294.getD i395.toNat [])), (39, B true)], [sO x294, nO x394]⟩ ?_
         cases hv553
         exact WO_nil rfl ⟨rfl, rfl⟩
        ·refine guardO_e hv553 (fun hg555 hv553 => (Wp 4 [0, 1] [0, 4, 5, 6, 7, 39] ((0 ≤ (0 : Int) ∧ (0 : Int) < (((x294.getD i395.toNat []).length : Nat) : Int)) ∧ T2) ⟨[(0, S s1), (4, sF 0 x294), (5, sF 1 x394), (6, I i395), (7, S (x294.getD i395.toNat [])), (39, B (!decide ((((x294.getD i395.toNat []).getD ((0 : Int).toNat) 0).toNat : Int) = 32)))], [sO x294, nO x394]⟩ ⟨hg555, trivial, trivial⟩ ?_))
         cases hv553
         exact WO_nil rfl ⟨rfl, rfl⟩
       ·refine thenS_n (iteO_e hv548 (fun hb557 hv548 => W_true rfl hb557 ?_) (fun hb557 hv548 => W_false rfl hb557 ?_))
        ·refine Wsr ((Ws 2 [] [2, 3] ⟨[(2, .one (.e (.nsl))), (3, B false)], []⟩ (WO_nilrow 2 .nod rfl (Wb [0] [2, 3] ⟨[(2, .one (.e (.sl 0 0 (([] : List Nod).length)))), (3, B false)], [nO ([] : List Nod)]⟩ (Wnt ((W_ret (thenS_r ?_))))))))
         cases hv548
         exact aI rfl rfl
        ·refine Ww [0, 1] [0, 4, 5, 6, 7] ⟨[(0, S s1), (4, sF 0 x294), (5, sF 1 x394), (6, I i395), (7, S (x294.getD i395.toNat []))], [sO x294, nO x394]⟩ (W_skip (thenS_n (W_region (guardO_e hv548 (fun hg558 hv548 => (Wp 3 [0, 1] [0, 4, 5, 6, 7] ((0 ≤ (1 : Int) ∧ (1 : Int) ≤ (((x294.getD i395.toNat []).length : Nat) : Int)) ∧ True) ⟨[(0, S s1), (4, sF 0 x294), (5, sF 1 x394), (6, I i395), (7, S ((x294.getD i395.toNat []).drop 1))], [sO x294, nO x394]⟩ ⟨hg558, trivial⟩ (WO_nil rfl ?_)))))))
         cases hv548
         exact aI rfl rfl
      ·refine Ww [0, 1] [0, 4, 5, 6, 7] ⟨[(0, S s1), (4, sF 0 x294), (5, sF 1 x394), (6, I i395), (7, S (x294.getD i395.toNat []))], [sO x294, nO x394]⟩ (W_skip ?_)
       cases hv548
       exact aI rfl rfl
     ·rcases v548 with _ | s547
      ·rintro _ _ ⟨rfl, rfl⟩
       refine thenS_r (blockS_r (thenS_r (thenS_r ?_)))
       cases h
       exact aI rfl rfl
      ·rintro _ _ ⟨rfl, rfl⟩
       refine thenS_n (Wsr ((Ws 1 [0, 1] [0, 4, 5, 6, 42] ⟨[(0, S s1), (4, sF 0 x294), (5, sF 1 x394), (6, I i395), (42, S s547)], [sO x294, nO x394]⟩ (bindO_e h (fun x559 hc560 h => (Wc [] rfl rfl rfl Tryz.func41 rfl (spec_splitAt_ok n s547 32 x559 hc560) (trivial) rfl (Ws 1 [0, 1, 2] [0, 4, 5, 6, 8] ⟨[(0, S s1), (4, sF 0 x294), (5, sF 1 x394), (6, I i395), (8, sF 2 x559)], [sO x294, nO x394, sO x559]⟩ (Wnt ((W_seq (Wsr ((Wp 3 [0, 1, 2] [0, 4, 5, 6, 8, 46] T3 ⟨[(0, S s1), (4, sF 0 x294), (5, sF 1 x394), (6, I i395), (8, sF 2 x559), (46, B (!decide ((lI x559) = 2)))], [sO x294, nO x394, sO x559]⟩ t3 (Wnt ((iteO_e h (fun hb562 h => W_true rfl hb562 ?_) (fun hb562 h => W_false rfl hb562 ?_)))))))))))))))))
       ·refine Wsr ((Ws 2 [] [2, 3] ⟨[(2, .one (.e (.nsl))), (3, B false)], []⟩ (WO_nilrow 2 .nod rfl (Wb [0] [2, 3] ⟨[(2, .one (.e (.sl 0 0 (([] : List Nod).length)))), (3, B false)], [nO ([] : List Nod)]⟩ (Wnt ((W_ret (thenS_r (blockS_r (thenS_r (thenS_r ?_)))))))))))
        cases h
        exact aI rfl rfl
       ·refine Ww [0, 1, 2] [0, 4, 5, 6, 8] ⟨[(0, S s1), (4, sF 0 x294), (5, sF 1 x394), (6, I i395), (8, sF 2 x559)], [sO x294, nO x394, sO x559]⟩ (W_skip (thenS_n (Wsr ((guardO_e h (fun hg563 h => (Wp 3 [0, 1, 2] [0, 4, 5, 6, 8, 50] ((0 ≤ (1 : Int) ∧ (1 : Int) < (lI x559)) ∧ T2) ⟨[(0, S s1), (4, sF 0 x294), (5, sF 1 x394), (6, I i395), (8, sF 2 x559), (50, S (x559.getD 1 []))], [sO x294, nO x394, sO x559]⟩ ⟨hg563, trivial, trivial⟩ (bindO_e h (fun v597 hc566 h => ?_)))))))))
        obtain ⟨i564, b565⟩ := v597
        refine Wc [] rfl rfl rfl Tryz.func42 rfl (spec_parseInt_ok n (x559.getD 1 []) i564 b565 hc566) (trivial) rfl (Ws 5 [0, 1, 2] [0, 4, 5, 6, 8, 9, 10] ⟨[(0, S s1), (4, sF 0 x294), (5, sF 1 x394), (6, I i395), (8, sF 2 x559), (9, I i564), (10, B b565)], [sO x294, nO x394, sO x559]⟩ (Wnt ((Wsr ((Wp 4 [0, 1, 2, 3] [0, 4, 5, 6, 8, 9, 10, 11] T3 ⟨[(0, S s1), (4, sF 0 x294), (5, sF 1 x394), (6, I i395), (8, sF 2 x559), (9, I i564), (10, B b565), (11, pA 3 0)], [sO x294, nO x394, sO x559, .cells [cI (-1), cS [], cI i564]]⟩ t3 (Wnt ((W_seq (Wsr ((Wp 2 [0, 1, 2, 3] [0, 4, 5, 6, 8, 9, 10, 11, 57] T2 ⟨[(0, S s1), (4, sF 0 x294), (5, sF 1 x394), (6, I i395), (8, sF 2 x559), (9, I i564), (10, B b565), (11, pA 3 0), (57, B (decide (0 < i395)))], [sO x294, nO x394, sO x559, .cells [cI (-1), cS [], cI i564]]⟩ t2 (Wnt ((bindO_e h (fun v577 hv577 h => (W_cut (Q' := fun (e : Exit) (s : St) => (match v577 with | (i575, s576) => e = .normal ∧ s = ⟨[(0, S s1), (4, sF 0 x294), (5, sF 1 x394), (6, I i395), (10, B b565), (11, pA 2 0)], [sO x294, nO x394, .cells [cI i575, cS s576, cI i564]]⟩ : Prop)) ?_ ?_)))))))))))))))))
        ·refine iteO_e hv577 (fun hb578 hv577 => W_true rfl hb578 ?_) (fun hb578 hv577 => W_false rfl hb578 ?_)
         ·refine Wsr ((guardO_e hv577 (fun hg579 hv577 => (Wp 3 [0, 1, 3] [0, 4, 5, 6, 9, 10, 11, 61] ((0 ≤ (0 : Int) ∧ (0 : Int) < (lI x559)) ∧ T2) ⟨[(0, S s1), (4, sF 0 x294), (5, sF 1 x394), (6, I i395), (9, I i564), (10, B b565), (11, pA 2 0), (61, S (x559.getD 0 []))], [sO x294, nO x394, .cells [cI (-1), cS [], cI i564]]⟩ ⟨hg579, trivial, trivial⟩ (bindO_e hv577 (fun v585 hc582 hv577 => ?_))))))
          obtain ⟨s580, s581⟩ := v585
          refine Wc [] rfl rfl rfl Tryz.func43 rfl (spec_cut_ok n (x559.getD 0 []) s580 s581 hc582) (trivial) rfl (Ws 5 [0, 1, 2] [0, 4, 5, 6, 9, 10, 11, 12, 13] ⟨[(0, S s1), (4, sF 0 x294), (5, sF 1 x394), (6, I i395), (9, I i564), (10, B b565), (11, pA 2 0), (12, S s580), (13, S s581)], [sO x294, nO x394, .cells [cI (-1), cS [], cI i564]]⟩ (Wnt ((W_region (Ws 2 [0, 1, 2] [0, 4, 5, 6, 9, 10, 11, 13, 65, 66] ⟨[(0, S s1), (4, sF 0 x294), (5, sF 1 x394), (6, I i395), (9, I i564), (10, B b565), (11, pA 2 0), (13, S s581), (65, sF 1 x394), (66, S s580)], [sO x294, nO x394, .cells [cI (-1), cS [], cI i564]]⟩ (bindO_e hv577 (fun i583 hc584 hv577 => (Wc [.ro 1] rfl rfl rfl Tryz.func44 rfl (spec_resolve_ok n x394 s580 i583 hc584) (aI (aI rfl rfl) (trivial)) rfl (Wp 4 [0, 1, 2] [0, 4, 5, 6, 10, 11] T2 ⟨[(0, S s1), (4, sF 0 x294), (5, sF 1 x394), (6, I i395), (10, B b565), (11, pA 2 0)], [sO x294, nO x394, .cells [cI i583, cS s581, cI i564]]⟩ t2 (WO_nil rfl ?_))))))))))
          cases hv577
          exact aI rfl rfl
         ·refine Ww [0, 1, 3] [0, 4, 5, 6, 10, 11] ⟨[(0, S s1), (4, sF 0 x294), (5, sF 1 x394), (6, I i395), (10, B b565), (11, pA 2 0)], [sO x294, nO x394, .cells [cI (-1), cS [], cI i564]]⟩ (W_skip ?_)
          cases hv577
          exact aI rfl rfl
        ·obtain ⟨i575, s576⟩ := v577
         rintro _ _ ⟨rfl, rfl⟩
         refine thenS_n (Wsr ((guardO_e h (fun hg586 h => (Wp 5 [0, 4] [0, 4, 5, 6, 10] (True ∧ ((0 = 0 ∧ x394.length = x394.length ∧ x394.length + (([(⟨i575, s576, i564⟩ : Nod)].drop 0).take ([(⟨i575, s576, i564⟩ : Nod)].length)).length ≤ 1099511627776) ∧ True)) ⟨[(0, S s1), (4, sF 0 x294), (5, .one (.e (.sl 1 0 ((x394 ++ (([(⟨i575, s576, i564⟩ : Nod)].drop 0).take ([(⟨i575, s576, i564⟩ : Nod)].length))).length)))), (6, I i395), (10, B b565)], [sO x294, .row .nod (x394 ++ (([(⟨i575, s576, i564⟩ : Nod)].drop 0).take ([(⟨i575, s576, i564⟩ : Nod)].length))) true]⟩ ⟨trivial, hg586, trivial⟩ (Wnt ((Wsr ((Ws 3 [0, 1] [0, 4, 5, 6, 77] ⟨[(0, S s1), (4, sF 0 x294), (5, .one (.e (.sl 1 0 ((x394 ++ (([(⟨i575, s576, i564⟩ : Nod)].drop 0).take ([(⟨i575, s576, i564⟩ : Nod)].length))).length)))), (6, I i395), (77, B (!b565))], [sO x294, .row .nod (x394 ++ (([(⟨i575, s576, i564⟩ : Nod)].drop 0).take ([(⟨i575, s576, i564⟩ : Nod)].length))) true]⟩ (bindO_e h (fun b590 hv591 h => (WO_thru ⟨[(0, S s1), (4, sF 0 x294), (5, .one (.e (.sl 1 0 ((x394 ++ (([(⟨i575, s576, i564⟩ : Nod)].drop 0).take ([(⟨i575, s576, i564⟩ : Nod)].length))).length)))), (6, I i395), (81, B b590)], [sO x294, .row .nod (x394 ++ (([(⟨i575, s576, i564⟩ : Nod)].drop 0).take ([(⟨i575, s576, i564⟩ : Nod)].length))) true]⟩ ?_ ?_)))))))))))))
         ·refine iteO_e hv591 (fun hb592 hv591 => WO_known 77 true rfl hb592 ?_) (fun hb592 hv591 => WO_known 77 false rfl hb592 ?_)
          ·refine Ws 4 [0, 1] [0, 4, 5, 6, 81] ⟨[(0, S s1), (4, sF 0 x294), (5, .one (.e (.sl 1 0 ((x394 ++ (([(⟨i575, s576, i564⟩ : Nod)].drop 0).take ([(⟨i575, s576, i564⟩ : Nod)].length))).length)))), (6, I i395), (81, B true)], [sO x294, .row .nod (x394 ++ (([(⟨i575, s576, i564⟩ : Nod)].drop 0).take ([(⟨i575, s576, i564⟩ : Nod)].length))) true]⟩ ?_
           cases hv591
           exact WO_nil rfl ⟨rfl, rfl⟩
          ·refine Ws 1 [0, 1] [0, 4, 5, 6, 77, 78] ⟨[(0, S s1), (4, sF 0 x294), (5, .one (.e (.sl 1 0 ((x394 ++ (([(⟨i575, s576, i564⟩ : Nod)].drop 0).take ([(⟨i575, s576, i564⟩ : Nod)].length))).length)))), (6, I i395), (77, B false), (78, .one (.e (.sl 1 0 ((x394 ++ (([(⟨i575, s576, i564⟩ : Nod)].drop 0).take ([(⟨i575, s576, i564⟩ : Nod)].length))).length))))], [sO x294, .row .nod (x394 ++ (([(⟨i575, s576, i564⟩ : Nod)].drop 0).take ([(⟨i575, s576, i564⟩ : Nod)].length))) true]⟩ (bindO_e hv591 (fun b593 hc594 hv591 => (Wc [.ro 1] rfl rfl rfl Tryz.func45 rfl (spec_validTree_ok n (x394 ++ (([(⟨i575, s576, i564⟩ : Nod)].drop 0).take ([(⟨i575, s576, i564⟩ : Nod)].length))) b593 hc594) (aI (aI rfl rfl) (trivial)) rfl (Ws 2 [0, 1] [0, 4, 5, 6, 81] ⟨[(0, S s1), (4, sF 0 x294), (5, .one (.e (.sl 1 0 ((x394 ++ (([(⟨i575, s576, i564⟩ : Nod)].drop 0).take ([(⟨i575, s576, i564⟩ : Nod)].length))).length)))), (6, I i395), (81, B (!b593))], [sO x294, .row .nod (x394 ++ (([(⟨i575, s576, i564⟩ : Nod)].drop 0).take ([(⟨i575, s576, i564⟩ : Nod)].length))) true]⟩ ?_))))
           cases hv591
           exact WO_nil rfl ⟨rfl, rfl⟩
         ·refine thenS_n (iteO_e h (fun hb596 h => W_true rfl hb596 ?_) (fun hb596 h => W_false rfl hb596 ?_))
          ·refine Wsr ((Ws 2 [] [2, 3] ⟨[(2, .one (.e (.nsl))), (3, B false)], []⟩ (WO_nilrow 2 .nod rfl (Wb [0] [2, 3] ⟨[(2, .one (.e (.sl 0 0 (([] : List Nod).length)))), (3, B false)], [nO ([] : List Nod)]⟩ (Wnt ((W_ret (blockS_r (thenS_r (thenS_r ?_))))))))))
           cases h
           exact aI rfl rfl
          ·refine Ww [0, 1] [0, 4, 5, 6] ⟨[(0, S s1), (4, sF 0 x294), (5, .one (.e (.sl 1 0 ((x394 ++ (([(⟨i575, s576, i564⟩ : Nod)].drop 0).take ([(⟨i575, s576, i564⟩ : Nod)].length))).length)))), (6, I i395)], [sO x294, .row .nod (x394 ++ (([(⟨i575, s576, i564⟩ : Nod)].drop 0).take ([(⟨i575, s576, i564⟩ : Nod)].length))) true]⟩ (W_skip (blockS_n (thenS_n (W_region (Wp 3 [0, 1] [0, 4, 5, 6] T2 ⟨[(0, S s1), (4, sF 0 x294), (5, .one (.e (.sl 1 0 ((x394 ++ (([(⟨i575, s576, i564⟩ : Nod)].drop 0).take ([(⟨i575, s576, i564⟩ : Nod)].length))).length)))), (6, I (w64 (i395 + 1)))], [sO x294, .row .nod (x394 ++ (([(⟨i575, s576, i564⟩ : Nod)].drop 0).take ([(⟨i575, s576, i564⟩ : Nod)].length))) true]⟩ t2 (Wnt (?_)))))))
           exact ih _ _ h
    ·refine Ww [1] [0, 5] ⟨[(0, S s1), (5, sF 0 x394)], [nO x394]⟩ (W_exit (thenS_e (thenS_e ?_)))
     cases h
     exact aI rfl rfl

def spec_ParseTree (n : Nat) (s1 : Str) : Option ((List Nod) × Bool) :=
 bindO (spec_splitAt n s1 59) fun x294 =>
 iteO (decide (12 < ((x294.length : Nat) : Int)))
 (some (([] : List Nod), false))
 (bindO (spec_ParseTree_L1 s1 x294 n ([] : List Nod) 0) fun v598 =>
 match v598 with
 | (.inl _) => (some (([] : List Nod), false))
 | (.inr x488) => (bindO (spec_formatTree n x488) fun s599 =>
 iteO (!decide (s599 = s1))
 (some (([] : List Nod), false))
 (some (x488, true)))
)

theorem spec_ParseTree_ok (n : Nat) (s1 : Str) (x292 : List Nod) (b293 : Bool) (h : spec_ParseTree n s1 = some (x292, b293)) : FOk EE 15 [S s1] [] (.tup [.e (.sl 0 0 x292.length), .e (cB b293)]) [nO x292] := by
  unfold spec_ParseTree at h
  refine FOk_of_W 87 0 Tryz.func15 rfl rfl (Nat.le_of_ble_eq_true rfl) rfl (fun w X θ => ?_)
  refine Wsr ((Ws 2 [] [0] ⟨[(0, S s1)], []⟩ (Wnt ((W_seq (W_region ?_))))))
  refine Ws 1 [] [0, 14] ⟨[(0, S s1), (14, S s1)], []⟩ (bindO_e h (fun x294 hc295 h => (Wc [] rfl rfl rfl Tryz.func41 rfl (spec_splitAt_ok n s1 59 x294 hc295) (trivial) rfl (Ws 1 [0] [0, 4] ⟨[(0, S s1), (4, sF 0 x294)], [sO x294]⟩ (Wnt ((W_seq ?_)))))))
  refine W_region (Ws 2 [0, 1] [0, 4, 5] ⟨[(0, S s1), (4, sF 0 x294), (5, .one (.e (.sl 1 0 (([] : List Nod).length))))], [sO x294, nO ([] : List Nod)]⟩ (Wnt ((W_seq (W_seq (W_region ?_))))))
  refine Wp 3 [0, 1] [0, 4, 5, 19] T3 ⟨[(0, S s1), (4, sF 0 x294), (5, .one (.e (.sl 1 0 (([] : List Nod).length)))), (19, B (decide (12 < (lI x294))))], [sO x294, nO ([] : List Nod)]⟩ t3 (Wnt ((iteO_e h (fun hb297 h => W_true rfl hb297 ?_) (fun hb297 h => W_false rfl hb297 ?_))))
  ·refine Wsr ((Ws 2 [] [2, 3] ⟨[(2, .one (.e (.nsl))), (3, B false)], []⟩ (WO_nilrow 2 .nod rfl (Wb [0] [2, 3] ⟨[(2, .one (.e (.sl 0 0 (([] : List Nod).length)))), (3, B false)], [nO ([] : List Nod)]⟩ (Wnt ((W_ret (thenS_r ?_))))))))
   cases h
   exact ⟨[0], True, by kernel_rfl, trivial⟩
  ·refine Ww [0, 1] [0, 4, 5] ⟨[(0, S s1), (4, sF 0 x294), (5, .one (.e (.sl 1 0 (([] : List Nod).length))))], [sO x294, nO ([] : List Nod)]⟩ (W_skip (thenS_n (W_seq (Wsr ((Ws 1 [0, 1] [0, 4, 5, 6] ⟨[(0, S s1), (4, sF 0 x294), (5, .one (.e (.sl 1 0 (([] : List Nod).length)))), (6, I 0)], [sO x294, nO ([] : List Nod)]⟩ (Wnt ((W_block (W_loop (bindO_e h (fun v598 hv598 h => (WL_cut (spec_ParseTree_L1_ok w X θ s1 x294 v598 n ([] : List Nod) 0 hv598) ?_)))))))))))))
   rcases v598 with _ | x488
   ·rintro _ _ ⟨rfl, rfl⟩
    refine blockS_r (thenS_r ?_)
    cases h
    exact ⟨[0], True, by kernel_rfl, trivial⟩
   ·rintro _ _ ⟨rfl, rfl⟩
    refine blockS_y (thenS_n (W_seq (Wsr ((Ws 1 [0] [0, 5, 82] ⟨[(0, S s1), (5, sF 0 x488), (82, sF 0 x488)], [nO x488]⟩ (bindO_e h (fun s599 hc600 h => (Wc [.ro 0] rfl rfl rfl Tryz.func46 rfl (spec_formatTree_ok n x488 s599 hc600) (aI (aI rfl rfl) (trivial)) rfl (Wp 2 [0] [5, 85] T2 ⟨[(5, sF 0 x488), (85, B (!decide (s599 = s1)))], [nO x488]⟩ t2 (Wnt ((iteO_e h (fun hb602 h => W_true rfl hb602 ?_) (fun hb602 h => W_false rfl hb602 ?_)))))))))))))
    ·refine Wsr ((Ws 2 [] [2, 3] ⟨[(2, .one (.e (.nsl))), (3, B false)], []⟩ (WO_nilrow 2 .nod rfl (Wb [0] [2, 3] ⟨[(2, .one (.e (.sl 0 0 (([] : List Nod).length)))), (3, B false)], [nO ([] : List Nod)]⟩ (Wnt ((W_ret (thenS_r ?_))))))))
     cases h
     exact ⟨[0], True, by kernel_rfl, trivial⟩
    ·refine Ww [0] [5] ⟨[(5, sF 0 x488)], [nO x488]⟩ (W_skip (thenS_n (Wsr ((Ws 3 [0] [2, 3] ⟨[(2, sF 0 x488), (3, B true)], [nO x488]⟩ (Wnt ((W_ret ?_))))))))
     cases h
     exact ⟨[0], True, by kernel_rfl, trivial⟩

/- laws.equalNodes -/
def laws_equalNodes_L1 (x1 : List Nod) (x2 : List Nod) : Nat → Int → Option ((Unit) ⊕ (Unit))
| 0, _ => none
| n + 1, i57 =>
 iteO (decide (i57 < ((x1.length : Nat) : Int)))
 (guardO (0 ≤ i57 ∧ i57 < ((x1.length : Nat) : Int)) <|
 guardO (0 ≤ i57 ∧ i57 < ((x2.length : Nat) : Int)) <|
 iteO (!((decide (((x1.getD i57.toNat dnod).parent) = ((x2.getD i57.toNat dnod).parent))) && ((decide (((x1.getD i57.toNat dnod).name) = ((x2.getD i57.toNat dnod).name))) && ((decide (((x1.getD i57.toNat dnod).value) = ((x2.getD i57.toNat dnod).value))) && true))))
 (some (.inl ()))
 (laws_equalNodes_L1 x1 x2 n (w64 (i57 + 1))))
 (some (.inr ()))

theorem laws_equalNodes_L1_ok (w : World) (X : Nat → Prop) (θ : List Loc) (x1 : List Nod) (x2 : List Nod) (v : (Unit) ⊕ (Unit)) : ∀ (n : Nat) (i57 : Int), laws_equalNodes_L1 x1 x2 n i57 = some v → WL EE ⟨w, X, θ, 26, 2⟩ (subC [1, 1, 0, 1, 4, 4] (bodyC Tryz.f16)) (fun (e : Exit) (s : St) => (match v with | (.inl _) => e = .ret ∧ s = ⟨[(4, B false)], [nR x1, nR x2]⟩ | (.inr _) => e = .exit 0 ∧ s = ⟨[], [nR x1, nR x2]⟩ : Prop)) ⟨[(0, sF 0 x1), (1, sF 1 x2), (5, I i57)], [nR x1, nR x2]⟩ := by
  intro n
  induction n with
  | zero => intro _ h; exact none_e h
  | succ n ih =>
    intro i57 h
    rw [laws_equalNodes_L1] at h
    refine WL_round ?_
    refine W_seq (Wsr ((Wp 4 [0, 1] [0, 1, 5, 14] T3 ⟨[(0, sF 0 x1), (1, sF 1 x2), (5, I i57), (14, B (decide (i57 < (lI x1))))], [nR x1, nR x2]⟩ t3 (Wnt ((iteO_e h (fun hb71 h => W_true rfl hb71 ?_) (fun hb71 h => W_false rfl hb71 ?_)))))))
    ·refine Ww [0, 1] [0, 1, 5] ⟨[(0, sF 0 x1), (1, sF 1 x2), (5, I i57)], [nR x1, nR x2]⟩ (W_skip (thenS_n (W_seq (W_block (W_seq (guardO_e h (fun hg76 h => (guardO_e h (fun hg77 h => (W_cut (Q' := fun (e : Exit) (s : St) => e = .normal ∧ s = ⟨[(0, sF 0 x1), (1, sF 1 x2), (5, I i57), (25, B (!((decide (((x1.getD i57.toNat dnod).parent) = ((x2.getD i57.toNat dnod).parent))) && ((decide (((x1.getD i57.toNat dnod).name) = ((x2.getD i57.toNat dnod).name))) && ((decide (((x1.getD i57.toNat dnod).value) = ((x2.getD i57.toNat dnod).value))) && true)))))], [nR x1, nR x2]⟩) ?_ ?_))))))))))
     ·refine W_draw [] true (by kernel_rfl) (by kernel_rfl) (WD_takeQ [0, 1, 2, 3, 4, 5, 6, 7, 8] [0, 1, 5, 25] [0, 1, 5, 25] (φ := ((0 ≤ i57 ∧ i57 < (lI x1)) ∧ (0 ≤ i57 ∧ i57 < (lI x1)) ∧ (True ∧ True ∧ ((0 ≤ i57 ∧ i57 < (lI x2)) ∧ (0 ≤ i57 ∧ i57 < (lI x2)) ∧ (True ∧ True ∧ (True ∧ True ∧ True)))))) (ls' := (tf true [9])) (st' := ⟨[(0, sF 0 x1), (1, sF 1 x2), (5, I i57), (25, B (!((decide (((x1.getD i57.toNat dnod).parent) = ((x2.getD i57.toNat dnod).parent))) && ((decide (((x1.getD i57.toNat dnod).name) = ((x2.getD i57.toNat dnod).name))) && ((decide (((x1.getD i57.toNat dnod).value) = ((x2.getD i57.toNat dnod).value))) && true)))))], [nR x1, nR x2]⟩) (n2 := 0) (by kernel_rfl) ⟨hg76, hg76, trivial, trivial, hg77, hg77, trivial, trivial, trivial, trivial, trivial⟩ rfl ?_)
      exact WD_done [0, 1] [0, 1, 5, 25] (st' := ⟨[(0, sF 0 x1), (1, sF 1 x2), (5, I i57), (25, B (!((decide (((x1.getD i57.toNat dnod).parent) = ((x2.getD i57.toNat dnod).parent))) && ((decide (((x1.getD i57.toNat dnod).name) = ((x2.getD i57.toNat dnod).name))) && ((decide (((x1.getD i57.toNat dnod).value) = ((x2.getD i57.toNat dnod).value))) && true)))))], [nR x1, nR x2]⟩) (by kernel_rfl) (by kernel_rfl) (aI rfl rfl)
     ·rintro _ _ ⟨rfl, rfl⟩
      refine thenS_n (iteO_e h (fun hb79 h => W_true rfl hb79 ?_) (fun hb79 h => W_false rfl hb79 ?_))
      ·refine Wsr ((Ws 1 [0, 1] [4] ⟨[(4, B false)], [nR x1, nR x2]⟩ (Wnt ((W_ret (blockS_r (thenS_r (thenS_r ?_))))))))
       cases h
       exact aI rfl rfl
      ·refine Ww [0, 1] [0, 1, 5] ⟨[(0, sF 0 x1), (1, sF 1 x2), (5, I i57)], [nR x1, nR x2]⟩ (W_skip (blockS_n (thenS_n (W_region (Wp 3 [0, 1] [0, 1, 5] T2 ⟨[(0, sF 0 x1), (1, sF 1 x2), (5, I (w64 (i57 + 1)))], [nR x1, nR x2]⟩ t2 (Wnt (?_)))))))
       exact ih _ h
    ·refine Ww [0, 1] [] ⟨[], [nR x1, nR x2]⟩ (W_exit (thenS_e (thenS_e ?_)))
     cases h
     exact aI rfl rfl

def laws_equalNodes (n : Nat) (x1 : List Nod) (x2 : List Nod) : Option (Bool) :=
 iteO (!decide (((x1.length : Nat) : Int) = ((x2.length : Nat) : Int)))
 (some false)
 (bindO (laws_equalNodes_L1 x1 x2 n 0) fun v80 =>
 match v80 with
 | (.inl _) => (some false)
 | (.inr _) => (some true)
)

theorem laws_equalNodes_ok (n : Nat) (x1 : List Nod) (x2 : List Nod) (b41 : Bool) (h : laws_equalNodes n x1 x2 = some b41) : FOk EE 16 [sF 0 x1, sF 1 x2] [nR x1, nR x2] (B b41) [nR x1, nR x2] := by
  unfold laws_equalNodes at h
  refine FOk_of_W 26 2 Tryz.func16 rfl rfl (Nat.le_of_ble_eq_true rfl) rfl (fun w X θ => ?_)
  refine Wsr ((Ws 1 [0, 1] [0, 1] ⟨[(0, sF 0 x1), (1, sF 1 x2)], [nR x1, nR x2]⟩ (Wnt ((W_seq (W_seq ?_))))))
  refine W_region (Wp 5 [0, 1] [0, 1, 10] T4 ⟨[(0, sF 0 x1), (1, sF 1 x2), (10, B (!decide ((lI x1) = (lI x2))))], [nR x1, nR x2]⟩ t4 (Wnt ((iteO_e h (fun hb43 h => W_true rfl hb43 ?_) (fun hb43 h => W_false rfl hb43 ?_)))))
  ·refine Wsr ((Ws 1 [0, 1] [4] ⟨[(4, B false)], [nR x1, nR x2]⟩ (Wnt ((W_ret (thenS_r ?_))))))
   cases h
   exact ⟨[0, 1], True, by kernel_rfl, trivial⟩
  ·refine Ww [0, 1] [0, 1] ⟨[(0, sF 0 x1), (1, sF 1 x2)], [nR x1, nR x2]⟩ (W_skip (thenS_n (W_seq (Wsr ((Ws 1 [0, 1] [0, 1, 5] ⟨[(0, sF 0 x1), (1, sF 1 x2), (5, I 0)], [nR x1, nR x2]⟩ (Wnt ((W_block (W_loop (bindO_e h (fun v80 hv80 h => (WL_cut (laws_equalNodes_L1_ok w X θ x1 x2 v80 n 0 hv80) ?_)))))))))))))
   rcases v80 with _ | _
   ·rintro _ _ ⟨rfl, rfl⟩
    refine blockS_r (thenS_r ?_)
    cases h
    exact ⟨[0, 1], True, by kernel_rfl, trivial⟩
   ·rintro _ _ ⟨rfl, rfl⟩
    refine blockS_y (thenS_n (Wsr ((Ws 1 [0, 1] [4] ⟨[(4, B true)], [nR x1, nR x2]⟩ (Wnt ((W_ret ?_)))))))
    cases h
    exact ⟨[0, 1], True, by kernel_rfl, trivial⟩

/- laws.FnTreeCanonical -/
def laws_FnTreeCanonical (n : Nat) (x1 : List Int) : Option (Bool) :=
 iteO (decide (1048576 < ((x1.length : Nat) : Int)))
 (some true)
 (bindO (spec_DrawParseTree n x1) fun s38 =>
 bindO (impl_ParseTree n s38) fun (x40, b41) =>
 bindO (spec_ParseTree n s38) fun (x43, b44) =>
 bindO (laws_equalNodes n x40 x43) fun b46 =>
 iteO ((!b46) || (!(b41 == b44)))
 (some false)
 (bindO (iteO (!b41)
 (some true)
 (bindO (impl_FormatTree n x40) fun s62 =>
 iteO (decide (s62 = s38))
 (bindO (impl_ValidTree n x40) fun b65 =>
 some b65)
 (some false))) fun b59 =>
 some b59))

theorem laws_FnTreeCanonical_ok (n : Nat) (x1 : List Int) (b35 : Bool) (h : laws_FnTreeCanonical n x1 = some b35) : FOk EE 6 [sF 0 x1] [uR x1] (B b35) [uR x1] := by
  unfold laws_FnTreeCanonical at h
  refine FOk_of_W 44 1 Tryz.func6 rfl rfl (Nat.le_of_ble_eq_true rfl) rfl (fun w X θ => ?_)
  refine Wsr ((Ws 1 [0] [0] ⟨[(0, sF 0 x1)], [uR x1]⟩ (Wnt ((W_seq (W_seq ?_))))))
  refine W_region (Wp 3 [0] [0, 10] T3 ⟨[(0, sF 0 x1), (10, B (decide (1048576 < (lI x1))))], [uR x1]⟩ t3 (Wnt ((iteO_e h (fun hb37 h => W_true rfl hb37 ?_) (fun hb37 h => W_false rfl hb37 ?_)))))
  ·refine Wsr ((Ws 1 [0] [2] ⟨[(2, B true)], [uR x1]⟩ (Wnt ((W_ret (thenS_r ?_))))))
   cases h
   exact ⟨[0], True, by kernel_rfl, trivial⟩
  ·refine Ww [0] [0] ⟨[(0, sF 0 x1)], [uR x1]⟩ (W_skip (thenS_n (Wsr ((Ws 1 [0] [11] ⟨[(11, sF 0 x1)], [uR x1]⟩ (bindO_e h (fun s38 hc39 h => (Wc [.ro 0] rfl rfl rfl Tryz.func13 rfl (spec_DrawParseTree_ok n x1 s38 hc39) (aI (aI rfl rfl) (trivial)) rfl (Ws 1 [0] [3] ⟨[(3, S s38)], [uR x1]⟩ (Wnt ((Wsr ((Ws 1 [0] [3, 14] ⟨[(3, S s38), (14, S s38)], [uR x1]⟩ (bindO_e h (fun v68 hc42 h => ?_))))))))))))))))
   obtain ⟨x40, b41⟩ := v68
   refine Wc [] rfl rfl rfl Tryz.func14 rfl (impl_ParseTree_ok n s38 x40 b41 hc42) (trivial) rfl (Ws 5 [0, 1] [3, 4, 5] ⟨[(3, S s38), (4, sF 1 x40), (5, B b41)], [uR x1, nO x40]⟩ (Wnt ((Wsr ((Ws 1 [0, 1] [3, 4, 5, 19] ⟨[(3, S s38), (4, sF 1 x40), (5, B b41), (19, S s38)], [uR x1, nO x40]⟩ (bindO_e h (fun v67 hc45 h => ?_))))))))
   obtain ⟨x43, b44⟩ := v67
   refine Wc [] rfl rfl rfl Tryz.func15 rfl (spec_ParseTree_ok n s38 x43 b44 hc45) (trivial) rfl (Ws 5 [0, 1, 2] [3, 4, 5, 6, 7] ⟨[(3, S s38), (4, sF 1 x40), (5, B b41), (6, sF 2 x43), (7, B b44)], [uR x1, nO x40, nO x43]⟩ (Wnt ((W_seq (Wsr ((Ws 2 [0, 1, 2] [3, 4, 5, 7, 23, 24] ⟨[(3, S s38), (4, sF 1 x40), (5, B b41), (7, B b44), (23, sF 1 x40), (24, sF 2 x43)], [uR x1, nO x40, nO x43]⟩ (bindO_e h (fun b46 hc47 h => (Wc [.ro 1, .ro 2] rfl rfl rfl Tryz.func16 rfl (laws_equalNodes_ok n x40 x43 b46 hc47) (aI (aI rfl rfl) (aI (aI rfl rfl) (trivial))) rfl (Ws 2 [0, 1] [3, 4, 5, 7, 27] ⟨[(3, S s38), (4, sF 1 x40), (5, B b41), (7, B b44), (27, B (!b46))], [uR x1, nO x40]⟩ (WO_thru ⟨[(3, S s38), (4, sF 1 x40), (5, B b41), (31, B ((!b46) || (!(b41 == b44))))], [uR x1, nO x40]⟩ ?_ ?_))))))))))))
   ·refine WO_if 27 rfl (fun hb50 => ?_) (fun hb50 => ?_)
    ·refine Ws 4 [0, 1] [3, 4, 5, 31] ⟨[(3, S s38), (4, sF 1 x40), (5, B b41), (31, B true)], [uR x1, nO x40]⟩ ?_
     exact WO_nil rfl ⟨rfl, by first | rfl | (rw [hb50]; first | done | rfl)⟩
    ·refine Wp 4 [0, 1] [3, 4, 5, 31] T2 ⟨[(3, S s38), (4, sF 1 x40), (5, B b41), (31, B (!(b41 == b44)))], [uR x1, nO x40]⟩ t2 ?_
     exact WO_nil rfl ⟨rfl, by first | rfl | (rw [hb50]; first | done | rfl)⟩
   ·refine thenS_n (iteO_e h (fun hb52 h => W_true rfl hb52 ?_) (fun hb52 h => W_false rfl hb52 ?_))
    ·refine Wsr ((Ws 1 [0] [2] ⟨[(2, B false)], [uR x1]⟩ (Wnt ((W_ret (thenS_r ?_))))))
     cases h
     exact ⟨[0], True, by kernel_rfl, trivial⟩
    ·refine Ww [0, 1] [3, 4, 5] ⟨[(3, S s38), (4, sF 1 x40), (5, B b41)], [uR x1, nO x40]⟩ (W_skip (thenS_n (Wsr ((Ws 3 [0, 1] [3, 4, 34] ⟨[(3, S s38), (4, sF 1 x40), (34, B (!b41))], [uR x1, nO x40]⟩ (bindO_e h (fun b59 hv60 h => (WO_thru ⟨[(2, B b59)], [uR x1]⟩ ?_ ?_))))))))
     ·refine iteO_e hv60 (fun hb61 hv60 => WO_known 34 true rfl hb61 ?_) (fun hb61 hv60 => WO_known 34 false rfl hb61 ?_)
      ·refine Ws 10 [0] [2] ⟨[(2, B true)], [uR x1]⟩ ?_
       cases hv60
       exact WO_nil rfl ⟨rfl, rfl⟩
      ·refine Ws 1 [0, 1] [3, 4, 34, 35] ⟨[(3, S s38), (4, sF 1 x40), (34, B false), (35, sF 1 x40)], [uR x1, nO x40]⟩ (bindO_e hv60 (fun s62 hc63 hv60 => (Wc [.ro 1] rfl rfl rfl Tryz.func17 rfl (impl_FormatTree_ok n x40 s62 hc63) (aI (aI rfl rfl) (trivial)) rfl (Wp 3 [0, 1] [4, 34, 39] T2 ⟨[(4, sF 1 x40), (34, B false), (39, B (decide (s62 = s38)))], [uR x1, nO x40]⟩ t2 (iteO_e hv60 (fun hb64 hv60 => WO_known 39 true rfl hb64 ?_) (fun hb64 hv60 => WO_known 39 false rfl hb64 ?_))))))
       ·refine Ws 1 [0, 1] [34, 39, 40] ⟨[(34, B false), (39, B true), (40, sF 1 x40)], [uR x1, nO x40]⟩ (bindO_e hv60 (fun b65 hc66 hv60 => (Wc [.ro 1] rfl rfl rfl Tryz.func18 rfl (impl_ValidTree_ok n x40 b65 hc66) (aI (aI rfl rfl) (trivial)) rfl (Ws 3 [0] [2] ⟨[(2, B b65)], [uR x1]⟩ ?_))))
        cases hv60
        exact WO_nil rfl ⟨rfl, rfl⟩
       ·refine Ws 5 [0] [2] ⟨[(2, B false)], [uR x1]⟩ ?_
        cases hv60
        exact WO_nil rfl ⟨rfl, rfl⟩
     ·refine thenS_n (W_ret ?_)
      cases h
      exact ⟨[0], True, by kernel_rfl, trivial⟩

end Go.Proofs.YtghdgncfcfdlfaaGreatDoor
