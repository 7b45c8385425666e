import Derived.Test.YtghdgncfcfdlfaaDoorTT1
namespace Go.Proofs.YtghdgncfcfdlfaaDoor
open Go Go.Shelf Go.Proofs
set_option linter.unusedVariables false
/- laws.markNodeS -/
def laws_markNodeS_L1 (k2 : Nat) : Nat → (List Nod) → Int → Int → Option (((List Nod) × Int))
| 0, _, _, _ => none
| n + 1, x81, i82, i83 =>
 iteO (decide (i83 < ((k2 : Nat) : Int)))
 (guardO (0 ≤ i83 ∧ i83 < ((k2 : Nat) : Int)) <|
 bindO (laws_markText n (w64 (i82 + 1))) fun s110 =>
 guardO (0 ≤ i83 ∧ i83 < ((k2 : Nat) : Int)) <|
 guardO (0 ≤ i83 ∧ i83 < ((k2 : Nat) : Int)) <|
 laws_markNodeS_L1 k2 n (((x81.set i83.toNat (⟨i82, (x81.getD i83.toNat dnod).name, (x81.getD i83.toNat dnod).value⟩ : Nod)).set i83.toNat (⟨((x81.set i83.toNat (⟨i82, (x81.getD i83.toNat dnod).name, (x81.getD i83.toNat dnod).value⟩ : Nod)).getD i83.toNat dnod).parent, s110, ((x81.set i83.toNat (⟨i82, (x81.getD i83.toNat dnod).name, (x81.getD i83.toNat dnod).value⟩ : Nod)).getD i83.toNat dnod).value⟩ : Nod)).set i83.toNat (⟨(((x81.set i83.toNat (⟨i82, (x81.getD i83.toNat dnod).name, (x81.getD i83.toNat dnod).value⟩ : Nod)).set i83.toNat (⟨((x81.set i83.toNat (⟨i82, (x81.getD i83.toNat dnod).name, (x81.getD i83.toNat dnod).value⟩ : Nod)).getD i83.toNat dnod).parent, s110, ((x81.set i83.toNat (⟨i82, (x81.getD i83.toNat dnod).name, (x81.getD i83.toNat dnod).value⟩ : Nod)).getD i83.toNat dnod).value⟩ : Nod)).getD i83.toNat dnod).parent, (((x81.set i83.toNat (⟨i82, (x81.getD i83.toNat dnod).name, (x81.getD i83.toNat dnod).value⟩ : Nod)).set i83.toNat (⟨((x81.set i83.toNat (⟨i82, (x81.getD i83.toNat dnod).name, (x81.getD i83.toNat dnod).value⟩ : Nod)).getD i83.toNat dnod).parent, s110, ((x81.set i83.toNat (⟨i82, (x81.getD i83.toNat dnod).name, (x81.getD i83.toNat dnod).value⟩ : Nod)).getD i83.toNat dnod).value⟩ : Nod)).getD i83.toNat dnod).name, (w64 ((w64 (i82 + 1)) + 1))⟩ : Nod)) (w64 ((w64 ((w64 (i82 + 1)) + 1)) + 1)) (w64 (i83 + 1)))
 (some (x81, i82))

theorem laws_markNodeS_L1_ok (w : World) (X : Nat → Prop) (θ : List Loc) (k2 : Nat) (v : ((List Nod) × Int)) : ∀ (n : Nat) (x81 : List Nod) (i82 : Int) (i83 : Int), laws_markNodeS_L1 k2 n x81 i82 i83 = some v → WL EE ⟨w, X, θ, 35, 1⟩ (subC [1, 0, 1, 4, 4] (bodyC Tryd.f12)) (fun (e : Exit) (s : St) => (match v with | (x99, i100) => e = .exit 0 ∧ s = ⟨[(1, I i100)], [nO x99]⟩ : Prop)) ⟨[(0, SL 0 0 k2), (1, I i82), (5, I i83)], [nO x81]⟩ := by
  intro n
  induction n with
  | zero => intro _ _ _ h; exact none_e h
  | succ n ih =>
    intro x81 i82 i83 h
    rw [laws_markNodeS_L1] at h
    refine WL_round ?_
    refine W_seq (Wsr ((WO_step 4 [0] [0, 1, 5, 9] T3 ⟨[(0, SL 0 0 k2), (1, I i82), (5, I i83), (9, B (decide (i83 < ((k2 : Nat) : Int))))], [nO x81]⟩ (by kernel_rfl) t3 (Wnt ((iteO_e h (fun hb103 h => W_true rfl hb103 ?_) (fun hb103 h => W_false rfl hb103 ?_)))))))
    ·refine W_sub [0] [0, 1, 5] (st' := ⟨[(0, SL 0 0 k2), (1, I i82), (5, I i83)], [nO x81]⟩) (by kernel_rfl) (W_skip (thenS_n (W_seq (W_block (Wsr ((guardO_e h (fun hg109 h => (WO_step 6 [0] [0, 1, 5] ((0 ≤ i83 ∧ i83 < ((k2 : Nat) : Int)) ∧ T2) ⟨[(0, SL 0 0 k2), (1, I i82), (5, I i83)], [.row .nod (x81.set i83.toNat (⟨i82, (x81.getD i83.toNat dnod).name, (x81.getD i83.toNat dnod).value⟩ : Nod)) true]⟩ (by kernel_rfl) ⟨hg109, trivial, trivial⟩ (Wnt ((Wsr ((WO_step 3 [0] [0, 1, 5] T2 ⟨[(0, SL 0 0 k2), (1, I (w64 (i82 + 1))), (5, I i83)], [.row .nod (x81.set i83.toNat (⟨i82, (x81.getD i83.toNat dnod).name, (x81.getD i83.toNat dnod).value⟩ : Nod)) true]⟩ (by kernel_rfl) t2 (Wnt ((Wsr ((Wst 3 [0] [0, 1, 5, 19, 20, 21] ⟨[(0, SL 0 0 k2), (1, I (w64 (i82 + 1))), (5, I i83), (19, SL 0 0 k2), (20, I i83), (21, I (w64 (i82 + 1)))], [.row .nod (x81.set i83.toNat (⟨i82, (x81.getD i83.toNat dnod).name, (x81.getD i83.toNat dnod).value⟩ : Nod)) true]⟩ (by kernel_rfl) (bindO_e h (fun s110 hc111 h => (WO_call [] Tryd.f33 rfl rfl rfl (by kernel_rfl) Tryd.func33 rfl (by kernel_rfl) (laws_markText_ok n (w64 (i82 + 1)) s110 hc111) (trivial) rfl (guardO_e h (fun hg112 h => (WO_step 3 [0] [0, 1, 5] ((0 ≤ i83 ∧ i83 < ((k2 : Nat) : Int)) ∧ T2) ⟨[(0, SL 0 0 k2), (1, I (w64 (i82 + 1))), (5, I i83)], [.row .nod ((x81.set i83.toNat (⟨i82, (x81.getD i83.toNat dnod).name, (x81.getD i83.toNat dnod).value⟩ : Nod)).set i83.toNat (⟨((x81.set i83.toNat (⟨i82, (x81.getD i83.toNat dnod).name, (x81.getD i83.toNat dnod).value⟩ : Nod)).getD i83.toNat dnod).parent, s110, ((x81.set i83.toNat (⟨i82, (x81.getD i83.toNat dnod).name, (x81.getD i83.toNat dnod).value⟩ : Nod)).getD i83.toNat dnod).value⟩ : Nod)) true]⟩ (by kernel_rfl) ⟨hg112, trivial, trivial⟩ (Wnt ((Wsr ((WO_step 3 [0] [0, 1, 5] T2 ⟨[(0, SL 0 0 k2), (1, I (w64 ((w64 (i82 + 1)) + 1))), (5, I i83)], [.row .nod ((x81.set i83.toNat (⟨i82, (x81.getD i83.toNat dnod).name, (x81.getD i83.toNat dnod).value⟩ : Nod)).set i83.toNat (⟨((x81.set i83.toNat (⟨i82, (x81.getD i83.toNat dnod).name, (x81.getD i83.toNat dnod).value⟩ : Nod)).getD i83.toNat dnod).parent, s110, ((x81.set i83.toNat (⟨i82, (x81.getD i83.toNat dnod).name, (x81.getD i83.toNat dnod).value⟩ : Nod)).getD i83.toNat dnod).value⟩ : Nod)) true]⟩ (by kernel_rfl) t2 (Wnt ((Wsr ((guardO_e h (fun hg113 h => (WO_step 6 [0] [0, 1, 5] ((0 ≤ i83 ∧ i83 < ((k2 : Nat) : Int)) ∧ T2) ⟨[(0, SL 0 0 k2), (1, I (w64 ((w64 (i82 + 1)) + 1))), (5, I i83)], [.row .nod (((x81.set i83.toNat (⟨i82, (x81.getD i83.toNat dnod).name, (x81.getD i83.toNat dnod).value⟩ : Nod)).set i83.toNat (⟨((x81.set i83.toNat (⟨i82, (x81.getD i83.toNat dnod).name, (x81.getD i83.toNat dnod).value⟩ : Nod)).getD i83.toNat dnod).parent, s110, ((x81.set i83.toNat (⟨i82, (x81.getD i83.toNat dnod).name, (x81.getD i83.toNat dnod).value⟩ : Nod)).getD i83.toNat dnod).value⟩ : Nod)).set i83.toNat (⟨(((x81.set i83.toNat (⟨i82, (x81.getD i83.toNat dnod).name, (x81.getD i83.toNat dnod).value⟩ : Nod)).set i83.toNat (⟨((x81.set i83.toNat (⟨i82, (x81.getD i83.toNat dnod).name, (x81.getD i83.toNat dnod).value⟩ : Nod)).getD i83.toNat dnod).parent, s110, ((x81.set i83.toNat (⟨i82, (x81.getD i83.toNat dnod).name, (x81.getD i83.toNat dnod).value⟩ : Nod)).getD i83.toNat dnod).value⟩ : Nod)).getD i83.toNat dnod).parent, (((x81.set i83.toNat (⟨i82, (x81.getD i83.toNat dnod).name, (x81.getD i83.toNat dnod).value⟩ : Nod)).set i83.toNat (⟨((x81.set i83.toNat (⟨i82, (x81.getD i83.toNat dnod).name, (x81.getD i83.toNat dnod).value⟩ : Nod)).getD i83.toNat dnod).parent, s110, ((x81.set i83.toNat (⟨i82, (x81.getD i83.toNat dnod).name, (x81.getD i83.toNat dnod).value⟩ : Nod)).getD i83.toNat dnod).value⟩ : Nod)).getD i83.toNat dnod).name, (w64 ((w64 (i82 + 1)) + 1))⟩ : Nod)) true]⟩ (by kernel_rfl) ⟨hg113, trivial, trivial⟩ (Wnt ((W_region (WO_step 3 [0] [0, 1, 5] T2 ⟨[(0, SL 0 0 k2), (1, I (w64 ((w64 ((w64 (i82 + 1)) + 1)) + 1))), (5, I i83)], [.row .nod (((x81.set i83.toNat (⟨i82, (x81.getD i83.toNat dnod).name, (x81.getD i83.toNat dnod).value⟩ : Nod)).set i83.toNat (⟨((x81.set i83.toNat (⟨i82, (x81.getD i83.toNat dnod).name, (x81.getD i83.toNat dnod).value⟩ : Nod)).getD i83.toNat dnod).parent, s110, ((x81.set i83.toNat (⟨i82, (x81.getD i83.toNat dnod).name, (x81.getD i83.toNat dnod).value⟩ : Nod)).getD i83.toNat dnod).value⟩ : Nod)).set i83.toNat (⟨(((x81.set i83.toNat (⟨i82, (x81.getD i83.toNat dnod).name, (x81.getD i83.toNat dnod).value⟩ : Nod)).set i83.toNat (⟨((x81.set i83.toNat (⟨i82, (x81.getD i83.toNat dnod).name, (x81.getD i83.toNat dnod).value⟩ : Nod)).getD i83.toNat dnod).parent, s110, ((x81.set i83.toNat (⟨i82, (x81.getD i83.toNat dnod).name, (x81.getD i83.toNat dnod).value⟩ : Nod)).getD i83.toNat dnod).value⟩ : Nod)).getD i83.toNat dnod).parent, (((x81.set i83.toNat (⟨i82, (x81.getD i83.toNat dnod).name, (x81.getD i83.toNat dnod).value⟩ : Nod)).set i83.toNat (⟨((x81.set i83.toNat (⟨i82, (x81.getD i83.toNat dnod).name, (x81.getD i83.toNat dnod).value⟩ : Nod)).getD i83.toNat dnod).parent, s110, ((x81.set i83.toNat (⟨i82, (x81.getD i83.toNat dnod).name, (x81.getD i83.toNat dnod).value⟩ : Nod)).getD i83.toNat dnod).value⟩ : Nod)).getD i83.toNat dnod).name, (w64 ((w64 (i82 + 1)) + 1))⟩ : Nod)) true]⟩ (by kernel_rfl) t2 (WO_nil rfl (blockS_n (thenS_n (W_region (WO_step 3 [0] [0, 1, 5] T2 ⟨[(0, SL 0 0 k2), (1, I (w64 ((w64 ((w64 (i82 + 1)) + 1)) + 1))), (5, I (w64 (i83 + 1)))], [.row .nod (((x81.set i83.toNat (⟨i82, (x81.getD i83.toNat dnod).name, (x81.getD i83.toNat dnod).value⟩ : Nod)).set i83.toNat (⟨((x81.set i83.toNat (⟨i82, (x81.getD i83.toNat dnod).name, (x81.getD i83.toNat dnod).value⟩ : Nod)).getD i83.toNat dnod).parent, s110, ((x81.set i83.toNat (⟨i82, (x81.getD i83.toNat dnod).name, (x81.getD i83.toNat dnod).value⟩ : Nod)).getD i83.toNat dnod).value⟩ : Nod)).set i83.toNat (⟨(((x81.set i83.toNat (⟨i82, (x81.getD i83.toNat dnod).name, (x81.getD i83.toNat dnod).value⟩ : Nod)).set i83.toNat (⟨((x81.set i83.toNat (⟨i82, (x81.getD i83.toNat dnod).name, (x81.getD i83.toNat dnod).value⟩ : Nod)).getD i83.toNat dnod).parent, s110, ((x81.set i83.toNat (⟨i82, (x81.getD i83.toNat dnod).name, (x81.getD i83.toNat dnod).value⟩ : Nod)).getD i83.toNat dnod).value⟩ : Nod)).getD i83.toNat dnod).parent, (((x81.set i83.toNat (⟨i82, (x81.getD i83.toNat dnod).name, (x81.getD i83.toNat dnod).value⟩ : Nod)).set i83.toNat (⟨((x81.set i83.toNat (⟨i82, (x81.getD i83.toNat dnod).name, (x81.getD i83.toNat dnod).value⟩ : Nod)).getD i83.toNat dnod).parent, s110, ((x81.set i83.toNat (⟨i82, (x81.getD i83.toNat dnod).name, (x81.getD i83.toNat dnod).value⟩ : Nod)).getD i83.toNat dnod).value⟩ : Nod)).getD i83.toNat dnod).name, (w64 ((w64 (i82 + 1)) + 1))⟩ : Nod)) true]⟩ (by kernel_rfl) t2 (Wnt (?_))))))))))))))))))))))))))))))))))))))))))))))))
     exact ih _ _ _ h
    ·refine W_sub [0] [1] (st' := ⟨[(1, I i82)], [nO x81]⟩) (by kernel_rfl) (W_exit (thenS_e (thenS_e ?_)))
     cases h
     exact And.intro rfl rfl

def laws_markNodeS (n : Nat) (x1 : List Nod) (k2 : Nat) (i3 : Int) : Option ((List Nod) × Int) :=
 bindO (laws_markNodeS_L1 k2 n x1 i3 0) fun v114 =>
 match v114 with
 | (x99, i100) => (some (x99, i100))


theorem laws_markNodeS_ok (n : Nat) (x1 : List Nod) (k2 : Nat) (i3 : Int) (x58 : List Nod) (i59 : Int) (h : laws_markNodeS n x1 k2 i3 = some (x58, i59)) : FOk EE 12 [SL 0 0 k2, I i3] [nO x1] (I i59) [nO x58] := by
  unfold laws_markNodeS at h
  refine FOk_of_W 35 1 Tryd.func12 rfl rfl (Nat.le_of_ble_eq_true rfl) rfl (fun w X θ => ?_)
  refine Wsr ((Wst 1 [0] [0, 1] ⟨[(0, SL 0 0 k2), (1, I i3)], [nO x1]⟩ (by kernel_rfl) (Wnt ((W_seq (W_seq ?_))))))
  refine W_region (Wst 1 [0] [0, 1, 5] ⟨[(0, SL 0 0 k2), (1, I i3), (5, I 0)], [nO x1]⟩ (by kernel_rfl) (Wnt ((W_block (W_loop (bindO_e h (fun v114 hv114 h => ?_)))))))
  refine WL_cut (laws_markNodeS_L1_ok w X θ k2 v114 n x1 i3 0 hv114) ?_
  obtain ⟨x99, i100⟩ := v114
  rintro _ _ ⟨rfl, rfl⟩
  refine blockS_y (thenS_n (Wsr ((Wst 2 [0] [4] ⟨[(4, I i100)], [nO x99]⟩ (by kernel_rfl) (Wnt (?_))))))
  refine W_ret ?_
  cases h
  exact ⟨[0], True, by kernel_rfl, trivial⟩

/- laws.heldNodeS -/
def laws_heldNodeS_L1 (x1 : List Nod) : Nat → Int → Int → Option ((Unit) ⊕ (Int))
| 0, _, _ => none
| n + 1, i118, i119 =>
 iteO (decide (i119 < ((x1.length : Nat) : Int)))
 (guardO (0 ≤ i119 ∧ i119 < ((x1.length : Nat) : Int)) <|
 iteO (!decide (((x1.getD i119.toNat dnod).parent) = i118))
 (some (.inl ()))
 (guardO (0 ≤ i119 ∧ i119 < ((x1.length : Nat) : Int)) <|
 bindO (laws_markText n (w64 (i118 + 1))) fun s165 =>
 iteO (!decide (((x1.getD i119.toNat dnod).name) = s165))
 (some (.inl ()))
 (guardO (0 ≤ i119 ∧ i119 < ((x1.length : Nat) : Int)) <|
 iteO (!decide (((x1.getD i119.toNat dnod).value) = (w64 ((w64 (i118 + 1)) + 1))))
 (some (.inl ()))
 (laws_heldNodeS_L1 x1 n (w64 ((w64 ((w64 (i118 + 1)) + 1)) + 1)) (w64 (i119 + 1))))))
 (some (.inr i118))

theorem laws_heldNodeS_L1_ok (w : World) (X : Nat → Prop) (θ : List Loc) (x1 : List Nod) (v : (Unit) ⊕ (Int)) : ∀ (n : Nat) (i118 : Int) (i119 : Int), laws_heldNodeS_L1 x1 n i118 i119 = some v → WL EE ⟨w, X, θ, 41, 1⟩ (subC [1, 0, 1, 4, 4] (bodyC Tryd.f13)) (fun (e : Exit) (s : St) => (match v with | (.inl _) => e = .ret ∧ s = ⟨[(4, I (-1))], [nR x1]⟩ | (.inr i146) => e = .exit 0 ∧ s = ⟨[(1, I i146)], [nR x1]⟩ : Prop)) ⟨[(0, sF 0 x1), (1, I i118), (5, I i119)], [nR x1]⟩ := by
  intro n
  induction n with
  | zero => intro _ _ h; exact none_e h
  | succ n ih =>
    intro i118 i119 h
    rw [laws_heldNodeS_L1] at h
    refine WL_round ?_
    refine W_seq (Wsr ((WO_step 4 [0] [0, 1, 5, 9] T3 ⟨[(0, sF 0 x1), (1, I i118), (5, I i119), (9, B (decide (i119 < (lI x1))))], [nR x1]⟩ (by kernel_rfl) t3 (Wnt ((iteO_e h (fun hb149 h => W_true rfl hb149 ?_) (fun hb149 h => W_false rfl hb149 ?_)))))))
    ·refine W_sub [0] [0, 1, 5] (st' := ⟨[(0, sF 0 x1), (1, I i118), (5, I i119)], [nR x1]⟩) (by kernel_rfl) (W_skip (thenS_n (W_seq (W_block (W_seq (Wsr ((guardO_e h (fun hg161 h => (WO_step 7 [0] [0, 1, 5, 18] ((0 ≤ i119 ∧ i119 < (lI x1)) ∧ T3) ⟨[(0, sF 0 x1), (1, I i118), (5, I i119), (18, B (!decide (((x1.getD i119.toNat dnod).parent) = i118)))], [nR x1]⟩ (by kernel_rfl) ⟨hg161, trivial, trivial, trivial⟩ (Wnt ((iteO_e h (fun hb163 h => W_true rfl hb163 ?_) (fun hb163 h => W_false rfl hb163 ?_))))))))))))))
     ·refine Wsr ((Wst 1 [0] [4] ⟨[(4, I (-1))], [nR x1]⟩ (by kernel_rfl) (Wnt ((W_ret (thenS_r (blockS_r (thenS_r (thenS_r ?_)))))))))
      cases h
      exact And.intro rfl rfl
     ·refine W_sub [0] [0, 1, 5] (st' := ⟨[(0, sF 0 x1), (1, I i118), (5, I i119)], [nR x1]⟩) (by kernel_rfl) (W_skip (thenS_n (Wsr ((WO_step 3 [0] [0, 1, 5] T2 ⟨[(0, sF 0 x1), (1, I (w64 (i118 + 1))), (5, I i119)], [nR x1]⟩ (by kernel_rfl) t2 (Wnt ((W_seq (W_seq (guardO_e h (fun hg164 h => (bindO_e h (fun s165 hc166 h => (W_cut (Q' := fun (e : Exit) (s : St) => e = .normal ∧ s = ⟨[(0, sF 0 x1), (1, I (w64 (i118 + 1))), (5, I i119), (28, B (!decide (((x1.getD i119.toNat dnod).name) = s165)))], [nR x1]⟩) ?_ ?_))))))))))))))
      ·refine W_draw [] false (by kernel_rfl) (by kernel_rfl) (WD_takeQ [0, 1, 2, 3, 4, 5] [0, 1, 5, 25, 26] [0, 1, 5, 25, 26] (φ := ((0 ≤ i119 ∧ i119 < (lI x1)) ∧ (0 ≤ i119 ∧ i119 < (lI x1)) ∧ (True ∧ True ∧ True))) (ls' := (tf true [6, 2])) (st' := ⟨[(0, sF 0 x1), (1, I (w64 (i118 + 1))), (5, I i119), (25, S ((x1.getD i119.toNat dnod).name)), (26, I (w64 (i118 + 1)))], [nR x1]⟩) (n2 := 2) (by kernel_rfl) ⟨hg164, hg164, trivial, trivial, trivial⟩ rfl (WD_all [6] (n := 1) (by kernel_rfl) rfl (WM_call [] Tryd.f33 rfl rfl (by kernel_rfl) Tryd.func33 rfl (by kernel_rfl) (laws_markText_ok n (w64 (i118 + 1)) s165 hc166) (trivial) rfl (And.intro rfl (trivial)) (WD_takeQ [7] [0, 1, 5, 28] [0, 1, 5, 28] (φ := (True ∧ True ∧ True)) (ls' := (tf true [8])) (st' := ⟨[(0, sF 0 x1), (1, I (w64 (i118 + 1))), (5, I i119), (28, B (!decide (((x1.getD i119.toNat dnod).name) = s165)))], [nR x1]⟩) (n2 := 0) (by kernel_rfl) t3 rfl ?_))))
       exact WD_done [0] [0, 1, 5, 28] (st' := ⟨[(0, sF 0 x1), (1, I (w64 (i118 + 1))), (5, I i119), (28, B (!decide (((x1.getD i119.toNat dnod).name) = s165)))], [nR x1]⟩) (by kernel_rfl) (by kernel_rfl) (And.intro rfl rfl)
      ·rintro _ _ ⟨rfl, rfl⟩
       refine thenS_n (iteO_e h (fun hb168 h => W_true rfl hb168 ?_) (fun hb168 h => W_false rfl hb168 ?_))
       ·refine Wsr ((Wst 1 [0] [4] ⟨[(4, I (-1))], [nR x1]⟩ (by kernel_rfl) (Wnt ((W_ret (thenS_r (blockS_r (thenS_r (thenS_r ?_)))))))))
        cases h
        exact And.intro rfl rfl
       ·refine W_sub [0] [0, 1, 5] (st' := ⟨[(0, sF 0 x1), (1, I (w64 (i118 + 1))), (5, I i119)], [nR x1]⟩) (by kernel_rfl) (W_skip (thenS_n (Wsr ((WO_step 3 [0] [0, 1, 5] T2 ⟨[(0, sF 0 x1), (1, I (w64 ((w64 (i118 + 1)) + 1))), (5, I i119)], [nR x1]⟩ (by kernel_rfl) t2 (Wnt ((W_seq (Wsr ((guardO_e h (fun hg169 h => (WO_step 7 [0] [0, 1, 5, 37] ((0 ≤ i119 ∧ i119 < (lI x1)) ∧ T3) ⟨[(0, sF 0 x1), (1, I (w64 ((w64 (i118 + 1)) + 1))), (5, I i119), (37, B (!decide (((x1.getD i119.toNat dnod).value) = (w64 ((w64 (i118 + 1)) + 1)))))], [nR x1]⟩ (by kernel_rfl) ⟨hg169, trivial, trivial, trivial⟩ (Wnt ((iteO_e h (fun hb171 h => W_true rfl hb171 ?_) (fun hb171 h => W_false rfl hb171 ?_)))))))))))))))))
        ·refine Wsr ((Wst 1 [0] [4] ⟨[(4, I (-1))], [nR x1]⟩ (by kernel_rfl) (Wnt ((W_ret (thenS_r (blockS_r (thenS_r (thenS_r ?_)))))))))
         cases h
         exact And.intro rfl rfl
        ·refine W_sub [0] [0, 1, 5] (st' := ⟨[(0, sF 0 x1), (1, I (w64 ((w64 (i118 + 1)) + 1))), (5, I i119)], [nR x1]⟩) (by kernel_rfl) (W_skip (thenS_n (W_region (WO_step 3 [0] [0, 1, 5] T2 ⟨[(0, sF 0 x1), (1, I (w64 ((w64 ((w64 (i118 + 1)) + 1)) + 1))), (5, I i119)], [nR x1]⟩ (by kernel_rfl) t2 (WO_nil rfl (blockS_n (thenS_n (W_region (WO_step 3 [0] [0, 1, 5] T2 ⟨[(0, sF 0 x1), (1, I (w64 ((w64 ((w64 (i118 + 1)) + 1)) + 1))), (5, I (w64 (i119 + 1)))], [nR x1]⟩ (by kernel_rfl) t2 (Wnt (?_)))))))))))
         exact ih _ _ h
    ·refine W_sub [0] [1] (st' := ⟨[(1, I i118)], [nR x1]⟩) (by kernel_rfl) (W_exit (thenS_e (thenS_e ?_)))
     cases h
     exact And.intro rfl rfl

def laws_heldNodeS (n : Nat) (x1 : List Nod) (i2 : Int) : Option (Int) :=
 bindO (laws_heldNodeS_L1 x1 n i2 0) fun v172 =>
 match v172 with
 | (.inl _) => (some (-1))
 | (.inr i146) => (some i146)


theorem laws_heldNodeS_ok (n : Nat) (x1 : List Nod) (i2 : Int) (i87 : Int) (h : laws_heldNodeS n x1 i2 = some i87) : FOk EE 13 [sF 0 x1, I i2] [nR x1] (I i87) [nR x1] := by
  unfold laws_heldNodeS at h
  refine FOk_of_W 41 1 Tryd.func13 rfl rfl (Nat.le_of_ble_eq_true rfl) rfl (fun w X θ => ?_)
  refine Wsr ((Wst 1 [0] [0, 1] ⟨[(0, sF 0 x1), (1, I i2)], [nR x1]⟩ (by kernel_rfl) (Wnt ((W_seq (W_seq ?_))))))
  refine W_region (Wst 1 [0] [0, 1, 5] ⟨[(0, sF 0 x1), (1, I i2), (5, I 0)], [nR x1]⟩ (by kernel_rfl) (Wnt ((W_block (W_loop (bindO_e h (fun v172 hv172 h => ?_)))))))
  refine WL_cut (laws_heldNodeS_L1_ok w X θ x1 v172 n i2 0 hv172) ?_
  rcases v172 with _ | i146
  ·rintro _ _ ⟨rfl, rfl⟩
   refine blockS_r (thenS_r ?_)
   cases h
   exact ⟨[0], True, by kernel_rfl, trivial⟩
  ·rintro _ _ ⟨rfl, rfl⟩
   refine blockS_y (thenS_n (Wsr ((Wst 2 [0] [4] ⟨[(4, I i146)], [nR x1]⟩ (by kernel_rfl) (Wnt ((W_ret ?_)))))))
   cases h
   exact ⟨[0], True, by kernel_rfl, trivial⟩

/- laws.FnExactParseTree -/
def laws_FnExactParseTree (n : Nat) (s1 : Str) : Option (Bool) :=
 iteO (decide (1048576 < ((s1.length : Nat) : Int)))
 (some true)
 (bindO (spec_ParseTree n s1) fun (x50, b51) =>
 bindO (impl_ParseTree n s1) fun (x53, b54) =>
 bindO (laws_eqNodeS n x53 x50) fun b56 =>
 iteO ((!b56) || (!(b54 == b51)))
 (some false)
 (bindO (laws_markNodeS n x53 x53.length 1) fun (x63, i64) =>
 guardO (x53.length = x63.length) <|
 bindO (laws_heldNodeS n x63 1) fun i67 =>
 iteO (decide (i67 < 0))
 (some false)
 (iteO (!decide (i67 = i64))
 (some false)
 (bindO (impl_ParseTree n s1) fun (x73, b74) =>
 bindO (laws_eqNodeS n x73 x50) fun b76 =>
 iteO ((!b76) || (!(b74 == b51)))
 (some false)
 (bindO (laws_heldNodeS n x63 1) fun i83 =>
 iteO (decide (i83 < 0))
 (some false)
 (iteO (!decide (i83 = i64))
 (some false)
 (some true)))))))

theorem laws_FnExactParseTree_ok (n : Nat) (s1 : Str) (b47 : Bool) (h : laws_FnExactParseTree n s1 = some b47) : FOk EE 4 [S s1] [] (B b47) [] := by
  unfold laws_FnExactParseTree at h
  refine FOk_of_W 66 0 Tryd.func4 rfl rfl (Nat.le_of_ble_eq_true rfl) rfl (fun w X θ => ?_)
  refine Wsr ((Wst 1 [] [0] ⟨[(0, S s1)], []⟩ (by kernel_rfl) (Wnt ((W_seq (W_seq ?_))))))
  refine W_region (WO_step 3 [] [0, 13] T3 ⟨[(0, S s1), (13, B (decide (1048576 < (lI s1))))], []⟩ (by kernel_rfl) t3 (Wnt ((iteO_e h (fun hb49 h => W_true rfl hb49 ?_) (fun hb49 h => W_false rfl hb49 ?_)))))
  ·refine Wsr ((Wst 1 [] [2] ⟨[(2, B true)], []⟩ (by kernel_rfl) (Wnt ((W_ret (thenS_r ?_))))))
   cases h
   exact ⟨[], True, by kernel_rfl, trivial⟩
  ·refine W_sub [] [0] (st' := ⟨[(0, S s1)], []⟩) (by kernel_rfl) (W_skip (thenS_n (Wsr ((Wst 1 [] [0, 15] ⟨[(0, S s1), (15, S s1)], []⟩ (by kernel_rfl) (bindO_e h (fun v92 hc52 h => ?_)))))))
   obtain ⟨x50, b51⟩ := v92
   refine WO_call [] Tryd.f10 rfl rfl rfl (by kernel_rfl) Tryd.func10 rfl (by kernel_rfl) (spec_ParseTree_ok n s1 x50 b51 hc52) (trivial) rfl (Wst 5 [0] [0, 3, 4] ⟨[(0, S s1), (3, sF 0 x50), (4, B b51)], [nO x50]⟩ (by kernel_rfl) (Wnt ((Wsr ((Wst 1 [0] [0, 3, 4, 20] ⟨[(0, S s1), (3, sF 0 x50), (4, B b51), (20, S s1)], [nO x50]⟩ (by kernel_rfl) (bindO_e h (fun v91 hc55 h => ?_))))))))
   obtain ⟨x53, b54⟩ := v91
   refine WO_call [] Tryd.f8 rfl rfl rfl (by kernel_rfl) Tryd.func8 rfl (by kernel_rfl) (impl_ParseTree_ok n s1 x53 b54 hc55) (trivial) rfl (Wst 5 [0, 1] [0, 3, 4, 5, 6] ⟨[(0, S s1), (3, sF 0 x50), (4, B b51), (5, sF 1 x53), (6, B b54)], [nO x50, nO x53]⟩ (by kernel_rfl) (Wnt ((W_seq (Wsr ((Wst 2 [0, 1] [0, 3, 4, 5, 6, 24, 25] ⟨[(0, S s1), (3, sF 0 x50), (4, B b51), (5, sF 1 x53), (6, B b54), (24, sF 1 x53), (25, sF 0 x50)], [nO x50, nO x53]⟩ (by kernel_rfl) (bindO_e h (fun b56 hc57 h => (WO_call [.ro 1, .ro 0] Tryd.f11 rfl rfl rfl (by kernel_rfl) Tryd.func11 rfl (by kernel_rfl) (laws_eqNodeS_ok n x53 x50 b56 hc57) (And.intro (And.intro rfl rfl) (And.intro (And.intro rfl rfl) (trivial))) rfl (Wst 2 [0, 1] [0, 3, 4, 5, 6, 28] ⟨[(0, S s1), (3, sF 0 x50), (4, B b51), (5, sF 1 x53), (6, B b54), (28, B (!b56))], [nO x50, nO x53]⟩ (by kernel_rfl) (WO_thru ⟨[(0, S s1), (3, sF 0 x50), (4, B b51), (5, sF 1 x53), (32, B ((!b56) || (!(b54 == b51))))], [nO x50, nO x53]⟩ ?_ ?_))))))))))))
   ·refine WO_if 28 rfl (fun hb60 => ?_) (fun hb60 => ?_)
    ·refine Wst 4 [0, 1] [0, 3, 4, 5, 32] ⟨[(0, S s1), (3, sF 0 x50), (4, B b51), (5, sF 1 x53), (32, B true)], [nO x50, nO x53]⟩ (by kernel_rfl) ?_
     exact WO_nil rfl ⟨rfl, by first | rfl | (rw [hb60]; first | done | rfl)⟩
    ·refine WO_step 4 [0, 1] [0, 3, 4, 5, 32] T2 ⟨[(0, S s1), (3, sF 0 x50), (4, B b51), (5, sF 1 x53), (32, B (!(b54 == b51)))], [nO x50, nO x53]⟩ (by kernel_rfl) t2 ?_
     exact WO_nil rfl ⟨rfl, by first | rfl | (rw [hb60]; first | done | rfl)⟩
   ·refine thenS_n (iteO_e h (fun hb62 h => W_true rfl hb62 ?_) (fun hb62 h => W_false rfl hb62 ?_))
    ·refine Wsr ((Wst 1 [] [2] ⟨[(2, B false)], []⟩ (by kernel_rfl) (Wnt ((W_ret (thenS_r ?_))))))
     cases h
     exact ⟨[], True, by kernel_rfl, trivial⟩
    ·refine W_sub [0, 1] [0, 3, 4, 5] (st' := ⟨[(0, S s1), (3, sF 0 x50), (4, B b51), (5, sF 1 x53)], [nO x50, nO x53]⟩) (by kernel_rfl) (W_skip (thenS_n (Wsr ((Wst 1 [0, 1] [0, 3, 4, 5, 7] ⟨[(0, S s1), (3, sF 0 x50), (4, B b51), (5, sF 1 x53), (7, I 1)], [nO x50, nO x53]⟩ (by kernel_rfl) (Wnt ((Wsr ((Wst 2 [0, 1] [0, 3, 4, 5, 33, 34] ⟨[(0, S s1), (3, sF 0 x50), (4, B b51), (5, sF 1 x53), (33, sF 1 x53), (34, I 1)], [nO x50, nO x53]⟩ (by kernel_rfl) (bindO_e h (fun v90 hc65 h => ?_))))))))))))
     obtain ⟨x63, i64⟩ := v90
     refine guardO_e h (fun hl66 h => (WO_call [.own 1] Tryd.f12 rfl rfl rfl (by kernel_rfl) Tryd.func12 rfl (by kernel_rfl) (laws_markNodeS_ok n x53 x53.length 1 x63 i64 hc65) (And.intro (And.intro rfl (And.intro rfl hl66)) (trivial)) rfl (WO_sub [0, 1] [0, 3, 4, 5, 33, 34, 35] (st' := ⟨[(0, S s1), (3, sF 0 x50), (4, B b51), (5, sF 1 x53), (33, sF 1 x53), (34, I 1), (35, I i64)], [nO x50, nO x63]⟩) (by kernel_rfl) (WO_eq (st' := ⟨[(0, S s1), (3, sF 0 x50), (4, B b51), (5, sF 1 x63), (33, sF 1 x63), (34, I 1), (35, I i64)], [nO x50, nO x63]⟩) (by simp only [sF, hl66]) (Wst 1 [0, 1] [0, 3, 4, 5, 7] ⟨[(0, S s1), (3, sF 0 x50), (4, B b51), (5, sF 1 x63), (7, I i64)], [nO x50, nO x63]⟩ (by kernel_rfl) (Wnt ((Wsr ((Wst 1 [0, 1] [0, 3, 4, 5, 7, 8] ⟨[(0, S s1), (3, sF 0 x50), (4, B b51), (5, sF 1 x63), (7, I i64), (8, I 1)], [nO x50, nO x63]⟩ (by kernel_rfl) (Wnt ((Wsr ((Wst 2 [0, 1] [0, 3, 4, 5, 7, 36, 37] ⟨[(0, S s1), (3, sF 0 x50), (4, B b51), (5, sF 1 x63), (7, I i64), (36, sF 1 x63), (37, I 1)], [nO x50, nO x63]⟩ (by kernel_rfl) (bindO_e h (fun i67 hc68 h => (WO_call [.ro 1] Tryd.f13 rfl rfl rfl (by kernel_rfl) Tryd.func13 rfl (by kernel_rfl) (laws_heldNodeS_ok n x63 1 i67 hc68) (And.intro (And.intro rfl rfl) (trivial)) rfl (Wst 1 [0, 1] [0, 3, 4, 5, 7, 8] ⟨[(0, S s1), (3, sF 0 x50), (4, B b51), (5, sF 1 x63), (7, I i64), (8, I i67)], [nO x50, nO x63]⟩ (by kernel_rfl) (Wnt ((W_seq (Wsr ((WO_step 2 [0, 1] [0, 3, 4, 5, 7, 8, 40] T2 ⟨[(0, S s1), (3, sF 0 x50), (4, B b51), (5, sF 1 x63), (7, I i64), (8, I i67), (40, B (decide (i67 < 0)))], [nO x50, nO x63]⟩ (by kernel_rfl) t2 (Wnt ((iteO_e h (fun hb70 h => W_true rfl hb70 ?_) (fun hb70 h => W_false rfl hb70 ?_)))))))))))))))))))))))))))))
     ·refine Wsr ((Wst 1 [] [2] ⟨[(2, B false)], []⟩ (by kernel_rfl) (Wnt ((W_ret (thenS_r ?_))))))
      cases h
      exact ⟨[], True, by kernel_rfl, trivial⟩
     ·refine W_sub [0, 1] [0, 3, 4, 5, 7, 8] (st' := ⟨[(0, S s1), (3, sF 0 x50), (4, B b51), (5, sF 1 x63), (7, I i64), (8, I i67)], [nO x50, nO x63]⟩) (by kernel_rfl) (W_skip (thenS_n (W_seq (Wsr ((WO_step 3 [0, 1] [0, 3, 4, 5, 7, 43] T2 ⟨[(0, S s1), (3, sF 0 x50), (4, B b51), (5, sF 1 x63), (7, I i64), (43, B (!decide (i67 = i64)))], [nO x50, nO x63]⟩ (by kernel_rfl) t2 (Wnt ((iteO_e h (fun hb72 h => W_true rfl hb72 ?_) (fun hb72 h => W_false rfl hb72 ?_))))))))))
      ·refine Wsr ((Wst 1 [] [2] ⟨[(2, B false)], []⟩ (by kernel_rfl) (Wnt ((W_ret (thenS_r ?_))))))
       cases h
       exact ⟨[], True, by kernel_rfl, trivial⟩
      ·refine W_sub [0, 1] [0, 3, 4, 5, 7] (st' := ⟨[(0, S s1), (3, sF 0 x50), (4, B b51), (5, sF 1 x63), (7, I i64)], [nO x50, nO x63]⟩) (by kernel_rfl) (W_skip (thenS_n (Wsr ((Wst 1 [0, 1] [3, 4, 5, 7, 45] ⟨[(3, sF 0 x50), (4, B b51), (5, sF 1 x63), (7, I i64), (45, S s1)], [nO x50, nO x63]⟩ (by kernel_rfl) (bindO_e h (fun v89 hc75 h => ?_)))))))
       obtain ⟨x73, b74⟩ := v89
       refine WO_call [] Tryd.f8 rfl rfl rfl (by kernel_rfl) Tryd.func8 rfl (by kernel_rfl) (impl_ParseTree_ok n s1 x73 b74 hc75) (trivial) rfl (Wst 5 [0, 1, 2] [3, 4, 5, 7, 9, 10] ⟨[(3, sF 0 x50), (4, B b51), (5, sF 1 x63), (7, I i64), (9, sF 2 x73), (10, B b74)], [nO x50, nO x63, nO x73]⟩ (by kernel_rfl) (Wnt ((W_seq (Wsr ((Wst 2 [1, 2, 0] [4, 5, 7, 10, 49, 50] ⟨[(4, B b51), (5, sF 0 x63), (7, I i64), (10, B b74), (49, sF 1 x73), (50, sF 2 x50)], [nO x63, nO x73, nO x50]⟩ (by kernel_rfl) (bindO_e h (fun b76 hc77 h => (WO_call [.ro 1, .ro 2] Tryd.f11 rfl rfl rfl (by kernel_rfl) Tryd.func11 rfl (by kernel_rfl) (laws_eqNodeS_ok n x73 x50 b76 hc77) (And.intro (And.intro rfl rfl) (And.intro (And.intro rfl rfl) (trivial))) rfl (Wst 2 [0] [4, 5, 7, 10, 53] ⟨[(4, B b51), (5, sF 0 x63), (7, I i64), (10, B b74), (53, B (!b76))], [nO x63]⟩ (by kernel_rfl) (WO_thru ⟨[(5, sF 0 x63), (7, I i64), (57, B ((!b76) || (!(b74 == b51))))], [nO x63]⟩ ?_ ?_))))))))))))
       ·refine WO_if 53 rfl (fun hb80 => ?_) (fun hb80 => ?_)
        ·refine Wst 4 [0] [5, 7, 57] ⟨[(5, sF 0 x63), (7, I i64), (57, B true)], [nO x63]⟩ (by kernel_rfl) ?_
         exact WO_nil rfl ⟨rfl, by first | rfl | (rw [hb80]; first | done | rfl)⟩
        ·refine WO_step 4 [0] [5, 7, 57] T2 ⟨[(5, sF 0 x63), (7, I i64), (57, B (!(b74 == b51)))], [nO x63]⟩ (by kernel_rfl) t2 ?_
         exact WO_nil rfl ⟨rfl, by first | rfl | (rw [hb80]; first | done | rfl)⟩
       ·refine thenS_n (iteO_e h (fun hb82 h => W_true rfl hb82 ?_) (fun hb82 h => W_false rfl hb82 ?_))
        ·refine Wsr ((Wst 1 [] [2] ⟨[(2, B false)], []⟩ (by kernel_rfl) (Wnt ((W_ret (thenS_r ?_))))))
         cases h
         exact ⟨[], True, by kernel_rfl, trivial⟩
        ·refine W_sub [0] [5, 7] (st' := ⟨[(5, sF 0 x63), (7, I i64)], [nO x63]⟩) (by kernel_rfl) (W_skip (thenS_n (Wsr ((Wst 1 [0] [5, 7, 8] ⟨[(5, sF 0 x63), (7, I i64), (8, I 1)], [nO x63]⟩ (by kernel_rfl) (Wnt ((Wsr ((Wst 2 [0] [7, 58, 59] ⟨[(7, I i64), (58, sF 0 x63), (59, I 1)], [nO x63]⟩ (by kernel_rfl) (bindO_e h (fun i83 hc84 h => (WO_call [.ro 0] Tryd.f13 rfl rfl rfl (by kernel_rfl) Tryd.func13 rfl (by kernel_rfl) (laws_heldNodeS_ok n x63 1 i83 hc84) (And.intro (And.intro rfl rfl) (trivial)) rfl (Wst 1 [] [7, 8] ⟨[(7, I i64), (8, I i83)], []⟩ (by kernel_rfl) (Wnt ((W_seq (Wsr ((WO_step 2 [] [7, 8, 62] T2 ⟨[(7, I i64), (8, I i83), (62, B (decide (i83 < 0)))], []⟩ (by kernel_rfl) t2 (Wnt ((iteO_e h (fun hb86 h => W_true rfl hb86 ?_) (fun hb86 h => W_false rfl hb86 ?_))))))))))))))))))))))))
         ·refine Wsr ((Wst 1 [] [2] ⟨[(2, B false)], []⟩ (by kernel_rfl) (Wnt ((W_ret (thenS_r ?_))))))
          cases h
          exact ⟨[], True, by kernel_rfl, trivial⟩
         ·refine W_sub [] [7, 8] (st' := ⟨[(7, I i64), (8, I i83)], []⟩) (by kernel_rfl) (W_skip (thenS_n (W_seq (Wsr ((WO_step 3 [] [65] T2 ⟨[(65, B (!decide (i83 = i64)))], []⟩ (by kernel_rfl) t2 (Wnt ((iteO_e h (fun hb88 h => W_true rfl hb88 ?_) (fun hb88 h => W_false rfl hb88 ?_))))))))))
          ·refine Wsr ((Wst 1 [] [2] ⟨[(2, B false)], []⟩ (by kernel_rfl) (Wnt ((W_ret (thenS_r ?_))))))
           cases h
           exact ⟨[], True, by kernel_rfl, trivial⟩
          ·refine W_sub [] [] (st' := ⟨[], []⟩) (by kernel_rfl) (W_skip (thenS_n (Wsr ((Wst 1 [] [2] ⟨[(2, B true)], []⟩ (by kernel_rfl) (Wnt ((W_ret ?_))))))))
           cases h
           exact ⟨[], True, by kernel_rfl, trivial⟩

end Go.Proofs.YtghdgncfcfdlfaaDoor
