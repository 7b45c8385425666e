import Derived.Test.YtghdgncfcfdlfaaDoorTT1
namespace Go.Proofs.YtghdgncfcfdlfaaDoor
open Go Go.Shelf Go.Proofs
set_option linter.unusedVariables false
/- stringslite.HasPrefix -/
def stringslite_HasPrefix (s1 : Str) (s2 : Str) : Option (Bool) :=
bindO (iteO (decide (((s2.length : Nat) : Int) ≤ ((s1.length : Nat) : Int)))
 (guardO (0 ≤ ((s2.length : Nat) : Int) ∧ ((s2.length : Nat) : Int) ≤ ((s1.length : Nat) : Int)) <|
some (decide ((s1.take (((s2.length : Nat) : Int).toNat)) = s2)))
 (some false)) fun b12 =>
some b12

theorem stringslite_HasPrefix_ok (s1 : Str) (s2 : Str) (b9 : Bool) (h : stringslite_HasPrefix s1 s2 = some b9) : FOk EE 106 [S s1, S s2] [] (B b9) [] := by
  unfold stringslite_HasPrefix at h
  refine FOk_of_W 18 0 Tryd.func106 rfl rfl (Nat.le_of_ble_eq_true rfl) rfl (fun w X θ => ?_)
  refine W_seq (W_region (WO_step 1 [] [0, 1] True ⟨[(0, S s1), (1, S s2)], []⟩ (by kernel_rfl) trivial (WO_nil rfl (thenS_n (W_seq (W_region ?_))))))
  refine WO_step 6 [] [0, 1, 10] (True ∧ (True ∧ (True ∧ True))) ⟨[(0, S s1), (1, S s2), (10, B (decide (((s2.length : Nat) : Int) ≤ ((s1.length : Nat) : Int))))], []⟩ (by kernel_rfl) ⟨trivial, trivial, trivial, trivial⟩ (bindO_e h (fun b12 hv13 h => (WO_thru ⟨[(4, B b12)], []⟩ ?_ ?_)))
  ·refine iteO_e hv13 (fun hb14 hv13 => WO_known 10 true rfl hb14 ?_) (fun hb14 hv13 => WO_known 10 false rfl hb14 ?_)
   ·refine guardO_e hv13 (fun hg15 hv13 => (WO_step 8 [] [4] (True ∧ ((0 ≤ ((s2.length : Nat) : Int) ∧ ((s2.length : Nat) : Int) ≤ ((s1.length : Nat) : Int)) ∧ (True ∧ True))) ⟨[(4, B (decide ((s1.take (((s2.length : Nat) : Int).toNat)) = s2)))], []⟩ (by kernel_rfl) ⟨trivial, hg15, trivial, trivial⟩ ?_))
    cases hv13
    exact WO_nil rfl ⟨rfl, rfl⟩
   ·refine WO_step 8 [] [4] True ⟨[(4, B false)], []⟩ (by kernel_rfl) trivial ?_
    cases hv13
    exact WO_nil rfl ⟨rfl, rfl⟩
  ·refine thenS_n (W_ret ?_)
   cases h
   exact ⟨[], True, by kernel_rfl, trivial⟩

/- stringslite.CutPrefix -/
def stringslite_CutPrefix (s1 : Str) (s2 : Str) : Option (Str × Bool) :=
bindO (stringslite_HasPrefix s1 s2) fun b10 =>
iteO (!b10)
 (some (s1, false))
 (guardO (0 ≤ ((s2.length : Nat) : Int) ∧ ((s2.length : Nat) : Int) ≤ ((s1.length : Nat) : Int)) <|
some ((s1.drop (((s2.length : Nat) : Int).toNat)), true))

theorem stringslite_CutPrefix_ok (s1 : Str) (s2 : Str) (s8 : Str) (b9 : Bool) (h : stringslite_CutPrefix s1 s2 = some (s8, b9)) : FOk EE 103 [S s1, S s2] [] (.tup [.e (cS s8), .e (cB b9)]) [] := by
  unfold stringslite_CutPrefix at h
  refine FOk_of_W 15 0 Tryd.func103 rfl rfl (Nat.le_of_ble_eq_true rfl) rfl (fun w X θ => ?_)
  refine W_seq (W_region (WO_step 2 [] [0, 1] True ⟨[(0, S s1), (1, S s2)], []⟩ (by kernel_rfl) trivial (WO_nil rfl (thenS_n (W_seq (W_seq ?_))))))
  refine W_region (WO_step 2 [] [0, 1, 6, 7] True ⟨[(0, S s1), (1, S s2), (6, S s1), (7, S s2)], []⟩ (by kernel_rfl) trivial (bindO_e h (fun b10 hc11 h => (WO_call [] Tryd.f106 rfl rfl rfl (by kernel_rfl) Tryd.func106 rfl (by kernel_rfl) (stringslite_HasPrefix_ok s1 s2 b10 hc11) (trivial) rfl (WO_step 1 [] [0, 1, 9] True ⟨[(0, S s1), (1, S s2), (9, B (!b10))], []⟩ (by kernel_rfl) trivial (WO_nil rfl (thenS_n ?_)))))))
  refine iteO_e h (fun hb13 h => W_true rfl hb13 ?_) (fun hb13 h => W_false rfl hb13 ?_)
  ·refine W_seq (W_region (WO_step 3 [] [4, 5] True ⟨[(4, S s1), (5, B false)], []⟩ (by kernel_rfl) trivial (WO_nil rfl (thenS_n (W_ret (thenS_r ?_))))))
   cases h
   exact ⟨[], True, by kernel_rfl, trivial⟩
  ·refine W_sub [] [0, 1] (st' := ⟨[(0, S s1), (1, S s2)], []⟩) (by kernel_rfl) (W_skip (thenS_n (W_seq (W_region (guardO_e h (fun hg14 h => (WO_step 6 [] [4, 5] (True ∧ ((0 ≤ ((s2.length : Nat) : Int) ∧ ((s2.length : Nat) : Int) ≤ ((s1.length : Nat) : Int)) ∧ True)) ⟨[(4, S (s1.drop (((s2.length : Nat) : Int).toNat))), (5, B true)], []⟩ (by kernel_rfl) ⟨trivial, hg14, trivial⟩ (WO_nil rfl (thenS_n (W_ret ?_))))))))))
   cases h
   exact ⟨[], True, by kernel_rfl, trivial⟩

/- strings.CutPrefix -/
def strings_CutPrefix (s1 : Str) (s2 : Str) : Option (Str × Bool) :=
bindO (stringslite_CutPrefix s1 s2) fun (s9, b10) =>
some (s9, b10)

theorem strings_CutPrefix_ok (s1 : Str) (s2 : Str) (s7 : Str) (b8 : Bool) (h : strings_CutPrefix s1 s2 = some (s7, b8)) : FOk EE 92 [S s1, S s2] [] (.tup [.e (cS s7), .e (cB b8)]) [] := by
  unfold strings_CutPrefix at h
  refine FOk_of_W 11 0 Tryd.func92 rfl rfl (Nat.le_of_ble_eq_true rfl) rfl (fun w X θ => ?_)
  refine W_seq (W_region (WO_step 2 [] [0, 1] True ⟨[(0, S s1), (1, S s2)], []⟩ (by kernel_rfl) trivial (WO_nil rfl (thenS_n (W_seq (W_region ?_))))))
  refine WO_step 2 [] [6, 7] True ⟨[(6, S s1), (7, S s2)], []⟩ (by kernel_rfl) trivial (bindO_e h (fun v12 hc11 h => ?_))
  obtain ⟨s9, b10⟩ := v12
  refine WO_call [] Tryd.f103 rfl rfl rfl (by kernel_rfl) Tryd.func103 rfl (by kernel_rfl) (stringslite_CutPrefix_ok s1 s2 s9 b10 hc11) (trivial) rfl (WO_step 4 [] [4, 5] True ⟨[(4, S s9), (5, B b10)], []⟩ (by kernel_rfl) trivial (WO_nil rfl (thenS_n (W_ret ?_))))
  cases h
  exact ⟨[], True, by kernel_rfl, trivial⟩

/- impl.ResolvePath -/
def impl_ResolvePath_L1 (x1 : List Nod) : Nat → Str → Int → Bool → Option ((Unit) ⊕ (Int))
| 0, _, _, _ => none
| n + 1, s129, i130, b131 =>
iteO b131
 (bindO (strings_Cut s129 [47]) fun (s168, s169, b170) =>
bindO (impl_kidIn n x1 i130 s168) fun i172 =>
iteO (decide (i172 < 0))
 (some (.inl ()))
 (impl_ResolvePath_L1 x1 n s169 i172 b170))
 (some (.inr i130))

theorem impl_ResolvePath_L1_ok (w : World) (X : Nat → Prop) (θ : List Loc) (x1 : List Nod) (v : (Unit) ⊕ (Int)) : ∀ (n : Nat) (s129 : Str) (i130 : Int) (b131 : Bool), impl_ResolvePath_L1 x1 n s129 i130 b131 = some v → WL EE ⟨w, X, θ, 36, 1⟩ (subC [1, 1, 1, 1, 1, 1, 0, 1, 4, 4] (bodyC Tryd.f76)) (fun (e : Exit) (s : St) => (match v with | (.inl _) => e = .ret ∧ s = ⟨[(4, I (-1))], [.row .nod x1 false]⟩ | (.inr i155) => e = .exit 0 ∧ s = ⟨[(7, I i155)], [.row .nod x1 false]⟩ : Prop)) ⟨[(0, .one (.e (.sl 0 0 x1.length))), (5, S s129), (7, I i130), (8, B b131)], [.row .nod x1 false]⟩ := by
  intro n
  induction n with
  | zero => intro _ _ _ h; exact none_e h
  | succ n ih =>
    intro s129 i130 b131 h
    rw [impl_ResolvePath_L1] at h
    refine WL_round ?_
    refine W_seq (W_seq (W_region (WO_step 1 [0] [0, 5, 7, 22] True ⟨[(0, .one (.e (.sl 0 0 x1.length))), (5, S s129), (7, I i130), (22, B b131)], [.row .nod x1 false]⟩ (by kernel_rfl) trivial (WO_nil rfl (thenS_n (iteO_e h (fun hb158 h => W_true rfl hb158 ?_) (fun hb158 h => W_false rfl hb158 ?_)))))))
    ·refine W_sub [0] [0, 5, 7] (st' := ⟨[(0, .one (.e (.sl 0 0 x1.length))), (5, S s129), (7, I i130)], [.row .nod x1 false]⟩) (by kernel_rfl) (W_skip (thenS_n (W_block (W_seq (W_region (WO_step 1 [0] [0, 5, 7] True ⟨[(0, .one (.e (.sl 0 0 x1.length))), (5, S s129), (7, I i130)], [.row .nod x1 false]⟩ (by kernel_rfl) trivial (WO_nil rfl (thenS_n (W_seq (W_region (WO_step 1 [0] [0, 7, 24] True ⟨[(0, .one (.e (.sl 0 0 x1.length))), (7, I i130), (24, S s129)], [.row .nod x1 false]⟩ (by kernel_rfl) trivial (bindO_e h (fun v176 hc171 h => ?_)))))))))))))
     obtain ⟨s168, s169, b170⟩ := v176
     refine WO_call [] Tryd.f25 rfl rfl rfl (by kernel_rfl) Tryd.func25 rfl (by kernel_rfl) (strings_Cut_ok s129 [47] s168 s169 b170 hc171) (trivial) rfl (WO_step 7 [0] [0, 5, 7, 8, 9] True ⟨[(0, .one (.e (.sl 0 0 x1.length))), (5, S s169), (7, I i130), (8, B b170), (9, S s168)], [.row .nod x1 false]⟩ (by kernel_rfl) trivial (WO_nil rfl (thenS_n (W_seq (W_region (WO_step 3 [0] [0, 5, 8, 29, 30, 31] True ⟨[(0, .one (.e (.sl 0 0 x1.length))), (5, S s169), (8, B b170), (29, .one (.e (.sl 0 0 x1.length))), (30, I i130), (31, S s168)], [.row .nod x1 false]⟩ (by kernel_rfl) trivial (bindO_e h (fun i172 hc173 h => (WO_call [.ro 0] Tryd.f40 rfl rfl rfl (by kernel_rfl) Tryd.func40 rfl (by kernel_rfl) (impl_kidIn_ok n x1 i130 s168 i172 hc173) (And.intro (And.intro rfl rfl) (trivial)) rfl (WO_step 1 [0] [0, 5, 7, 8] True ⟨[(0, .one (.e (.sl 0 0 x1.length))), (5, S s169), (7, I i172), (8, B b170)], [.row .nod x1 false]⟩ (by kernel_rfl) trivial (WO_nil rfl (thenS_n (W_seq (W_region (WO_step 2 [0] [0, 5, 7, 8, 34] (True ∧ True) ⟨[(0, .one (.e (.sl 0 0 x1.length))), (5, S s169), (7, I i172), (8, B b170), (34, B (decide (i172 < 0)))], [.row .nod x1 false]⟩ (by kernel_rfl) ⟨trivial, trivial⟩ (WO_nil rfl (thenS_n (iteO_e h (fun hb175 h => W_true rfl hb175 ?_) (fun hb175 h => W_false rfl hb175 ?_)))))))))))))))))))
     ·refine W_seq (W_region (WO_step 1 [0] [4] True ⟨[(4, I (-1))], [.row .nod x1 false]⟩ (by kernel_rfl) trivial (WO_nil rfl (thenS_n (W_ret (blockS_r (thenS_r ?_)))))))
      cases h
      exact And.intro rfl rfl
     ·refine W_sub [0] [0, 5, 7, 8] (st' := ⟨[(0, .one (.e (.sl 0 0 x1.length))), (5, S s169), (7, I i172), (8, B b170)], [.row .nod x1 false]⟩) (by kernel_rfl) (W_skip (blockS_n (thenS_n ?_)))
      exact ih _ _ _ h
    ·refine W_sub [0] [7] (st' := ⟨[(7, I i130)], [.row .nod x1 false]⟩) (by kernel_rfl) (W_exit (thenS_e (thenS_e ?_)))
     cases h
     exact And.intro rfl rfl

def impl_ResolvePath (n : Nat) (x1 : List Nod) (s2 : Str) : Option (Int) :=
bindO (impl_ValidTree n x1) fun b90 =>
iteO (!b90)
 (some (-1))
 (bindO (strings_CutPrefix s2 [47]) fun (s94, b95) =>
iteO (!b95)
 (some (-1))
 (iteO (decide (s94 = []))
 (some 0)
 (bindO (impl_ResolvePath_L1 x1 n s94 0 true) fun v177 =>
match v177 with
 | (.inl _) => (some (-1))
 | (.inr i155) => (some i155)
)))

theorem impl_ResolvePath_ok (n : Nat) (x1 : List Nod) (s2 : Str) (i89 : Int) (h : impl_ResolvePath n x1 s2 = some i89) : FOk EE 76 [.one (.e (.sl 0 0 x1.length)), S s2] [.row .nod x1 false] (I i89) [.row .nod x1 false] := by
  unfold impl_ResolvePath at h
  refine FOk_of_W 36 1 Tryd.func76 rfl rfl (Nat.le_of_ble_eq_true rfl) rfl (fun w X θ => ?_)
  refine W_seq (W_region (WO_step 1 [0] [0, 1] True ⟨[(0, .one (.e (.sl 0 0 x1.length))), (1, S s2)], [.row .nod x1 false]⟩ (by kernel_rfl) trivial (WO_nil rfl (thenS_n (W_seq (W_seq ?_))))))
  refine W_region (WO_step 1 [0] [0, 1, 10] True ⟨[(0, .one (.e (.sl 0 0 x1.length))), (1, S s2), (10, .one (.e (.sl 0 0 x1.length)))], [.row .nod x1 false]⟩ (by kernel_rfl) trivial (bindO_e h (fun b90 hc91 h => (WO_call [.ro 0] Tryd.f16 rfl rfl rfl (by kernel_rfl) Tryd.func16 rfl (by kernel_rfl) (impl_ValidTree_ok n x1 b90 hc91) (And.intro (And.intro rfl rfl) (trivial)) rfl (WO_step 1 [0] [0, 1, 12] True ⟨[(0, .one (.e (.sl 0 0 x1.length))), (1, S s2), (12, B (!b90))], [.row .nod x1 false]⟩ (by kernel_rfl) trivial (WO_nil rfl (thenS_n ?_)))))))
  refine iteO_e h (fun hb93 h => W_true rfl hb93 ?_) (fun hb93 h => W_false rfl hb93 ?_)
  ·refine W_seq (W_region (WO_step 1 [0] [4] True ⟨[(4, I (-1))], [.row .nod x1 false]⟩ (by kernel_rfl) trivial (WO_nil rfl (thenS_n (W_ret (thenS_r ?_))))))
   cases h
   exact ⟨[0], True, by kernel_rfl, trivial⟩
  ·refine W_sub [0] [0, 1] (st' := ⟨[(0, .one (.e (.sl 0 0 x1.length))), (1, S s2)], [.row .nod x1 false]⟩) (by kernel_rfl) (W_skip (thenS_n (W_seq (W_region (WO_step 1 [0] [0, 14] True ⟨[(0, .one (.e (.sl 0 0 x1.length))), (14, S s2)], [.row .nod x1 false]⟩ (by kernel_rfl) trivial (bindO_e h (fun v178 hc96 h => ?_)))))))
   obtain ⟨s94, b95⟩ := v178
   refine WO_call [] Tryd.f92 rfl rfl rfl (by kernel_rfl) Tryd.func92 rfl (by kernel_rfl) (strings_CutPrefix_ok s2 [47] s94 b95 hc96) (trivial) rfl (WO_step 5 [0] [0, 5, 6] True ⟨[(0, .one (.e (.sl 0 0 x1.length))), (5, S s94), (6, B b95)], [.row .nod x1 false]⟩ (by kernel_rfl) trivial (WO_nil rfl (thenS_n (W_seq (W_seq (W_region (WO_step 2 [0] [0, 5, 19] True ⟨[(0, .one (.e (.sl 0 0 x1.length))), (5, S s94), (19, B (!b95))], [.row .nod x1 false]⟩ (by kernel_rfl) trivial (WO_nil rfl (thenS_n (iteO_e h (fun hb98 h => W_true rfl hb98 ?_) (fun hb98 h => W_false rfl hb98 ?_)))))))))))
   ·refine W_seq (W_region (WO_step 1 [0] [4] True ⟨[(4, I (-1))], [.row .nod x1 false]⟩ (by kernel_rfl) trivial (WO_nil rfl (thenS_n (W_ret (thenS_r ?_))))))
    cases h
    exact ⟨[0], True, by kernel_rfl, trivial⟩
   ·refine W_sub [0] [0, 5] (st' := ⟨[(0, .one (.e (.sl 0 0 x1.length))), (5, S s94)], [.row .nod x1 false]⟩) (by kernel_rfl) (W_skip (thenS_n (W_seq (W_seq (W_region (WO_step 2 [0] [0, 5, 21] (True ∧ True) ⟨[(0, .one (.e (.sl 0 0 x1.length))), (5, S s94), (21, B (decide (s94 = [])))], [.row .nod x1 false]⟩ (by kernel_rfl) ⟨trivial, trivial⟩ (WO_nil rfl (thenS_n (iteO_e h (fun hb100 h => W_true rfl hb100 ?_) (fun hb100 h => W_false rfl hb100 ?_))))))))))
    ·refine W_seq (W_region (WO_step 1 [0] [4] True ⟨[(4, I 0)], [.row .nod x1 false]⟩ (by kernel_rfl) trivial (WO_nil rfl (thenS_n (W_ret (thenS_r ?_))))))
     cases h
     exact ⟨[0], True, by kernel_rfl, trivial⟩
    ·refine W_sub [0] [0, 5] (st' := ⟨[(0, .one (.e (.sl 0 0 x1.length))), (5, S s94)], [.row .nod x1 false]⟩) (by kernel_rfl) (W_skip (thenS_n (W_seq (W_region (WO_step 1 [0] [0, 5, 7] True ⟨[(0, .one (.e (.sl 0 0 x1.length))), (5, S s94), (7, I 0)], [.row .nod x1 false]⟩ (by kernel_rfl) trivial (WO_nil rfl (thenS_n (W_seq (W_seq (W_region (WO_step 1 [0] [0, 5, 7, 8] True ⟨[(0, .one (.e (.sl 0 0 x1.length))), (5, S s94), (7, I 0), (8, B true)], [.row .nod x1 false]⟩ (by kernel_rfl) trivial (WO_nil rfl (thenS_n (W_block (W_loop (bindO_e h (fun v177 hv177 h => (WL_cut (impl_ResolvePath_L1_ok w X θ x1 v177 n s94 0 true hv177) ?_))))))))))))))))))
     rcases v177 with _ | i155
     ·rintro _ _ ⟨rfl, rfl⟩
      refine blockS_r (thenS_r ?_)
      cases h
      exact ⟨[0], True, by kernel_rfl, trivial⟩
     ·rintro _ _ ⟨rfl, rfl⟩
      refine blockS_y (thenS_n (W_seq (W_region (WO_step 2 [0] [4] True ⟨[(4, I i155)], [.row .nod x1 false]⟩ (by kernel_rfl) trivial (WO_nil rfl (thenS_n (W_ret ?_)))))))
      cases h
      exact ⟨[0], True, by kernel_rfl, trivial⟩

/- impl.upperNode -/
def impl_upperNode (n : Nat) (x1 : List Nod) (s2 : Str) : Option (Int) :=
bindO (strings_LastIndexByte n s2 47) fun i13 =>
iteO (decide (i13 < 0))
 (some (-1))
 (iteO (decide (i13 = 0))
 (some 0)
 (guardO (0 ≤ i13 ∧ i13 ≤ ((s2.length : Nat) : Int)) <|
bindO (impl_ResolvePath n x1 (s2.take i13.toNat)) fun i20 =>
some i20))

theorem impl_upperNode_ok (n : Nat) (x1 : List Nod) (s2 : Str) (i12 : Int) (h : impl_upperNode n x1 s2 = some i12) : FOk EE 53 [.one (.e (.sl 0 0 x1.length)), S s2] [.row .nod x1 false] (I i12) [.row .nod x1 false] := by
  unfold impl_upperNode at h
  refine FOk_of_W 17 1 Tryd.func53 rfl rfl (Nat.le_of_ble_eq_true rfl) rfl (fun w X θ => ?_)
  refine W_seq (W_region (WO_step 1 [0] [0, 1] True ⟨[(0, .one (.e (.sl 0 0 x1.length))), (1, S s2)], [.row .nod x1 false]⟩ (by kernel_rfl) trivial (WO_nil rfl (thenS_n (W_seq (W_region ?_))))))
  refine WO_step 1 [0] [0, 1, 6] True ⟨[(0, .one (.e (.sl 0 0 x1.length))), (1, S s2), (6, S s2)], [.row .nod x1 false]⟩ (by kernel_rfl) trivial (bindO_e h (fun i13 hc14 h => (WO_call [] Tryd.f54 rfl rfl rfl (by kernel_rfl) Tryd.func54 rfl (by kernel_rfl) (strings_LastIndexByte_ok n s2 47 i13 hc14) (trivial) rfl (WO_step 1 [0] [0, 1, 5] True ⟨[(0, .one (.e (.sl 0 0 x1.length))), (1, S s2), (5, I i13)], [.row .nod x1 false]⟩ (by kernel_rfl) trivial (WO_nil rfl (thenS_n (W_seq ?_)))))))
  refine W_seq (W_region (WO_step 2 [0] [0, 1, 5, 9] (True ∧ True) ⟨[(0, .one (.e (.sl 0 0 x1.length))), (1, S s2), (5, I i13), (9, B (decide (i13 < 0)))], [.row .nod x1 false]⟩ (by kernel_rfl) ⟨trivial, trivial⟩ (WO_nil rfl (thenS_n (iteO_e h (fun hb16 h => W_true rfl hb16 ?_) (fun hb16 h => W_false rfl hb16 ?_))))))
  ·refine W_seq (W_region (WO_step 1 [0] [4] True ⟨[(4, I (-1))], [.row .nod x1 false]⟩ (by kernel_rfl) trivial (WO_nil rfl (thenS_n (W_ret (thenS_r ?_))))))
   cases h
   exact ⟨[0], True, by kernel_rfl, trivial⟩
  ·refine W_sub [0] [0, 1, 5] (st' := ⟨[(0, .one (.e (.sl 0 0 x1.length))), (1, S s2), (5, I i13)], [.row .nod x1 false]⟩) (by kernel_rfl) (W_skip (thenS_n (W_seq (W_seq (W_region (WO_step 2 [0] [0, 1, 5, 11] (True ∧ True) ⟨[(0, .one (.e (.sl 0 0 x1.length))), (1, S s2), (5, I i13), (11, B (decide (i13 = 0)))], [.row .nod x1 false]⟩ (by kernel_rfl) ⟨trivial, trivial⟩ (WO_nil rfl (thenS_n (iteO_e h (fun hb18 h => W_true rfl hb18 ?_) (fun hb18 h => W_false rfl hb18 ?_))))))))))
   ·refine W_seq (W_region (WO_step 1 [0] [4] True ⟨[(4, I 0)], [.row .nod x1 false]⟩ (by kernel_rfl) trivial (WO_nil rfl (thenS_n (W_ret (thenS_r ?_))))))
    cases h
    exact ⟨[0], True, by kernel_rfl, trivial⟩
   ·refine W_sub [0] [0, 1, 5] (st' := ⟨[(0, .one (.e (.sl 0 0 x1.length))), (1, S s2), (5, I i13)], [.row .nod x1 false]⟩) (by kernel_rfl) (W_skip (thenS_n (W_seq (W_region (guardO_e h (fun hg19 h => (WO_step 4 [0] [12, 15] ((0 ≤ i13 ∧ i13 ≤ ((s2.length : Nat) : Int)) ∧ True) ⟨[(12, .one (.e (.sl 0 0 x1.length))), (15, S (s2.take i13.toNat))], [.row .nod x1 false]⟩ (by kernel_rfl) ⟨hg19, trivial⟩ (bindO_e h (fun i20 hc21 h => (WO_call [.ro 0] Tryd.f76 rfl rfl rfl (by kernel_rfl) Tryd.func76 rfl (by kernel_rfl) (impl_ResolvePath_ok n x1 (s2.take i13.toNat) i20 hc21) (And.intro (And.intro rfl rfl) (trivial)) rfl (WO_step 1 [0] [4] True ⟨[(4, I i20)], [.row .nod x1 false]⟩ (by kernel_rfl) trivial (WO_nil rfl (thenS_n (W_ret ?_))))))))))))))
    cases h
    exact ⟨[0], True, by kernel_rfl, trivial⟩

/- impl.Node] -/
def slices_Clone_Node (x1 : List Nod) : Option (List Nod) :=
guardO (x1.length ≤ 1099511627776) <|
some x1

theorem slices_Clone_Node_ok (x1 x2 : List Nod) (h : slices_Clone_Node x1 = some x2) : FOk EE 75 [.one (.e (.sl 0 0 x1.length))] [.row .nod x1 false] (.one (.e (.sl 1 0 x2.length))) [.row .nod x1 false, .row .nod x2 true] := by
  unfold slices_Clone_Node at h
  refine guardO_e h (fun hg h => ?_)
  cases h
  refine FOk_of_W 8 1 Tryd.func75 rfl rfl (Nat.le_of_ble_eq_true rfl) rfl (fun w X θ => ?_)
  refine W_seq ?_
  refine W_region ?_
  refine WO_step 1 [0] [0] True ⟨[(0, .one (.e (.sl 0 0 x1.length)))], [.row .nod x1 false]⟩ (by kernel_rfl) trivial ?_
  refine WO_nil rfl ?_
  refine thenS_n ?_
  refine W_seq ?_
  refine W_seq ?_
  refine W_region ?_
  refine WO_step 1 [0] [0, 3] True ⟨[(0, .one (.e (.sl 0 0 x1.length))), (3, .one (.e (.sl 0 0 x1.length)))], [.row .nod x1 false]⟩ (by kernel_rfl) trivial ?_
  refine WO_isnil (R := .nod) (xs := x1) (own := false) rfl rfl rfl rfl Tryd.underlying23 rfl rfl rfl (fun b hb => ?_)
  refine WO_nil rfl ?_
  refine thenS_n ?_
  cases b with
  | true =>
    have e : x1 = [] := List.eq_nil_of_length_eq_zero (hb rfl)
    subst e
    refine W_true rfl rfl ?_
    refine W_seq ?_
    refine W_region ?_
    refine WO_step 1 [0] [2] True ⟨[(2, .one (.e .nsl))], [.row .nod [] false]⟩ (by kernel_rfl) trivial ?_
    refine WO_nil rfl ?_
    refine thenS_n ?_
    refine W_nil 2 .nod rfl ?_
    refine W_ret ?_
    refine thenS_r ?_
    exact ⟨[0, 1], True, by kernel_rfl, trivial⟩
  | false =>
    refine W_false rfl rfl ?_
    refine W_sub [0] [0] (st' := ⟨[(0, .one (.e (.sl 0 0 x1.length)))], [.row .nod x1 false]⟩) (by kernel_rfl) ?_
    refine W_skip ?_
    refine thenS_n ?_
    refine W_seq ?_
    refine W_region ?_
    refine WO_step 4 [0, 2] [2] ((0 = 0 ∧ 0 = ([] : List Nod).length ∧ ([] : List Nod).length + ((x1.drop 0).take x1.length).length ≤ 1099511627776) ∧ True) ⟨[(2, .one (.e (.sl 1 0 (([] : List Nod) ++ ((x1.drop 0).take x1.length)).length)))], [.row .nod x1 false, .row .nod (([] : List Nod) ++ ((x1.drop 0).take x1.length)) true]⟩ (by kernel_rfl) ⟨⟨rfl, rfl, by simpa using hg⟩, trivial⟩ ?_
    refine WO_eq (st' := ⟨[(2, .one (.e (.sl 1 0 x1.length)))], [.row .nod x1 false, .row .nod x1 true]⟩) (by simp only [List.drop_zero, List.take_length, List.nil_append]) ?_
    refine WO_nil rfl ?_
    refine thenS_n ?_
    refine W_ret ?_
    exact ⟨[0, 1], True, by kernel_rfl, trivial⟩

/- impl.AddNode -/
def impl_AddNode (n : Nat) (x1 : List Nod) (i2 : Int) (s3 : Str) (i4 : Int) : Option ((List Nod) × Int × Bool) :=
bindO (impl_ValidTree n x1) fun b19 =>
iteO (!b19)
 (some (([] : List Nod), (-1), false))
 (bindO (slices_Clone_Node x1) fun x23 =>
guardO (0 = 0 ∧ x23.length = x23.length ∧ x23.length + (([(⟨i2, s3, i4⟩ : Nod)].drop 0).take ([(⟨i2, s3, i4⟩ : Nod)].length)).length ≤ 1099511627776) <|
bindO (impl_ValidTree n (x23 ++ (([(⟨i2, s3, i4⟩ : Nod)].drop 0).take ([(⟨i2, s3, i4⟩ : Nod)].length)))) fun b26 =>
iteO (!b26)
 (some (([] : List Nod), (-1), false))
 (some ((x23 ++ (([(⟨i2, s3, i4⟩ : Nod)].drop 0).take ([(⟨i2, s3, i4⟩ : Nod)].length))), ((x1.length : Nat) : Int), true)))

theorem impl_AddNode_ok (n : Nat) (x1 : List Nod) (i2 : Int) (s3 : Str) (i4 : Int) (x16 : List Nod) (i17 : Int) (b18 : Bool) (h : impl_AddNode n x1 i2 s3 i4 = some (x16, i17, b18)) : FOk EE 52 [.one (.e (.sl 0 0 x1.length)), I i2, S s3, I i4] [.row .nod x1 false] (.tup [.e (.sl 1 0 x16.length), .e (cI i17), .e (cB b18)]) [.row .nod x1 false, .row .nod x16 true] := by
  unfold impl_AddNode at h
  refine FOk_of_W 29 1 Tryd.func52 rfl rfl (Nat.le_of_ble_eq_true rfl) rfl (fun w X θ => ?_)
  refine W_seq (W_region (WO_step 3 [0] [0, 1, 2, 3] True ⟨[(0, .one (.e (.sl 0 0 x1.length))), (1, I i2), (2, S s3), (3, I i4)], [.row .nod x1 false]⟩ (by kernel_rfl) trivial (WO_nil rfl (thenS_n (W_seq (W_seq ?_))))))
  refine W_region (WO_step 1 [0] [0, 1, 2, 3, 12] True ⟨[(0, .one (.e (.sl 0 0 x1.length))), (1, I i2), (2, S s3), (3, I i4), (12, .one (.e (.sl 0 0 x1.length)))], [.row .nod x1 false]⟩ (by kernel_rfl) trivial (bindO_e h (fun b19 hc20 h => (WO_call [.ro 0] Tryd.f16 rfl rfl rfl (by kernel_rfl) Tryd.func16 rfl (by kernel_rfl) (impl_ValidTree_ok n x1 b19 hc20) (And.intro (And.intro rfl rfl) (trivial)) rfl (WO_step 1 [0] [0, 1, 2, 3, 14] True ⟨[(0, .one (.e (.sl 0 0 x1.length))), (1, I i2), (2, S s3), (3, I i4), (14, B (!b19))], [.row .nod x1 false]⟩ (by kernel_rfl) trivial (WO_nil rfl (thenS_n ?_)))))))
  refine iteO_e h (fun hb22 h => W_true rfl hb22 ?_) (fun hb22 h => W_false rfl hb22 ?_)
  ·refine W_seq (W_region (WO_step 3 [0] [8, 9, 10] True ⟨[(8, .one (.e (.nsl))), (9, I (-1)), (10, B false)], [.row .nod x1 false]⟩ (by kernel_rfl) trivial (WO_nilrow 8 .nod rfl (WO_sub [0, 1] [8, 9, 10] (st' := ⟨[(8, .one (.e (.sl 1 0 (([] : List Nod).length)))), (9, I (-1)), (10, B false)], [.row .nod x1 false, .row .nod ([] : List Nod) true]⟩) (by kernel_rfl) (WO_nil rfl (thenS_n (W_ret (thenS_r ?_))))))))
   cases h
   exact ⟨[0, 1], True, by kernel_rfl, trivial⟩
  ·refine W_sub [0] [0, 1, 2, 3] (st' := ⟨[(0, .one (.e (.sl 0 0 x1.length))), (1, I i2), (2, S s3), (3, I i4)], [.row .nod x1 false]⟩) (by kernel_rfl) (W_skip (thenS_n (W_seq (W_region (WO_step 1 [0] [0, 1, 2, 3, 15] True ⟨[(0, .one (.e (.sl 0 0 x1.length))), (1, I i2), (2, S s3), (3, I i4), (15, .one (.e (.sl 0 0 x1.length)))], [.row .nod x1 false]⟩ (by kernel_rfl) trivial (bindO_e h (fun x23 hc24 h => (WO_call [.ro 0] Tryd.f75 rfl rfl rfl (by kernel_rfl) Tryd.func75 rfl (by kernel_rfl) (slices_Clone_Node_ok x1 x23 hc24) (And.intro (And.intro rfl rfl) (trivial)) rfl (guardO_e h (fun hg25 h => (WO_step 7 [0, 3] [0, 11] ((0 = 0 ∧ x23.length = x23.length ∧ x23.length + (([(⟨i2, s3, i4⟩ : Nod)].drop 0).take ([(⟨i2, s3, i4⟩ : Nod)].length)).length ≤ 1099511627776) ∧ True) ⟨[(0, .one (.e (.sl 0 0 x1.length))), (11, .one (.e (.sl 1 0 ((x23 ++ (([(⟨i2, s3, i4⟩ : Nod)].drop 0).take ([(⟨i2, s3, i4⟩ : Nod)].length))).length))))], [.row .nod x1 false, .row .nod (x23 ++ (([(⟨i2, s3, i4⟩ : Nod)].drop 0).take ([(⟨i2, s3, i4⟩ : Nod)].length))) true]⟩ (by kernel_rfl) ⟨hg25, trivial⟩ (WO_nil rfl (thenS_n (W_seq (W_seq (W_region (WO_step 1 [0, 1] [0, 11, 23] True ⟨[(0, .one (.e (.sl 0 0 x1.length))), (11, .one (.e (.sl 1 0 ((x23 ++ (([(⟨i2, s3, i4⟩ : Nod)].drop 0).take ([(⟨i2, s3, i4⟩ : Nod)].length))).length)))), (23, .one (.e (.sl 1 0 ((x23 ++ (([(⟨i2, s3, i4⟩ : Nod)].drop 0).take ([(⟨i2, s3, i4⟩ : Nod)].length))).length))))], [.row .nod x1 false, .row .nod (x23 ++ (([(⟨i2, s3, i4⟩ : Nod)].drop 0).take ([(⟨i2, s3, i4⟩ : Nod)].length))) true]⟩ (by kernel_rfl) trivial (bindO_e h (fun b26 hc27 h => (WO_call [.ro 1] Tryd.f16 rfl rfl rfl (by kernel_rfl) Tryd.func16 rfl (by kernel_rfl) (impl_ValidTree_ok n (x23 ++ (([(⟨i2, s3, i4⟩ : Nod)].drop 0).take ([(⟨i2, s3, i4⟩ : Nod)].length))) b26 hc27) (And.intro (And.intro rfl rfl) (trivial)) rfl (WO_step 1 [0, 1] [0, 11, 25] True ⟨[(0, .one (.e (.sl 0 0 x1.length))), (11, .one (.e (.sl 1 0 ((x23 ++ (([(⟨i2, s3, i4⟩ : Nod)].drop 0).take ([(⟨i2, s3, i4⟩ : Nod)].length))).length)))), (25, B (!b26))], [.row .nod x1 false, .row .nod (x23 ++ (([(⟨i2, s3, i4⟩ : Nod)].drop 0).take ([(⟨i2, s3, i4⟩ : Nod)].length))) true]⟩ (by kernel_rfl) trivial (WO_nil rfl (thenS_n (iteO_e h (fun hb29 h => W_true rfl hb29 ?_) (fun hb29 h => W_false rfl hb29 ?_)))))))))))))))))))))))))
   ·refine W_seq (W_region (WO_step 3 [0] [8, 9, 10] True ⟨[(8, .one (.e (.nsl))), (9, I (-1)), (10, B false)], [.row .nod x1 false]⟩ (by kernel_rfl) trivial (WO_nilrow 8 .nod rfl (WO_sub [0, 1] [8, 9, 10] (st' := ⟨[(8, .one (.e (.sl 1 0 (([] : List Nod).length)))), (9, I (-1)), (10, B false)], [.row .nod x1 false, .row .nod ([] : List Nod) true]⟩) (by kernel_rfl) (WO_nil rfl (thenS_n (W_ret (thenS_r ?_))))))))
    cases h
    exact ⟨[0, 1], True, by kernel_rfl, trivial⟩
   ·refine W_sub [0, 1] [0, 11] (st' := ⟨[(0, .one (.e (.sl 0 0 x1.length))), (11, .one (.e (.sl 1 0 ((x23 ++ (([(⟨i2, s3, i4⟩ : Nod)].drop 0).take ([(⟨i2, s3, i4⟩ : Nod)].length))).length))))], [.row .nod x1 false, .row .nod (x23 ++ (([(⟨i2, s3, i4⟩ : Nod)].drop 0).take ([(⟨i2, s3, i4⟩ : Nod)].length))) true]⟩) (by kernel_rfl) (W_skip (thenS_n (W_seq (W_region (WO_step 6 [0, 1] [8, 9, 10] (True ∧ True) ⟨[(8, .one (.e (.sl 1 0 ((x23 ++ (([(⟨i2, s3, i4⟩ : Nod)].drop 0).take ([(⟨i2, s3, i4⟩ : Nod)].length))).length)))), (9, I ((x1.length : Nat) : Int)), (10, B true)], [.row .nod x1 false, .row .nod (x23 ++ (([(⟨i2, s3, i4⟩ : Nod)].drop 0).take ([(⟨i2, s3, i4⟩ : Nod)].length))) true]⟩ (by kernel_rfl) ⟨trivial, trivial⟩ (WO_nil rfl (thenS_n (W_ret ?_))))))))
    cases h
    exact ⟨[0, 1], True, by kernel_rfl, trivial⟩

/- impl.addPath -/
def impl_addPath (n : Nat) (x1 : List Nod) (s2 : Str) (i3 : Int) : Option ((List Nod) × Bool) :=
bindO (impl_upperNode n x1 s2) fun i26 =>
bindO (strings_LastIndexByte n s2 47) fun i28 =>
guardO (0 ≤ (w64 (i28 + 1)) ∧ (w64 (i28 + 1)) ≤ ((s2.length : Nat) : Int)) <|
bindO (impl_AddNode n x1 i26 (s2.drop ((w64 (i28 + 1)).toNat)) i3) fun (x31, i32, b33) =>
bindO (iteO (!b33)
 (some true)
 (bindO (impl_PathText n x31 i32) fun s41 =>
some (!decide (s41 = s2)))) fun b38 =>
iteO b38
 (some (([] : List Nod), false))
 (some (x31, true))

theorem impl_addPath_ok (n : Nat) (x1 : List Nod) (s2 : Str) (i3 : Int) (x24 : List Nod) (b25 : Bool) (h : impl_addPath n x1 s2 i3 = some (x24, b25)) : FOk EE 27 [.one (.e (.sl 0 0 x1.length)), S s2, I i3] [.row .nod x1 false] (.tup [.e (.sl 1 0 x24.length), .e (cB b25)]) [.row .nod x1 false, .row .nod x24 true] := by
  unfold impl_addPath at h
  refine FOk_of_W 36 1 Tryd.func27 rfl rfl (Nat.le_of_ble_eq_true rfl) rfl (fun w X θ => ?_)
  refine W_seq (W_region (WO_step 2 [0] [0, 1, 2] True ⟨[(0, .one (.e (.sl 0 0 x1.length))), (1, S s2), (2, I i3)], [.row .nod x1 false]⟩ (by kernel_rfl) trivial (WO_nil rfl (thenS_n (W_seq (W_region ?_))))))
  refine WO_step 3 [0] [1, 2, 12, 13, 14] True ⟨[(1, S s2), (2, I i3), (12, .one (.e (.sl 0 0 x1.length))), (13, .one (.e (.sl 0 0 x1.length))), (14, S s2)], [.row .nod x1 false]⟩ (by kernel_rfl) trivial (bindO_e h (fun i26 hc27 h => (WO_call [.ro 0] Tryd.f53 rfl rfl rfl (by kernel_rfl) Tryd.func53 rfl (by kernel_rfl) (impl_upperNode_ok n x1 s2 i26 hc27) (And.intro (And.intro rfl rfl) (trivial)) rfl (WO_step 2 [0] [1, 2, 12, 15, 16, 17] True ⟨[(1, S s2), (2, I i3), (12, .one (.e (.sl 0 0 x1.length))), (15, I i26), (16, S s2), (17, S s2)], [.row .nod x1 false]⟩ (by kernel_rfl) trivial (bindO_e h (fun i28 hc29 h => (WO_call [] Tryd.f54 rfl rfl rfl (by kernel_rfl) Tryd.func54 rfl (by kernel_rfl) (strings_LastIndexByte_ok n s2 47 i28 hc29) (trivial) rfl (guardO_e h (fun hg30 h => ?_)))))))))
  refine WO_step 3 [0] [1, 12, 15, 20, 21] (True ∧ ((0 ≤ (w64 (i28 + 1)) ∧ (w64 (i28 + 1)) ≤ ((s2.length : Nat) : Int)) ∧ True)) ⟨[(1, S s2), (12, .one (.e (.sl 0 0 x1.length))), (15, I i26), (20, S (s2.drop ((w64 (i28 + 1)).toNat))), (21, I i3)], [.row .nod x1 false]⟩ (by kernel_rfl) ⟨trivial, hg30, trivial⟩ (bindO_e h (fun v45 hc34 h => ?_))
  obtain ⟨x31, i32, b33⟩ := v45
  refine WO_call [.ro 0] Tryd.f52 rfl rfl rfl (by kernel_rfl) Tryd.func52 rfl (by kernel_rfl) (impl_AddNode_ok n x1 i26 (s2.drop ((w64 (i28 + 1)).toNat)) i3 x31 i32 b33 hc34) (And.intro (And.intro rfl rfl) (trivial)) rfl (WO_step 7 [0, 1] [1, 8, 9, 10] True ⟨[(1, S s2), (8, .one (.e (.sl 1 0 x31.length))), (9, I i32), (10, B b33)], [.row .nod x1 false, .row .nod x31 true]⟩ (by kernel_rfl) trivial (WO_nil rfl (thenS_n (W_seq (W_seq (W_region ?_))))))
  refine WO_step 3 [0, 1] [1, 8, 9, 28] True ⟨[(1, S s2), (8, .one (.e (.sl 1 0 x31.length))), (9, I i32), (28, B (!b33))], [.row .nod x1 false, .row .nod x31 true]⟩ (by kernel_rfl) trivial (bindO_e h (fun b38 hv39 h => (WO_thru ⟨[(8, .one (.e (.sl 1 0 x31.length))), (34, B b38)], [.row .nod x1 false, .row .nod x31 true]⟩ ?_ ?_)))
  ·refine iteO_e hv39 (fun hb40 hv39 => WO_known 28 true rfl hb40 ?_) (fun hb40 hv39 => WO_known 28 false rfl hb40 ?_)
   ·refine WO_step 6 [0, 1] [8, 34] True ⟨[(8, .one (.e (.sl 1 0 x31.length))), (34, B true)], [.row .nod x1 false, .row .nod x31 true]⟩ (by kernel_rfl) trivial ?_
    cases hv39
    exact WO_nil rfl ⟨rfl, rfl⟩
   ·refine WO_step 2 [0, 1] [1, 8, 28, 29, 30] True ⟨[(1, S s2), (8, .one (.e (.sl 1 0 x31.length))), (28, B false), (29, .one (.e (.sl 1 0 x31.length))), (30, I i32)], [.row .nod x1 false, .row .nod x31 true]⟩ (by kernel_rfl) trivial (bindO_e hv39 (fun s41 hc42 hv39 => (WO_call [.ro 1] Tryd.f18 rfl rfl rfl (by kernel_rfl) Tryd.func18 rfl (by kernel_rfl) (impl_PathText_ok n x31 i32 s41 hc42) (And.intro (And.intro rfl rfl) (trivial)) rfl (WO_step 3 [0, 1] [8, 34] (True ∧ True) ⟨[(8, .one (.e (.sl 1 0 x31.length))), (34, B (!decide (s41 = s2)))], [.row .nod x1 false, .row .nod x31 true]⟩ (by kernel_rfl) ⟨trivial, trivial⟩ ?_))))
    cases hv39
    exact WO_nil rfl ⟨rfl, rfl⟩
  ·refine thenS_n (iteO_e h (fun hb44 h => W_true rfl hb44 ?_) (fun hb44 h => W_false rfl hb44 ?_))
   ·refine W_seq (W_region (WO_step 2 [0] [6, 7] True ⟨[(6, .one (.e (.nsl))), (7, B false)], [.row .nod x1 false]⟩ (by kernel_rfl) trivial (WO_nilrow 6 .nod rfl (WO_sub [0, 1] [6, 7] (st' := ⟨[(6, .one (.e (.sl 1 0 (([] : List Nod).length)))), (7, B false)], [.row .nod x1 false, .row .nod ([] : List Nod) true]⟩) (by kernel_rfl) (WO_nil rfl (thenS_n (W_ret (thenS_r ?_))))))))
    cases h
    exact ⟨[0, 1], True, by kernel_rfl, trivial⟩
   ·refine W_sub [0, 1] [8] (st' := ⟨[(8, .one (.e (.sl 1 0 x31.length)))], [.row .nod x1 false, .row .nod x31 true]⟩) (by kernel_rfl) (W_skip (thenS_n (W_seq (W_region (WO_step 3 [0, 1] [6, 7] True ⟨[(6, .one (.e (.sl 1 0 x31.length))), (7, B true)], [.row .nod x1 false, .row .nod x31 true]⟩ (by kernel_rfl) trivial (WO_nil rfl (thenS_n (W_ret ?_))))))))
    cases h
    exact ⟨[0, 1], True, by kernel_rfl, trivial⟩

/- impl.ParseTree -/
def impl_ParseTree_L1 (s1 : Str) (x180 : List Str) : Nat → (List Nod) → Int → Option ((Unit) ⊕ ((List Nod)))
| 0, _, _ => none
| n + 1, x238, i239 =>
iteO (decide (i239 < ((x180.length : Nat) : Int)))
 (guardO (0 ≤ i239 ∧ i239 < ((x180.length : Nat) : Int)) <|
bindO (strings_Cut (x180.getD i239.toNat []) [32]) fun (s321, s322, b323) =>
bindO (strconv_Atoi s322) fun (i325, b326) =>
iteO ((!b323) || b326)
 (some (.inl ()))
 (bindO (iteO (decide (i239 = 0))
 (some (.inl [(⟨(-1), [], i325⟩ : Nod)]))
 (bindO (impl_addPath n x238 s321 i325) fun (x343, b344) =>
iteO (!b344)
 (some (.inr ()))
 (some (.inl x343))) : Option (((List Nod)) ⊕ (Unit))) fun v341 =>
match v341 with
 | (.inl x340) => (impl_ParseTree_L1 s1 x180 n x340 (w64 (i239 + 1)))
 | (.inr _) => (some (.inl ()))
))
 (some (.inr x238))

theorem impl_ParseTree_L1_ok (w : World) (X : Nat → Prop) (θ : List Loc) (s1 : Str) (x180 : List Str) (v : (Unit) ⊕ ((List Nod))) : ∀ (n : Nat) (x238 : List Nod) (i239 : Int), impl_ParseTree_L1 s1 x180 n x238 i239 = some v → WL EE ⟨w, X, θ, 62, 0⟩ (subC [1, 1, 0, 1, 4, 4] (bodyC Tryd.f8)) (fun (e : Exit) (s : St) => (match v with | (.inl _) => e = .ret ∧ s = ⟨[(2, .one (.e (.sl 0 0 (([] : List Nod).length)))), (3, B false)], [.row .nod ([] : List Nod) true]⟩ | (.inr x292) => e = .exit 0 ∧ s = ⟨[(0, S s1), (4, .one (.e (.sl 0 0 x292.length)))], [.row .nod x292 true]⟩ : Prop)) ⟨[(0, S s1), (4, .one (.e (.sl 0 0 x238.length))), (13, .one (.e (.sl 1 0 x180.length))), (14, I ((x180.length : Nat) : Int)), (15, I i239)], [.row .nod x238 true, .row .str x180 true]⟩ := by
  intro n
  induction n with
  | zero => intro _ _ h; exact none_e h
  | succ n ih =>
    intro x238 i239 h
    rw [impl_ParseTree_L1] at h
    refine WL_round ?_
    refine W_seq (W_region (WO_step 1 [0, 1] [0, 4, 13, 14, 15, 16] (True ∧ True) ⟨[(0, S s1), (4, .one (.e (.sl 0 0 x238.length))), (13, .one (.e (.sl 1 0 x180.length))), (14, I ((x180.length : Nat) : Int)), (15, I i239), (16, B (decide (i239 < ((x180.length : Nat) : Int))))], [.row .nod x238 true, .row .str x180 true]⟩ (by kernel_rfl) ⟨trivial, trivial⟩ (WO_nil rfl (thenS_n (W_seq (iteO_e h (fun hb295 h => W_true rfl hb295 ?_) (fun hb295 h => W_false rfl hb295 ?_)))))))
    ·refine W_sub [0, 1] [0, 4, 13, 14, 15] (st' := ⟨[(0, S s1), (4, .one (.e (.sl 0 0 x238.length))), (13, .one (.e (.sl 1 0 x180.length))), (14, I ((x180.length : Nat) : Int)), (15, I i239)], [.row .nod x238 true, .row .str x180 true]⟩) (by kernel_rfl) (W_skip (thenS_n (W_seq (W_block (W_seq (W_region (guardO_e h (fun hg320 h => (WO_step 5 [0, 1] [0, 4, 5, 6, 13, 14, 15] ((0 ≤ i239 ∧ i239 < ((x180.length : Nat) : Int)) ∧ (True ∧ True)) ⟨[(0, S s1), (4, .one (.e (.sl 0 0 x238.length))), (5, I i239), (6, S (x180.getD i239.toNat [])), (13, .one (.e (.sl 1 0 x180.length))), (14, I ((x180.length : Nat) : Int)), (15, I i239)], [.row .nod x238 true, .row .str x180 true]⟩ (by kernel_rfl) ⟨hg320, trivial, trivial⟩ (WO_nil rfl (thenS_n (W_seq (W_region (WO_step 1 [0, 1] [0, 4, 5, 13, 14, 15, 21] True ⟨[(0, S s1), (4, .one (.e (.sl 0 0 x238.length))), (5, I i239), (13, .one (.e (.sl 1 0 x180.length))), (14, I ((x180.length : Nat) : Int)), (15, I i239), (21, S (x180.getD i239.toNat []))], [.row .nod x238 true, .row .str x180 true]⟩ (by kernel_rfl) trivial (bindO_e h (fun v350 hc324 h => ?_))))))))))))))))
     obtain ⟨s321, s322, b323⟩ := v350
     refine WO_call [] Tryd.f25 rfl rfl rfl (by kernel_rfl) Tryd.func25 rfl (by kernel_rfl) (strings_Cut_ok (x180.getD i239.toNat []) [32] s321 s322 b323 hc324) (trivial) rfl (WO_step 7 [0, 1] [0, 4, 5, 7, 8, 9, 13, 14, 15] True ⟨[(0, S s1), (4, .one (.e (.sl 0 0 x238.length))), (5, I i239), (7, S s321), (8, S s322), (9, B b323), (13, .one (.e (.sl 1 0 x180.length))), (14, I ((x180.length : Nat) : Int)), (15, I i239)], [.row .nod x238 true, .row .str x180 true]⟩ (by kernel_rfl) trivial (WO_nil rfl (thenS_n (W_seq (W_region (WO_step 1 [0, 1] [0, 4, 5, 7, 9, 13, 14, 15, 27] True ⟨[(0, S s1), (4, .one (.e (.sl 0 0 x238.length))), (5, I i239), (7, S s321), (9, B b323), (13, .one (.e (.sl 1 0 x180.length))), (14, I ((x180.length : Nat) : Int)), (15, I i239), (27, S s322)], [.row .nod x238 true, .row .str x180 true]⟩ (by kernel_rfl) trivial (bindO_e h (fun v349 hc327 h => ?_))))))))
     obtain ⟨i325, b326⟩ := v349
     refine WO_call [] Tryd.f26 rfl rfl rfl (by kernel_rfl) Tryd.func26 rfl (by kernel_rfl) (strconv_Atoi_ok s322 i325 b326 hc327) (trivial) rfl (WO_step 5 [0, 1] [0, 4, 5, 7, 9, 10, 11, 13, 14, 15] True ⟨[(0, S s1), (4, .one (.e (.sl 0 0 x238.length))), (5, I i239), (7, S s321), (9, B b323), (10, I i325), (11, .one (.e (.err b326))), (13, .one (.e (.sl 1 0 x180.length))), (14, I ((x180.length : Nat) : Int)), (15, I i239)], [.row .nod x238 true, .row .str x180 true]⟩ (by kernel_rfl) trivial (WO_nil rfl (thenS_n (W_seq (W_seq (W_region (WO_step 3 [0, 1] [0, 4, 5, 7, 10, 11, 13, 14, 15, 33] True ⟨[(0, S s1), (4, .one (.e (.sl 0 0 x238.length))), (5, I i239), (7, S s321), (10, I i325), (11, .one (.e (.err b326))), (13, .one (.e (.sl 1 0 x180.length))), (14, I ((x180.length : Nat) : Int)), (15, I i239), (33, B (!b323))], [.row .nod x238 true, .row .str x180 true]⟩ (by kernel_rfl) trivial (WO_thru ⟨[(0, S s1), (4, .one (.e (.sl 0 0 x238.length))), (5, I i239), (7, S s321), (10, I i325), (13, .one (.e (.sl 1 0 x180.length))), (14, I ((x180.length : Nat) : Int)), (15, I i239), (36, B ((!b323) || b326))], [.row .nod x238 true, .row .str x180 true]⟩ ?_ ?_))))))))
     ·refine WO_if 33 rfl (fun hb330 => ?_) (fun hb330 => ?_)
      ·refine WO_step 3 [0, 1] [0, 4, 5, 7, 10, 13, 14, 15, 36] True ⟨[(0, S s1), (4, .one (.e (.sl 0 0 x238.length))), (5, I i239), (7, S s321), (10, I i325), (13, .one (.e (.sl 1 0 x180.length))), (14, I ((x180.length : Nat) : Int)), (15, I i239), (36, B true)], [.row .nod x238 true, .row .str x180 true]⟩ (by kernel_rfl) trivial ?_
       exact WO_nil rfl ⟨rfl, by first | rfl | (rw [hb330]; first | done | rfl)⟩
      ·refine WO_step 3 [0, 1] [0, 4, 5, 7, 10, 13, 14, 15, 36] (True ∧ True) ⟨[(0, S s1), (4, .one (.e (.sl 0 0 x238.length))), (5, I i239), (7, S s321), (10, I i325), (13, .one (.e (.sl 1 0 x180.length))), (14, I ((x180.length : Nat) : Int)), (15, I i239), (36, B b326)], [.row .nod x238 true, .row .str x180 true]⟩ (by kernel_rfl) ⟨trivial, trivial⟩ ?_
       exact WO_nil rfl ⟨rfl, by first | rfl | (rw [hb330]; first | done | rfl)⟩
     ·refine thenS_n (iteO_e h (fun hb332 h => W_true rfl hb332 ?_) (fun hb332 h => W_false rfl hb332 ?_))
      ·refine W_seq (W_region (WO_step 2 [] [2, 3] True ⟨[(2, .one (.e (.nsl))), (3, B false)], []⟩ (by kernel_rfl) trivial (WO_nilrow 2 .nod rfl (WO_sub [0] [2, 3] (st' := ⟨[(2, .one (.e (.sl 0 0 (([] : List Nod).length)))), (3, B false)], [.row .nod ([] : List Nod) true]⟩) (by kernel_rfl) (WO_nil rfl (thenS_n (W_ret (thenS_r (blockS_r (thenS_r (thenS_r ?_)))))))))))
       cases h
       exact And.intro rfl rfl
      ·refine W_sub [0, 1] [0, 4, 5, 7, 10, 13, 14, 15] (st' := ⟨[(0, S s1), (4, .one (.e (.sl 0 0 x238.length))), (5, I i239), (7, S s321), (10, I i325), (13, .one (.e (.sl 1 0 x180.length))), (14, I ((x180.length : Nat) : Int)), (15, I i239)], [.row .nod x238 true, .row .str x180 true]⟩) (by kernel_rfl) (W_skip (thenS_n (W_seq (W_region (WO_step 2 [0, 1] [0, 4, 7, 10, 13, 14, 15, 38] (True ∧ True) ⟨[(0, S s1), (4, .one (.e (.sl 0 0 x238.length))), (7, S s321), (10, I i325), (13, .one (.e (.sl 1 0 x180.length))), (14, I ((x180.length : Nat) : Int)), (15, I i239), (38, B (decide (i239 = 0)))], [.row .nod x238 true, .row .str x180 true]⟩ (by kernel_rfl) ⟨trivial, trivial⟩ (WO_nil rfl (thenS_n (bindO_e h (fun v341 hv341 h => (W_cut (Q' := fun (e : Exit) (s : St) => (match v341 with | (.inl x340) => e = .normal ∧ s = ⟨[(0, S s1), (4, .one (.e (.sl 0 0 x340.length))), (13, .one (.e (.sl 1 0 x180.length))), (14, I ((x180.length : Nat) : Int)), (15, I i239)], [.row .nod x340 true, .row .str x180 true]⟩ | (.inr _) => e = .ret ∧ s = ⟨[(2, .one (.e (.sl 0 0 (([] : List Nod).length)))), (3, B false)], [.row .nod ([] : List Nod) true]⟩ : Prop)) ?_ ?_))))))))))
       ·refine iteO_e hv341 (fun hb342 hv341 => W_true rfl hb342 ?_) (fun hb342 hv341 => W_false rfl hb342 ?_)
        ·refine W_region (WO_step 4 [2, 1] [0, 4, 13, 14, 15] True ⟨[(0, S s1), (4, .one (.e (.sl 0 0 ([(⟨(-1), [], i325⟩ : Nod)].length)))), (13, .one (.e (.sl 1 0 x180.length))), (14, I ((x180.length : Nat) : Int)), (15, I i239)], [.row .nod [(⟨(-1), [], i325⟩ : Nod)] true, .row .str x180 true]⟩ (by kernel_rfl) trivial (WO_nil rfl ?_))
         cases hv341
         exact And.intro rfl rfl
        ·refine W_seq (W_region (WO_step 3 [1, 0] [0, 13, 14, 15, 43, 44, 45] True ⟨[(0, S s1), (13, .one (.e (.sl 0 0 x180.length))), (14, I ((x180.length : Nat) : Int)), (15, I i239), (43, .one (.e (.sl 1 0 x238.length))), (44, S s321), (45, I i325)], [.row .str x180 true, .row .nod x238 true]⟩ (by kernel_rfl) trivial (bindO_e hv341 (fun v348 hc345 hv341 => ?_))))
         obtain ⟨x343, b344⟩ := v348
         refine WO_call [.ro 1] Tryd.f27 rfl rfl rfl (by kernel_rfl) Tryd.func27 rfl (by kernel_rfl) (impl_addPath_ok n x238 s321 i325 x343 b344 hc345) (And.intro (And.intro rfl rfl) (trivial)) rfl (WO_step 5 [2, 0] [0, 4, 9, 13, 14, 15] True ⟨[(0, S s1), (4, .one (.e (.sl 0 0 x343.length))), (9, B b344), (13, .one (.e (.sl 1 0 x180.length))), (14, I ((x180.length : Nat) : Int)), (15, I i239)], [.row .nod x343 true, .row .str x180 true]⟩ (by kernel_rfl) trivial (WO_nil rfl (thenS_n (W_seq (W_region (WO_step 2 [0, 1] [0, 4, 13, 14, 15, 50] True ⟨[(0, S s1), (4, .one (.e (.sl 0 0 x343.length))), (13, .one (.e (.sl 1 0 x180.length))), (14, I ((x180.length : Nat) : Int)), (15, I i239), (50, B (!b344))], [.row .nod x343 true, .row .str x180 true]⟩ (by kernel_rfl) trivial (WO_nil rfl (thenS_n (iteO_e hv341 (fun hb347 hv341 => W_true rfl hb347 ?_) (fun hb347 hv341 => W_false rfl hb347 ?_))))))))))
         ·refine W_seq (W_region (WO_step 2 [] [2, 3] True ⟨[(2, .one (.e (.nsl))), (3, B false)], []⟩ (by kernel_rfl) trivial (WO_nilrow 2 .nod rfl (WO_sub [0] [2, 3] (st' := ⟨[(2, .one (.e (.sl 0 0 (([] : List Nod).length)))), (3, B false)], [.row .nod ([] : List Nod) true]⟩) (by kernel_rfl) (WO_nil rfl (thenS_n (W_ret ?_)))))))
          cases hv341
          exact And.intro rfl rfl
         ·refine W_sub [0, 1] [0, 4, 13, 14, 15] (st' := ⟨[(0, S s1), (4, .one (.e (.sl 0 0 x343.length))), (13, .one (.e (.sl 1 0 x180.length))), (14, I ((x180.length : Nat) : Int)), (15, I i239)], [.row .nod x343 true, .row .str x180 true]⟩) (by kernel_rfl) (W_skip ?_)
          cases hv341
          exact And.intro rfl rfl
       ·rcases v341 with x340 | _
        ·rintro _ _ ⟨rfl, rfl⟩
         refine blockS_n (thenS_n (W_region (WO_step 2 [0, 1] [0, 4, 13, 14, 15] (True ∧ True) ⟨[(0, S s1), (4, .one (.e (.sl 0 0 x340.length))), (13, .one (.e (.sl 1 0 x180.length))), (14, I ((x180.length : Nat) : Int)), (15, I (w64 (i239 + 1)))], [.row .nod x340 true, .row .str x180 true]⟩ (by kernel_rfl) ⟨trivial, trivial⟩ (WO_nil rfl (thenS_n ?_)))))
         exact ih _ _ h
        ·rintro _ _ ⟨rfl, rfl⟩
         refine blockS_r (thenS_r (thenS_r ?_))
         cases h
         exact And.intro rfl rfl
    ·refine W_sub [0] [0, 4] (st' := ⟨[(0, S s1), (4, .one (.e (.sl 0 0 x238.length)))], [.row .nod x238 true]⟩) (by kernel_rfl) (W_exit (thenS_e (thenS_e ?_)))
     cases h
     exact And.intro rfl rfl

def impl_ParseTree (n : Nat) (s1 : Str) : Option ((List Nod) × Bool) :=
bindO (strings_SplitN s1 [59, 32] 13) fun x180 =>
bindO (impl_ParseTree_L1 s1 x180 n ([] : List Nod) 0) fun v351 =>
match v351 with
 | (.inl _) => (some (([] : List Nod), false))
 | (.inr x292) => (bindO (impl_ValidTree n x292) fun b352 =>
bindO (iteO (!b352)
 (some true)
 (bindO (impl_FormatTree n x292) fun s360 =>
some (!decide (s360 = s1)))) fun b357 =>
iteO b357
 (some (([] : List Nod), false))
 (some (x292, true)))


theorem impl_ParseTree_ok (n : Nat) (s1 : Str) (x178 : List Nod) (b179 : Bool) (h : impl_ParseTree n s1 = some (x178, b179)) : FOk EE 8 [S s1] [] (.tup [.e (.sl 0 0 x178.length), .e (cB b179)]) [.row .nod x178 true] := by
  unfold impl_ParseTree at h
  refine FOk_of_W 62 0 Tryd.func8 rfl rfl (Nat.le_of_ble_eq_true rfl) rfl (fun w X θ => ?_)
  refine W_seq (W_region (WO_step 2 [] [0] True ⟨[(0, S s1)], []⟩ (by kernel_rfl) trivial (WO_nil rfl (thenS_n (W_seq (W_region ?_))))))
  refine WO_step 1 [] [0, 4] True ⟨[(0, S s1), (4, .one (.e (.nsl)))], []⟩ (by kernel_rfl) trivial (WO_nilrow 4 .nod rfl (WO_sub [0] [0, 4] (st' := ⟨[(0, S s1), (4, .one (.e (.sl 0 0 (([] : List Nod).length))))], [.row .nod ([] : List Nod) true]⟩) (by kernel_rfl) (WO_nil rfl (thenS_n (W_seq (W_seq ?_))))))
  refine W_region (WO_step 1 [0] [0, 4, 12] True ⟨[(0, S s1), (4, .one (.e (.sl 0 0 (([] : List Nod).length)))), (12, S s1)], [.row .nod ([] : List Nod) true]⟩ (by kernel_rfl) trivial (bindO_e h (fun x180 hc181 h => (WO_call [] Tryd.f24 rfl rfl rfl (by kernel_rfl) Tryd.func24 rfl (by kernel_rfl) (strings_SplitN_ok s1 [59, 32] 13 x180 hc181) (trivial) rfl (WO_step 2 [0, 1] [0, 4, 13, 14, 15] (True ∧ True) ⟨[(0, S s1), (4, .one (.e (.sl 0 0 (([] : List Nod).length)))), (13, .one (.e (.sl 1 0 x180.length))), (14, I ((x180.length : Nat) : Int)), (15, I 0)], [.row .nod ([] : List Nod) true, .row .str x180 true]⟩ (by kernel_rfl) ⟨trivial, trivial⟩ (WO_nil rfl (thenS_n ?_)))))))
  refine W_block (W_loop (bindO_e h (fun v351 hv351 h => (WL_cut (impl_ParseTree_L1_ok w X θ s1 x180 v351 n ([] : List Nod) 0 hv351) ?_))))
  rcases v351 with _ | x292
  ·rintro _ _ ⟨rfl, rfl⟩
   refine blockS_r (thenS_r ?_)
   cases h
   exact ⟨[0], True, by kernel_rfl, trivial⟩
  ·rintro _ _ ⟨rfl, rfl⟩
   refine blockS_y (thenS_n (W_seq (W_seq (W_region (WO_step 1 [0] [0, 4, 52] True ⟨[(0, S s1), (4, .one (.e (.sl 0 0 x292.length))), (52, .one (.e (.sl 0 0 x292.length)))], [.row .nod x292 true]⟩ (by kernel_rfl) trivial (bindO_e h (fun b352 hc353 h => (WO_call [.ro 0] Tryd.f16 rfl rfl rfl (by kernel_rfl) Tryd.func16 rfl (by kernel_rfl) (impl_ValidTree_ok n x292 b352 hc353) (And.intro (And.intro rfl rfl) (trivial)) rfl (WO_step 2 [0] [0, 4, 55] True ⟨[(0, S s1), (4, .one (.e (.sl 0 0 x292.length))), (55, B (!b352))], [.row .nod x292 true]⟩ (by kernel_rfl) trivial (bindO_e h (fun b357 hv358 h => (WO_thru ⟨[(4, .one (.e (.sl 0 0 x292.length))), (60, B b357)], [.row .nod x292 true]⟩ ?_ ?_))))))))))))
   ·refine iteO_e hv358 (fun hb359 hv358 => WO_known 55 true rfl hb359 ?_) (fun hb359 hv358 => WO_known 55 false rfl hb359 ?_)
    ·refine WO_step 5 [0] [4, 60] True ⟨[(4, .one (.e (.sl 0 0 x292.length))), (60, B true)], [.row .nod x292 true]⟩ (by kernel_rfl) trivial ?_
     cases hv358
     exact WO_nil rfl ⟨rfl, rfl⟩
    ·refine WO_step 1 [0] [0, 4, 55, 56] True ⟨[(0, S s1), (4, .one (.e (.sl 0 0 x292.length))), (55, B false), (56, .one (.e (.sl 0 0 x292.length)))], [.row .nod x292 true]⟩ (by kernel_rfl) trivial (bindO_e hv358 (fun s360 hc361 hv358 => (WO_call [.ro 0] Tryd.f6 rfl rfl rfl (by kernel_rfl) Tryd.func6 rfl (by kernel_rfl) (impl_FormatTree_ok n x292 s360 hc361) (And.intro (And.intro rfl rfl) (trivial)) rfl (WO_step 3 [0] [4, 60] (True ∧ True) ⟨[(4, .one (.e (.sl 0 0 x292.length))), (60, B (!decide (s360 = s1)))], [.row .nod x292 true]⟩ (by kernel_rfl) ⟨trivial, trivial⟩ ?_))))
     cases hv358
     exact WO_nil rfl ⟨rfl, rfl⟩
   ·refine thenS_n (iteO_e h (fun hb363 h => W_true rfl hb363 ?_) (fun hb363 h => W_false rfl hb363 ?_))
    ·refine W_seq (W_region (WO_step 2 [] [2, 3] True ⟨[(2, .one (.e (.nsl))), (3, B false)], []⟩ (by kernel_rfl) trivial (WO_nilrow 2 .nod rfl (WO_sub [0] [2, 3] (st' := ⟨[(2, .one (.e (.sl 0 0 (([] : List Nod).length)))), (3, B false)], [.row .nod ([] : List Nod) true]⟩) (by kernel_rfl) (WO_nil rfl (thenS_n (W_ret (thenS_r ?_))))))))
     cases h
     exact ⟨[0], True, by kernel_rfl, trivial⟩
    ·refine W_sub [0] [4] (st' := ⟨[(4, .one (.e (.sl 0 0 x292.length)))], [.row .nod x292 true]⟩) (by kernel_rfl) (W_skip (thenS_n (W_seq (W_region (WO_step 3 [0] [2, 3] True ⟨[(2, .one (.e (.sl 0 0 x292.length))), (3, B true)], [.row .nod x292 true]⟩ (by kernel_rfl) trivial (WO_nil rfl (thenS_n (W_ret ?_))))))))
     cases h
     exact ⟨[0], True, by kernel_rfl, trivial⟩

/- laws.equalNodes -/
def laws_equalNodes_L1 (x1 : List Nod) (x2 : List Nod) : Nat → Int → Option ((Unit) ⊕ (Unit))
| 0, _ => none
| n + 1, i57 =>
iteO (decide (i57 < ((x1.length : Nat) : Int)))
 (guardO (0 ≤ i57 ∧ i57 < ((x1.length : Nat) : Int)) <|
guardO (0 ≤ i57 ∧ i57 < ((x2.length : Nat) : Int)) <|
iteO (!((decide (((x1.getD i57.toNat dnod).parent) = ((x2.getD i57.toNat dnod).parent))) && ((decide (((x1.getD i57.toNat dnod).name) = ((x2.getD i57.toNat dnod).name))) && ((decide (((x1.getD i57.toNat dnod).value) = ((x2.getD i57.toNat dnod).value))) && true))))
 (some (.inl ()))
 (laws_equalNodes_L1 x1 x2 n (w64 (i57 + 1))))
 (some (.inr ()))

theorem laws_equalNodes_L1_ok (w : World) (X : Nat → Prop) (θ : List Loc) (x1 : List Nod) (x2 : List Nod) (v : (Unit) ⊕ (Unit)) : ∀ (n : Nat) (i57 : Int), laws_equalNodes_L1 x1 x2 n i57 = some v → WL EE ⟨w, X, θ, 26, 2⟩ (subC [1, 1, 0, 1, 4, 4] (bodyC Tryd.f9)) (fun (e : Exit) (s : St) => (match v with | (.inl _) => e = .ret ∧ s = ⟨[(4, B false)], [.row .nod x1 false, .row .nod x2 false]⟩ | (.inr _) => e = .exit 0 ∧ s = ⟨[], [.row .nod x1 false, .row .nod x2 false]⟩ : Prop)) ⟨[(0, .one (.e (.sl 0 0 x1.length))), (1, .one (.e (.sl 1 0 x2.length))), (5, I i57)], [.row .nod x1 false, .row .nod x2 false]⟩ := by
  intro n
  induction n with
  | zero => intro _ h; exact none_e h
  | succ n ih =>
    intro i57 h
    rw [laws_equalNodes_L1] at h
    refine WL_round ?_
    refine W_seq (W_seq (W_region (WO_step 4 [0, 1] [0, 1, 5, 14] (True ∧ (True ∧ True)) ⟨[(0, .one (.e (.sl 0 0 x1.length))), (1, .one (.e (.sl 1 0 x2.length))), (5, I i57), (14, B (decide (i57 < ((x1.length : Nat) : Int))))], [.row .nod x1 false, .row .nod x2 false]⟩ (by kernel_rfl) ⟨trivial, trivial, trivial⟩ (WO_nil rfl (thenS_n (iteO_e h (fun hb71 h => W_true rfl hb71 ?_) (fun hb71 h => W_false rfl hb71 ?_)))))))
    ·refine W_sub [0, 1] [0, 1, 5] (st' := ⟨[(0, .one (.e (.sl 0 0 x1.length))), (1, .one (.e (.sl 1 0 x2.length))), (5, I i57)], [.row .nod x1 false, .row .nod x2 false]⟩) (by kernel_rfl) (W_skip (thenS_n (W_seq (W_block (W_seq (guardO_e h (fun hg76 h => (guardO_e h (fun hg77 h => (W_cut (Q' := fun (e : Exit) (s : St) => e = .normal ∧ s = ⟨[(0, .one (.e (.sl 0 0 x1.length))), (1, .one (.e (.sl 1 0 x2.length))), (5, I i57), (25, B (!((decide (((x1.getD i57.toNat dnod).parent) = ((x2.getD i57.toNat dnod).parent))) && ((decide (((x1.getD i57.toNat dnod).name) = ((x2.getD i57.toNat dnod).name))) && ((decide (((x1.getD i57.toNat dnod).value) = ((x2.getD i57.toNat dnod).value))) && true)))))], [.row .nod x1 false, .row .nod x2 false]⟩) ?_ ?_))))))))))
     ·refine W_draw [] true (by kernel_rfl) (by kernel_rfl) (WD_takeK [0, 1, 2, 3, 4, 5, 6, 7, 8] [0, 1, 5, 25] [0, 1, 5, 25] (φ := ((0 ≤ i57 ∧ i57 < ((x1.length : Nat) : Int)) ∧ (0 ≤ i57 ∧ i57 < ((x1.length : Nat) : Int)) ∧ (True ∧ True ∧ ((0 ≤ i57 ∧ i57 < ((x2.length : Nat) : Int)) ∧ (0 ≤ i57 ∧ i57 < ((x2.length : Nat) : Int)) ∧ (True ∧ True ∧ (True ∧ True ∧ True)))))) (ls' := #[true, true, true, true, true, true, true, true, true]) (Ts' := [(0, .one (.e (.sl 0 0 x1.length))), (1, .one (.e (.sl 1 0 x2.length))), (5, I i57), (25, B (!((decide (((x1.getD i57.toNat dnod).parent) = ((x2.getD i57.toNat dnod).parent))) && ((decide (((x1.getD i57.toNat dnod).name) = ((x2.getD i57.toNat dnod).name))) && ((decide (((x1.getD i57.toNat dnod).value) = ((x2.getD i57.toNat dnod).value))) && true)))))]) (st' := ⟨[(0, .one (.e (.sl 0 0 x1.length))), (1, .one (.e (.sl 1 0 x2.length))), (5, I i57), (25, B (!((decide (((x1.getD i57.toNat dnod).parent) = ((x2.getD i57.toNat dnod).parent))) && ((decide (((x1.getD i57.toNat dnod).name) = ((x2.getD i57.toNat dnod).name))) && ((decide (((x1.getD i57.toNat dnod).value) = ((x2.getD i57.toNat dnod).value))) && true)))))], [.row .nod x1 false, .row .nod x2 false]⟩) (n2 := 0) (by kernel_rfl) ⟨hg76, hg76, trivial, trivial, hg77, hg77, trivial, trivial, trivial, trivial, trivial⟩ rfl ?_)
      exact WD_done [0, 1] [0, 1, 5, 25] (st' := ⟨[(0, .one (.e (.sl 0 0 x1.length))), (1, .one (.e (.sl 1 0 x2.length))), (5, I i57), (25, B (!((decide (((x1.getD i57.toNat dnod).parent) = ((x2.getD i57.toNat dnod).parent))) && ((decide (((x1.getD i57.toNat dnod).name) = ((x2.getD i57.toNat dnod).name))) && ((decide (((x1.getD i57.toNat dnod).value) = ((x2.getD i57.toNat dnod).value))) && true)))))], [.row .nod x1 false, .row .nod x2 false]⟩) (by kernel_rfl) (by kernel_rfl) (And.intro rfl rfl)
     ·rintro _ _ ⟨rfl, rfl⟩
      refine thenS_n (iteO_e h (fun hb79 h => W_true rfl hb79 ?_) (fun hb79 h => W_false rfl hb79 ?_))
      ·refine W_seq (W_region (WO_step 1 [0, 1] [4] True ⟨[(4, B false)], [.row .nod x1 false, .row .nod x2 false]⟩ (by kernel_rfl) trivial (WO_nil rfl (thenS_n (W_ret (blockS_r (thenS_r (thenS_r ?_))))))))
       cases h
       exact And.intro rfl rfl
      ·refine W_sub [0, 1] [0, 1, 5] (st' := ⟨[(0, .one (.e (.sl 0 0 x1.length))), (1, .one (.e (.sl 1 0 x2.length))), (5, I i57)], [.row .nod x1 false, .row .nod x2 false]⟩) (by kernel_rfl) (W_skip (blockS_n (thenS_n (W_region (WO_step 3 [0, 1] [0, 1, 5] (True ∧ True) ⟨[(0, .one (.e (.sl 0 0 x1.length))), (1, .one (.e (.sl 1 0 x2.length))), (5, I (w64 (i57 + 1)))], [.row .nod x1 false, .row .nod x2 false]⟩ (by kernel_rfl) ⟨trivial, trivial⟩ (WO_nil rfl (thenS_n ?_)))))))
       exact ih _ h
    ·refine W_sub [0, 1] [] (st' := ⟨[], [.row .nod x1 false, .row .nod x2 false]⟩) (by kernel_rfl) (W_exit (thenS_e (thenS_e ?_)))
     cases h
     exact And.intro rfl rfl

def laws_equalNodes (n : Nat) (x1 : List Nod) (x2 : List Nod) : Option (Bool) :=
iteO (!decide (((x1.length : Nat) : Int) = ((x2.length : Nat) : Int)))
 (some false)
 (bindO (laws_equalNodes_L1 x1 x2 n 0) fun v80 =>
match v80 with
 | (.inl _) => (some false)
 | (.inr _) => (some true)
)

theorem laws_equalNodes_ok (n : Nat) (x1 : List Nod) (x2 : List Nod) (b41 : Bool) (h : laws_equalNodes n x1 x2 = some b41) : FOk EE 9 [.one (.e (.sl 0 0 x1.length)), .one (.e (.sl 1 0 x2.length))] [.row .nod x1 false, .row .nod x2 false] (B b41) [.row .nod x1 false, .row .nod x2 false] := by
  unfold laws_equalNodes at h
  refine FOk_of_W 26 2 Tryd.func9 rfl rfl (Nat.le_of_ble_eq_true rfl) rfl (fun w X θ => ?_)
  refine W_seq (W_region (WO_step 1 [0, 1] [0, 1] True ⟨[(0, .one (.e (.sl 0 0 x1.length))), (1, .one (.e (.sl 1 0 x2.length)))], [.row .nod x1 false, .row .nod x2 false]⟩ (by kernel_rfl) trivial (WO_nil rfl (thenS_n (W_seq (W_seq ?_))))))
  refine W_region (WO_step 5 [0, 1] [0, 1, 10] (True ∧ (True ∧ (True ∧ True))) ⟨[(0, .one (.e (.sl 0 0 x1.length))), (1, .one (.e (.sl 1 0 x2.length))), (10, B (!decide (((x1.length : Nat) : Int) = ((x2.length : Nat) : Int))))], [.row .nod x1 false, .row .nod x2 false]⟩ (by kernel_rfl) ⟨trivial, trivial, trivial, trivial⟩ (WO_nil rfl (thenS_n (iteO_e h (fun hb43 h => W_true rfl hb43 ?_) (fun hb43 h => W_false rfl hb43 ?_)))))
  ·refine W_seq (W_region (WO_step 1 [0, 1] [4] True ⟨[(4, B false)], [.row .nod x1 false, .row .nod x2 false]⟩ (by kernel_rfl) trivial (WO_nil rfl (thenS_n (W_ret (thenS_r ?_))))))
   cases h
   exact ⟨[0, 1], True, by kernel_rfl, trivial⟩
  ·refine W_sub [0, 1] [0, 1] (st' := ⟨[(0, .one (.e (.sl 0 0 x1.length))), (1, .one (.e (.sl 1 0 x2.length)))], [.row .nod x1 false, .row .nod x2 false]⟩) (by kernel_rfl) (W_skip (thenS_n (W_seq (W_seq (W_region (WO_step 1 [0, 1] [0, 1, 5] True ⟨[(0, .one (.e (.sl 0 0 x1.length))), (1, .one (.e (.sl 1 0 x2.length))), (5, I 0)], [.row .nod x1 false, .row .nod x2 false]⟩ (by kernel_rfl) trivial (WO_nil rfl (thenS_n (W_block (W_loop (bindO_e h (fun v80 hv80 h => (WL_cut (laws_equalNodes_L1_ok w X θ x1 x2 v80 n 0 hv80) ?_)))))))))))))
   rcases v80 with _ | _
   ·rintro _ _ ⟨rfl, rfl⟩
    refine blockS_r (thenS_r ?_)
    cases h
    exact ⟨[0, 1], True, by kernel_rfl, trivial⟩
   ·rintro _ _ ⟨rfl, rfl⟩
    refine blockS_y (thenS_n (W_seq (W_region (WO_step 1 [0, 1] [4] True ⟨[(4, B true)], [.row .nod x1 false, .row .nod x2 false]⟩ (by kernel_rfl) trivial (WO_nil rfl (thenS_n (W_ret ?_)))))))
    cases h
    exact ⟨[0, 1], True, by kernel_rfl, trivial⟩

/- laws.FnTreeRoundTrip -/
def laws_FnTreeRoundTrip (n : Nat) (x1 : List Int) : Option (Bool) :=
iteO (decide (1048576 < ((x1.length : Nat) : Int)))
 (some true)
 (bindO (spec_DrawFormatTree n x1) fun (x37, k38, k39) =>
bindO (impl_FormatTree n ((x37.drop k38).take k39)) fun s41 =>
bindO (spec_FormatTree n ((x37.drop k38).take k39)) fun s43 =>
iteO ((!decide (s41 = s43)) || (decide (s41 = [])))
 (bindO (spec_FormatTree n ((x37.drop k38).take k39)) fun s52 =>
some (decide (s41 = s52)))
 (bindO (impl_ParseTree n s41) fun (x54, b55) =>
bindO (iteO b55
 (bindO (laws_equalNodes n x54 ((x37.drop k38).take k39)) fun b63 =>
some b63)
 (some false)) fun b60 =>
some b60))

theorem laws_FnTreeRoundTrip_ok (n : Nat) (x1 : List Int) (b34 : Bool) (h : laws_FnTreeRoundTrip n x1 = some b34) : FOk EE 3 [.one (.e (.sl 0 0 x1.length))] [.row .u8 x1 false] (B b34) [.row .u8 x1 false] := by
  unfold laws_FnTreeRoundTrip at h
  refine FOk_of_W 37 1 Tryd.func3 rfl rfl (Nat.le_of_ble_eq_true rfl) rfl (fun w X θ => ?_)
  refine W_seq (W_region (WO_step 1 [0] [0] True ⟨[(0, .one (.e (.sl 0 0 x1.length)))], [.row .u8 x1 false]⟩ (by kernel_rfl) trivial (WO_nil rfl (thenS_n (W_seq (W_seq ?_))))))
  refine W_region (WO_step 3 [0] [0, 9] (True ∧ (True ∧ True)) ⟨[(0, .one (.e (.sl 0 0 x1.length))), (9, B (decide (1048576 < ((x1.length : Nat) : Int))))], [.row .u8 x1 false]⟩ (by kernel_rfl) ⟨trivial, trivial, trivial⟩ (WO_nil rfl (thenS_n (iteO_e h (fun hb36 h => W_true rfl hb36 ?_) (fun hb36 h => W_false rfl hb36 ?_)))))
  ·refine W_seq (W_region (WO_step 1 [0] [2] True ⟨[(2, B true)], [.row .u8 x1 false]⟩ (by kernel_rfl) trivial (WO_nil rfl (thenS_n (W_ret (thenS_r ?_))))))
   cases h
   exact ⟨[0], True, by kernel_rfl, trivial⟩
  ·refine W_sub [0] [0] (st' := ⟨[(0, .one (.e (.sl 0 0 x1.length)))], [.row .u8 x1 false]⟩) (by kernel_rfl) (W_skip (thenS_n (W_seq (W_region (WO_step 1 [0] [10] True ⟨[(10, .one (.e (.sl 0 0 x1.length)))], [.row .u8 x1 false]⟩ (by kernel_rfl) trivial (bindO_e h (fun v66 hc40 h => ?_)))))))
   obtain ⟨x37, k38, k39⟩ := v66
   refine WO_call [.ro 0] Tryd.f5 rfl rfl rfl (by kernel_rfl) Tryd.func5 rfl (by kernel_rfl) (spec_DrawFormatTree_ok n x1 x37 k38 k39 hc40) (And.intro (And.intro rfl rfl) (trivial)) rfl (WO_step 1 [0, 1] [3] True ⟨[(3, .one (.e (.sl 1 k38 k39)))], [.row .u8 x1 false, .row .nod x37 true]⟩ (by kernel_rfl) trivial (WO_nil rfl (thenS_n (W_seq (W_region (WO_step 1 [0, 1] [3, 12] True ⟨[(3, .one (.e (.sl 1 k38 k39))), (12, .one (.e (.sl 1 k38 k39)))], [.row .u8 x1 false, .row .nod x37 true]⟩ (by kernel_rfl) trivial (bindO_e h (fun s41 hc42 h => (WO_call [.view 0] Tryd.f6 rfl rfl rfl (by kernel_rfl) Tryd.func6 rfl (by kernel_rfl) (impl_FormatTree_ok n ((x37.drop k38).take k39) s41 hc42) (trivial) rfl (WO_step 1 [0, 1] [3, 4] True ⟨[(3, .one (.e (.sl 1 k38 k39))), (4, S s41)], [.row .u8 x1 false, .row .nod x37 true]⟩ (by kernel_rfl) trivial (WO_nil rfl (thenS_n (W_seq (W_seq (W_region (WO_step 2 [0, 1] [3, 4, 14, 15] True ⟨[(3, .one (.e (.sl 1 k38 k39))), (4, S s41), (14, S s41), (15, .one (.e (.sl 1 k38 k39)))], [.row .u8 x1 false, .row .nod x37 true]⟩ (by kernel_rfl) trivial (bindO_e h (fun s43 hc44 h => (WO_call [.view 0] Tryd.f7 rfl rfl rfl (by kernel_rfl) Tryd.func7 rfl (by kernel_rfl) (spec_FormatTree_ok n ((x37.drop k38).take k39) s43 hc44) (trivial) rfl (WO_step 2 [0, 1] [3, 4, 18] (True ∧ True) ⟨[(3, .one (.e (.sl 1 k38 k39))), (4, S s41), (18, B (!decide (s41 = s43)))], [.row .u8 x1 false, .row .nod x37 true]⟩ (by kernel_rfl) ⟨trivial, trivial⟩ (WO_thru ⟨[(3, .one (.e (.sl 1 k38 k39))), (4, S s41), (21, B ((!decide (s41 = s43)) || (decide (s41 = []))))], [.row .u8 x1 false, .row .nod x37 true]⟩ ?_ ?_)))))))))))))))))))))
   ·refine WO_if 18 rfl (fun hb47 => ?_) (fun hb47 => ?_)
    ·refine WO_step 3 [0, 1] [3, 4, 21] True ⟨[(3, .one (.e (.sl 1 k38 k39))), (4, S s41), (21, B true)], [.row .u8 x1 false, .row .nod x37 true]⟩ (by kernel_rfl) trivial ?_
     exact WO_nil rfl ⟨rfl, by first | rfl | (rw [hb47]; first | done | rfl)⟩
    ·refine WO_step 3 [0, 1] [3, 4, 21] (True ∧ True) ⟨[(3, .one (.e (.sl 1 k38 k39))), (4, S s41), (21, B (decide (s41 = [])))], [.row .u8 x1 false, .row .nod x37 true]⟩ (by kernel_rfl) ⟨trivial, trivial⟩ ?_
     exact WO_nil rfl ⟨rfl, by first | rfl | (rw [hb47]; first | done | rfl)⟩
   ·refine thenS_n (iteO_e h (fun hb51 h => W_true rfl hb51 ?_) (fun hb51 h => W_false rfl hb51 ?_))
    ·refine W_seq (W_region (WO_step 2 [0, 1] [22, 23] True ⟨[(22, S s41), (23, .one (.e (.sl 1 k38 k39)))], [.row .u8 x1 false, .row .nod x37 true]⟩ (by kernel_rfl) trivial (bindO_e h (fun s52 hc53 h => (WO_call [.view 0] Tryd.f7 rfl rfl rfl (by kernel_rfl) Tryd.func7 rfl (by kernel_rfl) (spec_FormatTree_ok n ((x37.drop k38).take k39) s52 hc53) (trivial) rfl (WO_step 2 [0] [2] (True ∧ True) ⟨[(2, B (decide (s41 = s52)))], [.row .u8 x1 false]⟩ (by kernel_rfl) ⟨trivial, trivial⟩ (WO_nil rfl (thenS_n (W_ret (thenS_r ?_))))))))))
     cases h
     exact ⟨[0], True, by kernel_rfl, trivial⟩
    ·refine W_sub [0, 1] [3, 4] (st' := ⟨[(3, .one (.e (.sl 1 k38 k39))), (4, S s41)], [.row .u8 x1 false, .row .nod x37 true]⟩) (by kernel_rfl) (W_skip (thenS_n (W_seq (W_region (WO_step 1 [0, 1] [3, 27] True ⟨[(3, .one (.e (.sl 1 k38 k39))), (27, S s41)], [.row .u8 x1 false, .row .nod x37 true]⟩ (by kernel_rfl) trivial (bindO_e h (fun v65 hc56 h => ?_)))))))
     obtain ⟨x54, b55⟩ := v65
     refine WO_call [] Tryd.f8 rfl rfl rfl (by kernel_rfl) Tryd.func8 rfl (by kernel_rfl) (impl_ParseTree_ok n s41 x54 b55 hc56) (trivial) rfl (WO_step 5 [0, 1, 2] [3, 5, 6] True ⟨[(3, .one (.e (.sl 1 k38 k39))), (5, .one (.e (.sl 2 0 x54.length))), (6, B b55)], [.row .u8 x1 false, .row .nod x37 true, .row .nod x54 true]⟩ (by kernel_rfl) trivial (WO_nil rfl (thenS_n (W_seq (W_region (WO_step 2 [0, 1, 2] [3, 5, 32] True ⟨[(3, .one (.e (.sl 1 k38 k39))), (5, .one (.e (.sl 2 0 x54.length))), (32, B b55)], [.row .u8 x1 false, .row .nod x37 true, .row .nod x54 true]⟩ (by kernel_rfl) trivial (bindO_e h (fun b60 hv61 h => (WO_thru ⟨[(2, B b60)], [.row .u8 x1 false]⟩ ?_ ?_)))))))))
     ·refine iteO_e hv61 (fun hb62 hv61 => WO_known 32 true rfl hb62 ?_) (fun hb62 hv61 => WO_known 32 false rfl hb62 ?_)
      ·refine WO_step 2 [0, 2, 1] [32, 33, 34] True ⟨[(32, B true), (33, .one (.e (.sl 1 0 x54.length))), (34, .one (.e (.sl 2 k38 k39)))], [.row .u8 x1 false, .row .nod x54 true, .row .nod x37 true]⟩ (by kernel_rfl) trivial (bindO_e hv61 (fun b63 hc64 hv61 => (WO_call [.ro 1, .view 1] Tryd.f9 rfl rfl rfl (by kernel_rfl) Tryd.func9 rfl (by kernel_rfl) (laws_equalNodes_ok n x54 ((x37.drop k38).take k39) b63 hc64) (And.intro (And.intro rfl rfl) (trivial)) rfl (WO_step 2 [0] [2] True ⟨[(2, B b63)], [.row .u8 x1 false]⟩ (by kernel_rfl) trivial ?_))))
       cases hv61
       exact WO_nil rfl ⟨rfl, rfl⟩
      ·refine WO_step 5 [0] [2] True ⟨[(2, B false)], [.row .u8 x1 false]⟩ (by kernel_rfl) trivial ?_
       cases hv61
       exact WO_nil rfl ⟨rfl, rfl⟩
     ·refine thenS_n (W_ret ?_)
      cases h
      exact ⟨[0], True, by kernel_rfl, trivial⟩

end Go.Proofs.YtghdgncfcfdlfaaDoor
