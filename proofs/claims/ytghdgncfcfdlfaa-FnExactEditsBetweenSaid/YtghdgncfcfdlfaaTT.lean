import Derived.Test.YtghdgncfcfdlfaaTT2
namespace Go.Proofs.Ytghdgncfcfdlfaa
open Go Go.Shelf Go.Proofs
set_option linter.unusedVariables false
/- stringslite.Cut -/
def stringslite_Cut (s1 : Str) (s2 : Str) : Option (Str × Str × Bool) :=
 bindO (stringslite_Index s1 s2) fun i14 =>
 iteO (decide (0 ≤ i14))
 (guardO (0 ≤ i14 ∧ i14 ≤ ((s1.length : Nat) : Int)) <|
 guardO (0 ≤ (w64 (i14 + ((s2.length : Nat) : Int))) ∧ (w64 (i14 + ((s2.length : Nat) : Int))) ≤ ((s1.length : Nat) : Int)) <|
 some ((s1.take i14.toNat), (s1.drop ((w64 (i14 + ((s2.length : Nat) : Int))).toNat)), true))
 (some (s1, [], false))

theorem stringslite_Cut_ok (s1 : Str) (s2 : Str) (s11 : Str) (s12 : Str) (b13 : Bool) (h : stringslite_Cut s1 s2 = some (s11, s12, b13)) : FOk EE 69 [S s1, S s2] [] (.tup [.e (cS s11), .e (cS s12), .e (cB b13)]) [] := by
  unfold stringslite_Cut at h
  refine FOk_of_W 23 0 Try.func69 rfl rfl (Nat.le_of_ble_eq_true rfl) rfl (fun w X θ => ?_)
  refine W_seq ?_
  refine W_region ?_
  refine WO_step 3 [] [0, 1] True ⟨[(0, S s1), (1, S s2)], []⟩ (by kernel_rfl) trivial ?_
  refine WO_nil rfl ?_
  refine thenS_n ?_
  refine W_seq ?_
  refine W_seq ?_
  refine W_region ?_
  refine WO_step 2 [] [0, 1, 8, 9] True ⟨[(0, S s1), (1, S s2), (8, S s1), (9, S s2)], []⟩ (by kernel_rfl) trivial ?_
  refine bindO_e h (fun i14 hc15 h => ?_)
  refine WO_call [] Try.f81 rfl rfl rfl (by kernel_rfl) Try.func81 rfl (by kernel_rfl) (stringslite_Index_ok s1 s2 i14 hc15) (trivial) rfl ?_
  refine WO_step 1 [] [0, 1, 7] True ⟨[(0, S s1), (1, S s2), (7, I i14)], []⟩ (by kernel_rfl) trivial ?_
  refine WO_nil rfl ?_
  refine thenS_n ?_
  refine W_seq ?_
  refine W_region ?_
  refine WO_step 2 [] [0, 1, 7, 12] (True ∧ True) ⟨[(0, S s1), (1, S s2), (7, I i14), (12, B (decide (0 ≤ i14)))], []⟩ (by kernel_rfl) ⟨trivial, trivial⟩ ?_
  refine WO_nil rfl ?_
  refine thenS_n ?_
  refine iteO_e h (fun hb19 h => W_true rfl hb19 ?_) (fun hb19 h => W_false rfl hb19 ?_)
  · refine W_seq ?_
    refine guardO_e h (fun hg20 h => ?_)
    refine guardO_e h (fun hg21 h => ?_)
    refine W_cut (Q' := fun (e : Exit) (s : St) => e = .normal ∧ s = ⟨[(4, S (s1.take i14.toNat)), (5, S (s1.drop ((w64 (i14 + ((s2.length : Nat) : Int))).toNat))), (6, B true)], []⟩) ?_ ?_
    · refine W_draw [] true (by kernel_rfl) (by kernel_rfl) ?_
      refine WD_takeK [0, 1, 2, 3, 4, 5, 6, 7, 8, 9, 10, 11] [4, 5, 6] [4, 5, 6] (φ := ((0 ≤ i14 ∧ i14 ≤ ((s1.length : Nat) : Int)) ∧ (0 ≤ i14 ∧ i14 ≤ ((s1.length : Nat) : Int)) ∧ (True ∧ True ∧ (True ∧ True ∧ ((0 ≤ (w64 (i14 + ((s2.length : Nat) : Int))) ∧ (w64 (i14 + ((s2.length : Nat) : Int))) ≤ ((s1.length : Nat) : Int)) ∧ (0 ≤ (w64 (i14 + ((s2.length : Nat) : Int))) ∧ (w64 (i14 + ((s2.length : Nat) : Int))) ≤ ((s1.length : Nat) : Int)) ∧ True))))) (ls' := #[true, true, true, true, true, true, true, true, true, true, true, true]) (Ts' := [(4, S (s1.take i14.toNat)), (5, S (s1.drop ((w64 (i14 + ((s2.length : Nat) : Int))).toNat))), (6, B true)]) (st' := ⟨[(4, S (s1.take i14.toNat)), (5, S (s1.drop ((w64 (i14 + ((s2.length : Nat) : Int))).toNat))), (6, B true)], []⟩) (n2 := 0) (by kernel_rfl) ⟨hg20, hg20, trivial, trivial, trivial, trivial, hg21, hg21, trivial⟩ rfl ?_
      exact WD_done [] [4, 5, 6] (st' := ⟨[(4, S (s1.take i14.toNat)), (5, S (s1.drop ((w64 (i14 + ((s2.length : Nat) : Int))).toNat))), (6, B true)], []⟩) (by kernel_rfl) (by kernel_rfl) (And.intro rfl rfl)
    · rintro _ _ ⟨rfl, rfl⟩
      refine thenS_n ?_
      refine W_ret ?_
      refine thenS_r ?_
      cases h
      exact ⟨[], True, by kernel_rfl, trivial⟩
  · refine W_sub [] [0] (st' := ⟨[(0, S s1)], []⟩) (by kernel_rfl) ?_
    refine W_skip ?_
    refine thenS_n ?_
    refine W_seq ?_
    refine W_region ?_
    refine WO_step 4 [] [4, 5, 6] True ⟨[(4, S s1), (5, S []), (6, B false)], []⟩ (by kernel_rfl) trivial ?_
    refine WO_nil rfl ?_
    refine thenS_n ?_
    refine W_ret ?_
    cases h
    exact ⟨[], True, by kernel_rfl, trivial⟩

/- strings.Cut -/
def strings_Cut (s1 : Str) (s2 : Str) : Option (Str × Str × Bool) :=
 bindO (stringslite_Cut s1 s2) fun (s11, s12, b13) =>
 some (s11, s12, b13)

theorem strings_Cut_ok (s1 : Str) (s2 : Str) (s8 : Str) (s9 : Str) (b10 : Bool) (h : strings_Cut s1 s2 = some (s8, s9, b10)) : FOk EE 53 [S s1, S s2] [] (.tup [.e (cS s8), .e (cS s9), .e (cB b10)]) [] := by
  unfold strings_Cut at h
  refine FOk_of_W 13 0 Try.func53 rfl rfl (Nat.le_of_ble_eq_true rfl) rfl (fun w X θ => ?_)
  refine W_seq ?_
  refine W_region ?_
  refine WO_step 3 [] [0, 1] True ⟨[(0, S s1), (1, S s2)], []⟩ (by kernel_rfl) trivial ?_
  refine WO_nil rfl ?_
  refine thenS_n ?_
  refine W_seq ?_
  refine W_region ?_
  refine WO_step 2 [] [7, 8] True ⟨[(7, S s1), (8, S s2)], []⟩ (by kernel_rfl) trivial ?_
  refine bindO_e h (fun v15 hc14 h => ?_)
  obtain ⟨s11, s12, b13⟩ := v15
  refine WO_call [] Try.f69 rfl rfl rfl (by kernel_rfl) Try.func69 rfl (by kernel_rfl) (stringslite_Cut_ok s1 s2 s11 s12 b13 hc14) (trivial) rfl ?_
  refine WO_step 6 [] [4, 5, 6] True ⟨[(4, S s11), (5, S s12), (6, B b13)], []⟩ (by kernel_rfl) trivial ?_
  refine WO_nil rfl ?_
  refine thenS_n ?_
  refine W_ret ?_
  cases h
  exact ⟨[], True, by kernel_rfl, trivial⟩

/- impl.ResolvePath -/
def impl_ResolvePath_L1 (x1 : List Nod) : Nat → Str → Int → Bool → Option ((Unit) ⊕ (Int))
| 0, _, _, _ => none
| n + 1, s129, i130, b131 =>
 iteO b131
 (bindO (strings_Cut s129 [47]) fun (s168, s169, b170) =>
 bindO (impl_kidIn n x1 i130 s168) fun i172 =>
 iteO (decide (i172 < 0))
 (some (.inl ()))
 (impl_ResolvePath_L1 x1 n s169 i172 b170))
 (some (.inr i130))

theorem impl_ResolvePath_L1_ok (w : World) (X : Nat → Prop) (θ : List Loc) (x1 : List Nod) (v : (Unit) ⊕ (Int)) : ∀ (n : Nat) (s129 : Str) (i130 : Int) (b131 : Bool), impl_ResolvePath_L1 x1 n s129 i130 b131 = some v → WL EE ⟨w, X, θ, 36, 1⟩ (subC [1, 1, 1, 1, 1, 1, 0, 1, 4, 4] (bodyC Try.f29)) (fun (e : Exit) (s : St) => (match v with | (.inl _) => e = .ret ∧ s = ⟨[(4, I (-1))], [.row .nod x1 false]⟩ | (.inr i155) => e = .exit 0 ∧ s = ⟨[(7, I i155)], [.row .nod x1 false]⟩ : Prop)) ⟨[(0, .one (.e (.sl 0 0 x1.length))), (5, S s129), (7, I i130), (8, B b131)], [.row .nod x1 false]⟩ := by
  intro n
  induction n with
  | zero => intro _ _ _ h; exact none_e h
  | succ n ih =>
    intro s129 i130 b131 h
    rw [impl_ResolvePath_L1] at h
    refine WL_round ?_
    refine W_seq ?_
    refine W_seq ?_
    refine W_region ?_
    refine WO_step 1 [0] [0, 5, 7, 22] True ⟨[(0, .one (.e (.sl 0 0 x1.length))), (5, S s129), (7, I i130), (22, B b131)], [.row .nod x1 false]⟩ (by kernel_rfl) trivial ?_
    refine WO_nil rfl ?_
    refine thenS_n ?_
    refine iteO_e h (fun hb158 h => W_true rfl hb158 ?_) (fun hb158 h => W_false rfl hb158 ?_)
    · refine W_sub [0] [0, 5, 7] (st' := ⟨[(0, .one (.e (.sl 0 0 x1.length))), (5, S s129), (7, I i130)], [.row .nod x1 false]⟩) (by kernel_rfl) ?_
      refine W_skip ?_
      refine thenS_n ?_
      refine W_block ?_
      refine W_seq ?_
      refine W_region ?_
      refine WO_step 1 [0] [0, 5, 7] True ⟨[(0, .one (.e (.sl 0 0 x1.length))), (5, S s129), (7, I i130)], [.row .nod x1 false]⟩ (by kernel_rfl) trivial ?_
      refine WO_nil rfl ?_
      refine thenS_n ?_
      refine W_seq ?_
      refine W_region ?_
      refine WO_step 1 [0] [0, 7, 24] True ⟨[(0, .one (.e (.sl 0 0 x1.length))), (7, I i130), (24, S s129)], [.row .nod x1 false]⟩ (by kernel_rfl) trivial ?_
      refine bindO_e h (fun v176 hc171 h => ?_)
      obtain ⟨s168, s169, b170⟩ := v176
      refine WO_call [] Try.f53 rfl rfl rfl (by kernel_rfl) Try.func53 rfl (by kernel_rfl) (strings_Cut_ok s129 [47] s168 s169 b170 hc171) (trivial) rfl ?_
      refine WO_step 7 [0] [0, 5, 7, 8, 9] True ⟨[(0, .one (.e (.sl 0 0 x1.length))), (5, S s169), (7, I i130), (8, B b170), (9, S s168)], [.row .nod x1 false]⟩ (by kernel_rfl) trivial ?_
      refine WO_nil rfl ?_
      refine thenS_n ?_
      refine W_seq ?_
      refine W_region ?_
      refine WO_step 3 [0] [0, 5, 8, 29, 30, 31] True ⟨[(0, .one (.e (.sl 0 0 x1.length))), (5, S s169), (8, B b170), (29, .one (.e (.sl 0 0 x1.length))), (30, I i130), (31, S s168)], [.row .nod x1 false]⟩ (by kernel_rfl) trivial ?_
      refine bindO_e h (fun i172 hc173 h => ?_)
      refine WO_call [.ro 0] Try.f39 rfl rfl rfl (by kernel_rfl) Try.func39 rfl (by kernel_rfl) (impl_kidIn_ok n x1 i130 s168 i172 hc173) (And.intro (And.intro rfl rfl) (trivial)) rfl ?_
      refine WO_step 1 [0] [0, 5, 7, 8] True ⟨[(0, .one (.e (.sl 0 0 x1.length))), (5, S s169), (7, I i172), (8, B b170)], [.row .nod x1 false]⟩ (by kernel_rfl) trivial ?_
      refine WO_nil rfl ?_
      refine thenS_n ?_
      refine W_seq ?_
      refine W_region ?_
      refine WO_step 2 [0] [0, 5, 7, 8, 34] (True ∧ True) ⟨[(0, .one (.e (.sl 0 0 x1.length))), (5, S s169), (7, I i172), (8, B b170), (34, B (decide (i172 < 0)))], [.row .nod x1 false]⟩ (by kernel_rfl) ⟨trivial, trivial⟩ ?_
      refine WO_nil rfl ?_
      refine thenS_n ?_
      refine iteO_e h (fun hb175 h => W_true rfl hb175 ?_) (fun hb175 h => W_false rfl hb175 ?_)
      · refine W_seq ?_
        refine W_region ?_
        refine WO_step 1 [0] [4] True ⟨[(4, I (-1))], [.row .nod x1 false]⟩ (by kernel_rfl) trivial ?_
        refine WO_nil rfl ?_
        refine thenS_n ?_
        refine W_ret ?_
        refine blockS_r ?_
        refine thenS_r ?_
        cases h
        exact And.intro rfl rfl
      · refine W_sub [0] [0, 5, 7, 8] (st' := ⟨[(0, .one (.e (.sl 0 0 x1.length))), (5, S s169), (7, I i172), (8, B b170)], [.row .nod x1 false]⟩) (by kernel_rfl) ?_
        refine W_skip ?_
        refine blockS_n ?_
        refine thenS_n ?_
        exact ih _ _ _ h
    · refine W_sub [0] [7] (st' := ⟨[(7, I i130)], [.row .nod x1 false]⟩) (by kernel_rfl) ?_
      refine W_exit ?_
      refine thenS_e ?_
      refine thenS_e ?_
      cases h
      exact And.intro rfl rfl

def impl_ResolvePath (n : Nat) (x1 : List Nod) (s2 : Str) : Option (Int) :=
 bindO (impl_ValidTree n x1) fun b90 =>
 iteO (!b90)
 (some (-1))
 (bindO (strings_CutPrefix s2 [47]) fun (s94, b95) =>
 iteO (!b95)
 (some (-1))
 (iteO (decide (s94 = []))
 (some 0)
 (bindO (impl_ResolvePath_L1 x1 n s94 0 true) fun v177 =>
 match v177 with
 | (.inl _) => (some (-1))
 | (.inr i155) => (some i155)
)))

theorem impl_ResolvePath_ok (n : Nat) (x1 : List Nod) (s2 : Str) (i89 : Int) (h : impl_ResolvePath n x1 s2 = some i89) : FOk EE 29 [.one (.e (.sl 0 0 x1.length)), S s2] [.row .nod x1 false] (I i89) [.row .nod x1 false] := by
  unfold impl_ResolvePath at h
  refine FOk_of_W 36 1 Try.func29 rfl rfl (Nat.le_of_ble_eq_true rfl) rfl (fun w X θ => ?_)
  refine W_seq ?_
  refine W_region ?_
  refine WO_step 1 [0] [0, 1] True ⟨[(0, .one (.e (.sl 0 0 x1.length))), (1, S s2)], [.row .nod x1 false]⟩ (by kernel_rfl) trivial ?_
  refine WO_nil rfl ?_
  refine thenS_n ?_
  refine W_seq ?_
  refine W_seq ?_
  refine W_region ?_
  refine WO_step 1 [0] [0, 1, 10] True ⟨[(0, .one (.e (.sl 0 0 x1.length))), (1, S s2), (10, .one (.e (.sl 0 0 x1.length)))], [.row .nod x1 false]⟩ (by kernel_rfl) trivial ?_
  refine bindO_e h (fun b90 hc91 h => ?_)
  refine WO_call [.ro 0] Try.f17 rfl rfl rfl (by kernel_rfl) Try.func17 rfl (by kernel_rfl) (impl_ValidTree_ok n x1 b90 hc91) (And.intro (And.intro rfl rfl) (trivial)) rfl ?_
  refine WO_step 1 [0] [0, 1, 12] True ⟨[(0, .one (.e (.sl 0 0 x1.length))), (1, S s2), (12, B (!b90))], [.row .nod x1 false]⟩ (by kernel_rfl) trivial ?_
  refine WO_nil rfl ?_
  refine thenS_n ?_
  refine iteO_e h (fun hb93 h => W_true rfl hb93 ?_) (fun hb93 h => W_false rfl hb93 ?_)
  · refine W_seq ?_
    refine W_region ?_
    refine WO_step 1 [0] [4] True ⟨[(4, I (-1))], [.row .nod x1 false]⟩ (by kernel_rfl) trivial ?_
    refine WO_nil rfl ?_
    refine thenS_n ?_
    refine W_ret ?_
    refine thenS_r ?_
    cases h
    exact ⟨[0], True, by kernel_rfl, trivial⟩
  · refine W_sub [0] [0, 1] (st' := ⟨[(0, .one (.e (.sl 0 0 x1.length))), (1, S s2)], [.row .nod x1 false]⟩) (by kernel_rfl) ?_
    refine W_skip ?_
    refine thenS_n ?_
    refine W_seq ?_
    refine W_region ?_
    refine WO_step 1 [0] [0, 14] True ⟨[(0, .one (.e (.sl 0 0 x1.length))), (14, S s2)], [.row .nod x1 false]⟩ (by kernel_rfl) trivial ?_
    refine bindO_e h (fun v178 hc96 h => ?_)
    obtain ⟨s94, b95⟩ := v178
    refine WO_call [] Try.f52 rfl rfl rfl (by kernel_rfl) Try.func52 rfl (by kernel_rfl) (strings_CutPrefix_ok s2 [47] s94 b95 hc96) (trivial) rfl ?_
    refine WO_step 5 [0] [0, 5, 6] True ⟨[(0, .one (.e (.sl 0 0 x1.length))), (5, S s94), (6, B b95)], [.row .nod x1 false]⟩ (by kernel_rfl) trivial ?_
    refine WO_nil rfl ?_
    refine thenS_n ?_
    refine W_seq ?_
    refine W_seq ?_
    refine W_region ?_
    refine WO_step 2 [0] [0, 5, 19] True ⟨[(0, .one (.e (.sl 0 0 x1.length))), (5, S s94), (19, B (!b95))], [.row .nod x1 false]⟩ (by kernel_rfl) trivial ?_
    refine WO_nil rfl ?_
    refine thenS_n ?_
    refine iteO_e h (fun hb98 h => W_true rfl hb98 ?_) (fun hb98 h => W_false rfl hb98 ?_)
    · refine W_seq ?_
      refine W_region ?_
      refine WO_step 1 [0] [4] True ⟨[(4, I (-1))], [.row .nod x1 false]⟩ (by kernel_rfl) trivial ?_
      refine WO_nil rfl ?_
      refine thenS_n ?_
      refine W_ret ?_
      refine thenS_r ?_
      cases h
      exact ⟨[0], True, by kernel_rfl, trivial⟩
    · refine W_sub [0] [0, 5] (st' := ⟨[(0, .one (.e (.sl 0 0 x1.length))), (5, S s94)], [.row .nod x1 false]⟩) (by kernel_rfl) ?_
      refine W_skip ?_
      refine thenS_n ?_
      refine W_seq ?_
      refine W_seq ?_
      refine W_region ?_
      refine WO_step 2 [0] [0, 5, 21] (True ∧ True) ⟨[(0, .one (.e (.sl 0 0 x1.length))), (5, S s94), (21, B (decide (s94 = [])))], [.row .nod x1 false]⟩ (by kernel_rfl) ⟨trivial, trivial⟩ ?_
      refine WO_nil rfl ?_
      refine thenS_n ?_
      refine iteO_e h (fun hb100 h => W_true rfl hb100 ?_) (fun hb100 h => W_false rfl hb100 ?_)
      · refine W_seq ?_
        refine W_region ?_
        refine WO_step 1 [0] [4] True ⟨[(4, I 0)], [.row .nod x1 false]⟩ (by kernel_rfl) trivial ?_
        refine WO_nil rfl ?_
        refine thenS_n ?_
        refine W_ret ?_
        refine thenS_r ?_
        cases h
        exact ⟨[0], True, by kernel_rfl, trivial⟩
      · refine W_sub [0] [0, 5] (st' := ⟨[(0, .one (.e (.sl 0 0 x1.length))), (5, S s94)], [.row .nod x1 false]⟩) (by kernel_rfl) ?_
        refine W_skip ?_
        refine thenS_n ?_
        refine W_seq ?_
        refine W_region ?_
        refine WO_step 1 [0] [0, 5, 7] True ⟨[(0, .one (.e (.sl 0 0 x1.length))), (5, S s94), (7, I 0)], [.row .nod x1 false]⟩ (by kernel_rfl) trivial ?_
        refine WO_nil rfl ?_
        refine thenS_n ?_
        refine W_seq ?_
        refine W_seq ?_
        refine W_region ?_
        refine WO_step 1 [0] [0, 5, 7, 8] True ⟨[(0, .one (.e (.sl 0 0 x1.length))), (5, S s94), (7, I 0), (8, B true)], [.row .nod x1 false]⟩ (by kernel_rfl) trivial ?_
        refine WO_nil rfl ?_
        refine thenS_n ?_
        refine W_block ?_
        refine W_loop ?_
        refine bindO_e h (fun v177 hv177 h => ?_)
        refine WL_cut (impl_ResolvePath_L1_ok w X θ x1 v177 n s94 0 true hv177) ?_
        rcases v177 with _ | i155
        · rintro _ _ ⟨rfl, rfl⟩
          refine blockS_r ?_
          refine thenS_r ?_
          cases h
          exact ⟨[0], True, by kernel_rfl, trivial⟩
        · rintro _ _ ⟨rfl, rfl⟩
          refine blockS_y ?_
          refine thenS_n ?_
          refine W_seq ?_
          refine W_region ?_
          refine WO_step 2 [0] [4] True ⟨[(4, I i155)], [.row .nod x1 false]⟩ (by kernel_rfl) trivial ?_
          refine WO_nil rfl ?_
          refine thenS_n ?_
          refine W_ret ?_
          cases h
          exact ⟨[0], True, by kernel_rfl, trivial⟩

/- impl.EditsBetween -/
def impl_EditsBetween_L1 (x1 : List Nod) (x2 : List Nod) (x296 : List Int) : Nat → (List Edt) → Int → Option ((List Edt))
| 0, _, _ => none
| n + 1, x352, i353 =>
 iteO (decide (i353 < ((x296.length : Nat) : Int)))
 (guardO (0 ≤ i353 ∧ i353 < ((x296.length : Nat) : Int)) <|
 bindO (impl_PathText n x1 (x296.getD i353.toNat 0)) fun s432 =>
 bindO (impl_ResolvePath n x2 s432) fun i434 =>
 bindO (iteO (decide (i434 < 0))
 (guardO (0 ≤ (x296.getD i353.toNat 0) ∧ (x296.getD i353.toNat 0) < ((x1.length : Nat) : Int)) <|
 bindO (impl_PathText n x1 ((x1.getD ((x296.getD i353.toNat 0).toNat) dnod).parent)) fun s446 =>
 bindO (impl_ResolvePath n x2 s446) fun i448 =>
 some (decide (0 ≤ i448)))
 (some false)) fun b442 =>
 bindO (iteO b442
 (guardO (0 = 0 ∧ x352.length = x352.length ∧ x352.length + (([(⟨1, s432, 0⟩ : Edt)].drop 0).take ([(⟨1, s432, 0⟩ : Edt)].length)).length ≤ 1099511627776) <|
 some (x352 ++ (([(⟨1, s432, 0⟩ : Edt)].drop 0).take ([(⟨1, s432, 0⟩ : Edt)].length))))
 (some x352)) fun x452 =>
 impl_EditsBetween_L1 x1 x2 x296 n x452 (w64 (i353 + 1)))
 (some x352)

theorem impl_EditsBetween_L1_ok (w : World) (X : Nat → Prop) (θ : List Loc) (x1 : List Nod) (x2 : List Nod) (x296 : List Int) (x404 : (List Edt)) : ∀ (n : Nat) (x352 : List Edt) (i353 : Int), impl_EditsBetween_L1 x1 x2 x296 n x352 i353 = some x404 → WL EE ⟨w, X, θ, 93, 2⟩ (subC [1, 1, 1, 0, 1, 4, 4] (bodyC Try.f9)) (fun (e : Exit) (s : St) => e = .exit 0 ∧ s = ⟨[(0, .one (.e (.sl 0 0 x1.length))), (1, .one (.e (.sl 1 0 x2.length))), (5, .one (.e (.sl 2 0 x404.length)))], [.row .nod x1 false, .row .nod x2 false, .row .edt x404 true]⟩) ⟨[(0, .one (.e (.sl 0 0 x1.length))), (1, .one (.e (.sl 1 0 x2.length))), (5, .one (.e (.sl 2 0 x352.length))), (22, .one (.e (.sl 3 0 x296.length))), (23, I ((x296.length : Nat) : Int)), (24, I i353)], [.row .nod x1 false, .row .nod x2 false, .row .edt x352 true, .row .int x296 true]⟩ := by
  intro n
  induction n with
  | zero => intro _ _ h; exact none_e h
  | succ n ih =>
    intro x352 i353 h
    rw [impl_EditsBetween_L1] at h
    refine WL_round ?_
    refine W_seq ?_
    refine W_region ?_
    refine WO_step 1 [0, 1, 2, 3] [0, 1, 5, 22, 23, 24, 25] (True ∧ True) ⟨[(0, .one (.e (.sl 0 0 x1.length))), (1, .one (.e (.sl 1 0 x2.length))), (5, .one (.e (.sl 2 0 x352.length))), (22, .one (.e (.sl 3 0 x296.length))), (23, I ((x296.length : Nat) : Int)), (24, I i353), (25, B (decide (i353 < ((x296.length : Nat) : Int))))], [.row .nod x1 false, .row .nod x2 false, .row .edt x352 true, .row .int x296 true]⟩ (by kernel_rfl) ⟨trivial, trivial⟩ ?_
    refine WO_nil rfl ?_
    refine thenS_n ?_
    refine W_seq ?_
    refine iteO_e h (fun hb407 h => W_true rfl hb407 ?_) (fun hb407 h => W_false rfl hb407 ?_)
    · refine W_sub [0, 1, 2, 3] [0, 1, 5, 22, 23, 24] (st' := ⟨[(0, .one (.e (.sl 0 0 x1.length))), (1, .one (.e (.sl 1 0 x2.length))), (5, .one (.e (.sl 2 0 x352.length))), (22, .one (.e (.sl 3 0 x296.length))), (23, I ((x296.length : Nat) : Int)), (24, I i353)], [.row .nod x1 false, .row .nod x2 false, .row .edt x352 true, .row .int x296 true]⟩) (by kernel_rfl) ?_
      refine W_skip ?_
      refine thenS_n ?_
      refine W_seq ?_
      refine W_block ?_
      refine W_seq ?_
      refine W_region ?_
      refine guardO_e h (fun hg431 h => ?_)
      refine WO_step 3 [0, 1, 2, 3] [0, 1, 5, 7, 22, 23, 24] ((0 ≤ i353 ∧ i353 < ((x296.length : Nat) : Int)) ∧ (True ∧ True)) ⟨[(0, .one (.e (.sl 0 0 x1.length))), (1, .one (.e (.sl 1 0 x2.length))), (5, .one (.e (.sl 2 0 x352.length))), (7, I (x296.getD i353.toNat 0)), (22, .one (.e (.sl 3 0 x296.length))), (23, I ((x296.length : Nat) : Int)), (24, I i353)], [.row .nod x1 false, .row .nod x2 false, .row .edt x352 true, .row .int x296 true]⟩ (by kernel_rfl) ⟨hg431, trivial, trivial⟩ ?_
      refine WO_nil rfl ?_
      refine thenS_n ?_
      refine W_seq ?_
      refine W_region ?_
      refine WO_step 2 [0, 1, 2, 3] [0, 1, 5, 7, 22, 23, 24, 28, 29] True ⟨[(0, .one (.e (.sl 0 0 x1.length))), (1, .one (.e (.sl 1 0 x2.length))), (5, .one (.e (.sl 2 0 x352.length))), (7, I (x296.getD i353.toNat 0)), (22, .one (.e (.sl 3 0 x296.length))), (23, I ((x296.length : Nat) : Int)), (24, I i353), (28, .one (.e (.sl 0 0 x1.length))), (29, I (x296.getD i353.toNat 0))], [.row .nod x1 false, .row .nod x2 false, .row .edt x352 true, .row .int x296 true]⟩ (by kernel_rfl) trivial ?_
      refine bindO_e h (fun s432 hc433 h => ?_)
      refine WO_call [.ro 0] Try.f28 rfl rfl rfl (by kernel_rfl) Try.func28 rfl (by kernel_rfl) (impl_PathText_ok n x1 (x296.getD i353.toNat 0) s432 hc433) (And.intro (And.intro rfl rfl) (trivial)) rfl ?_
      refine WO_step 1 [0, 1, 2, 3] [0, 1, 5, 7, 8, 22, 23, 24] True ⟨[(0, .one (.e (.sl 0 0 x1.length))), (1, .one (.e (.sl 1 0 x2.length))), (5, .one (.e (.sl 2 0 x352.length))), (7, I (x296.getD i353.toNat 0)), (8, S s432), (22, .one (.e (.sl 3 0 x296.length))), (23, I ((x296.length : Nat) : Int)), (24, I i353)], [.row .nod x1 false, .row .nod x2 false, .row .edt x352 true, .row .int x296 true]⟩ (by kernel_rfl) trivial ?_
      refine WO_nil rfl ?_
      refine thenS_n ?_
      refine W_seq ?_
      refine W_region ?_
      refine WO_step 2 [0, 1, 2, 3] [0, 1, 5, 7, 8, 22, 23, 24, 31, 32] True ⟨[(0, .one (.e (.sl 0 0 x1.length))), (1, .one (.e (.sl 1 0 x2.length))), (5, .one (.e (.sl 2 0 x352.length))), (7, I (x296.getD i353.toNat 0)), (8, S s432), (22, .one (.e (.sl 3 0 x296.length))), (23, I ((x296.length : Nat) : Int)), (24, I i353), (31, .one (.e (.sl 1 0 x2.length))), (32, S s432)], [.row .nod x1 false, .row .nod x2 false, .row .edt x352 true, .row .int x296 true]⟩ (by kernel_rfl) trivial ?_
      refine bindO_e h (fun i434 hc435 h => ?_)
      refine WO_call [.ro 1] Try.f29 rfl rfl rfl (by kernel_rfl) Try.func29 rfl (by kernel_rfl) (impl_ResolvePath_ok n x2 s432 i434 hc435) (And.intro (And.intro rfl rfl) (trivial)) rfl ?_
      refine WO_step 2 [0, 1, 2, 3] [0, 1, 5, 7, 8, 22, 23, 24, 35] (True ∧ True) ⟨[(0, .one (.e (.sl 0 0 x1.length))), (1, .one (.e (.sl 1 0 x2.length))), (5, .one (.e (.sl 2 0 x352.length))), (7, I (x296.getD i353.toNat 0)), (8, S s432), (22, .one (.e (.sl 3 0 x296.length))), (23, I ((x296.length : Nat) : Int)), (24, I i353), (35, B (decide (i434 < 0)))], [.row .nod x1 false, .row .nod x2 false, .row .edt x352 true, .row .int x296 true]⟩ (by kernel_rfl) ⟨trivial, trivial⟩ ?_
      refine bindO_e h (fun b442 hv443 h => ?_)
      refine WO_thru ⟨[(0, .one (.e (.sl 0 0 x1.length))), (1, .one (.e (.sl 1 0 x2.length))), (5, .one (.e (.sl 2 0 x352.length))), (8, S s432), (22, .one (.e (.sl 3 0 x296.length))), (23, I ((x296.length : Nat) : Int)), (24, I i353), (46, B b442)], [.row .nod x1 false, .row .nod x2 false, .row .edt x352 true, .row .int x296 true]⟩ ?_ ?_
      · refine iteO_e hv443 (fun hb444 hv443 => WO_known 35 true rfl hb444 ?_) (fun hb444 hv443 => WO_known 35 false rfl hb444 ?_)
        · refine guardO_e hv443 (fun hg445 hv443 => ?_)
          refine WO_step 7 [0, 1, 2, 3] [0, 1, 5, 8, 22, 23, 24, 35, 36, 37, 42] ((0 ≤ (x296.getD i353.toNat 0) ∧ (x296.getD i353.toNat 0) < ((x1.length : Nat) : Int)) ∧ (True ∧ True)) ⟨[(0, .one (.e (.sl 0 0 x1.length))), (1, .one (.e (.sl 1 0 x2.length))), (5, .one (.e (.sl 2 0 x352.length))), (8, S s432), (22, .one (.e (.sl 3 0 x296.length))), (23, I ((x296.length : Nat) : Int)), (24, I i353), (35, B true), (36, .one (.e (.sl 1 0 x2.length))), (37, .one (.e (.sl 0 0 x1.length))), (42, I ((x1.getD ((x296.getD i353.toNat 0).toNat) dnod).parent))], [.row .nod x1 false, .row .nod x2 false, .row .edt x352 true, .row .int x296 true]⟩ (by kernel_rfl) ⟨hg445, trivial, trivial⟩ ?_
          refine bindO_e hv443 (fun s446 hc447 hv443 => ?_)
          refine WO_call [.ro 0] Try.f28 rfl rfl rfl (by kernel_rfl) Try.func28 rfl (by kernel_rfl) (impl_PathText_ok n x1 ((x1.getD ((x296.getD i353.toNat 0).toNat) dnod).parent) s446 hc447) (And.intro (And.intro rfl rfl) (trivial)) rfl ?_
          refine WO_sub [0, 1, 2, 3] [0, 1, 5, 8, 22, 23, 24, 35, 36, 43] (st' := ⟨[(0, .one (.e (.sl 0 0 x1.length))), (1, .one (.e (.sl 1 0 x2.length))), (5, .one (.e (.sl 2 0 x352.length))), (8, S s432), (22, .one (.e (.sl 3 0 x296.length))), (23, I ((x296.length : Nat) : Int)), (24, I i353), (35, B true), (36, .one (.e (.sl 1 0 x2.length))), (43, S s446)], [.row .nod x1 false, .row .nod x2 false, .row .edt x352 true, .row .int x296 true]⟩) (by kernel_rfl) ?_
          refine bindO_e hv443 (fun i448 hc449 hv443 => ?_)
          refine WO_call [.ro 1] Try.f29 rfl rfl rfl (by kernel_rfl) Try.func29 rfl (by kernel_rfl) (impl_ResolvePath_ok n x2 s446 i448 hc449) (And.intro (And.intro rfl rfl) (trivial)) rfl ?_
          refine WO_step 2 [0, 1, 2, 3] [0, 1, 5, 8, 22, 23, 24, 46] (True ∧ True) ⟨[(0, .one (.e (.sl 0 0 x1.length))), (1, .one (.e (.sl 1 0 x2.length))), (5, .one (.e (.sl 2 0 x352.length))), (8, S s432), (22, .one (.e (.sl 3 0 x296.length))), (23, I ((x296.length : Nat) : Int)), (24, I i353), (46, B (decide (0 ≤ i448)))], [.row .nod x1 false, .row .nod x2 false, .row .edt x352 true, .row .int x296 true]⟩ (by kernel_rfl) ⟨trivial, trivial⟩ ?_
          cases hv443
          exact WO_nil rfl ⟨rfl, rfl⟩
        · refine WO_step 11 [0, 1, 2, 3] [0, 1, 5, 8, 22, 23, 24, 46] True ⟨[(0, .one (.e (.sl 0 0 x1.length))), (1, .one (.e (.sl 1 0 x2.length))), (5, .one (.e (.sl 2 0 x352.length))), (8, S s432), (22, .one (.e (.sl 3 0 x296.length))), (23, I ((x296.length : Nat) : Int)), (24, I i353), (46, B false)], [.row .nod x1 false, .row .nod x2 false, .row .edt x352 true, .row .int x296 true]⟩ (by kernel_rfl) trivial ?_
          cases hv443
          exact WO_nil rfl ⟨rfl, rfl⟩
      · refine thenS_n ?_
        refine bindO_e h (fun x452 hx452 h => ?_)
        refine W_cut (Q' := fun (e : Exit) (s : St) => e = .normal ∧ s = ⟨[(0, .one (.e (.sl 0 0 x1.length))), (1, .one (.e (.sl 1 0 x2.length))), (5, .one (.e (.sl 2 0 x452.length))), (22, .one (.e (.sl 3 0 x296.length))), (23, I ((x296.length : Nat) : Int)), (24, I i353)], [.row .nod x1 false, .row .nod x2 false, .row .edt x452 true, .row .int x296 true]⟩) ?_ ?_
        · refine iteO_e hx452 (fun hb454 hx452 => W_true rfl hb454 ?_) (fun hb454 hx452 => W_false rfl hb454 ?_)
          · refine W_region ?_
            refine guardO_e hx452 (fun hg455 hx452 => ?_)
            refine WO_step 6 [0, 1, 5, 3] [0, 1, 5, 22, 23, 24] ((0 = 0 ∧ x352.length = x352.length ∧ x352.length + (([(⟨1, s432, 0⟩ : Edt)].drop 0).take ([(⟨1, s432, 0⟩ : Edt)].length)).length ≤ 1099511627776) ∧ True) ⟨[(0, .one (.e (.sl 0 0 x1.length))), (1, .one (.e (.sl 1 0 x2.length))), (5, .one (.e (.sl 2 0 ((x352 ++ (([(⟨1, s432, 0⟩ : Edt)].drop 0).take ([(⟨1, s432, 0⟩ : Edt)].length))).length)))), (22, .one (.e (.sl 3 0 x296.length))), (23, I ((x296.length : Nat) : Int)), (24, I i353)], [.row .nod x1 false, .row .nod x2 false, .row .edt (x352 ++ (([(⟨1, s432, 0⟩ : Edt)].drop 0).take ([(⟨1, s432, 0⟩ : Edt)].length))) true, .row .int x296 true]⟩ (by kernel_rfl) ⟨hg455, trivial⟩ ?_
            refine WO_nil rfl ?_
            cases hx452
            exact And.intro rfl rfl
          · refine W_sub [0, 1, 2, 3] [0, 1, 5, 22, 23, 24] (st' := ⟨[(0, .one (.e (.sl 0 0 x1.length))), (1, .one (.e (.sl 1 0 x2.length))), (5, .one (.e (.sl 2 0 x352.length))), (22, .one (.e (.sl 3 0 x296.length))), (23, I ((x296.length : Nat) : Int)), (24, I i353)], [.row .nod x1 false, .row .nod x2 false, .row .edt x352 true, .row .int x296 true]⟩) (by kernel_rfl) ?_
            refine W_skip ?_
            cases hx452
            exact And.intro rfl rfl
        · rintro _ _ ⟨rfl, rfl⟩
          refine blockS_n ?_
          refine thenS_n ?_
          refine W_region ?_
          refine WO_step 2 [0, 1, 2, 3] [0, 1, 5, 22, 23, 24] (True ∧ True) ⟨[(0, .one (.e (.sl 0 0 x1.length))), (1, .one (.e (.sl 1 0 x2.length))), (5, .one (.e (.sl 2 0 x452.length))), (22, .one (.e (.sl 3 0 x296.length))), (23, I ((x296.length : Nat) : Int)), (24, I (w64 (i353 + 1)))], [.row .nod x1 false, .row .nod x2 false, .row .edt x452 true, .row .int x296 true]⟩ (by kernel_rfl) ⟨trivial, trivial⟩ ?_
          refine WO_nil rfl ?_
          refine thenS_n ?_
          exact ih _ _ h
    · refine W_sub [0, 1, 2] [0, 1, 5] (st' := ⟨[(0, .one (.e (.sl 0 0 x1.length))), (1, .one (.e (.sl 1 0 x2.length))), (5, .one (.e (.sl 2 0 x352.length)))], [.row .nod x1 false, .row .nod x2 false, .row .edt x352 true]⟩) (by kernel_rfl) ?_
      refine W_exit ?_
      refine thenS_e ?_
      refine thenS_e ?_
      cases h
      exact And.intro rfl rfl

def impl_EditsBetween_L2 (x1 : List Nod) (x2 : List Nod) (x457 : List Int) : Nat → (List Edt) → Int → Option ((List Edt))
| 0, _, _ => none
| n + 1, x497, i498 =>
 iteO (decide (i498 < ((x457.length : Nat) : Int)))
 (guardO (0 ≤ i498 ∧ i498 < ((x457.length : Nat) : Int)) <|
 bindO (impl_PathText n x2 (x457.getD i498.toNat 0)) fun s553 =>
 bindO (impl_ResolvePath n x1 s553) fun i555 =>
 bindO (iteO (decide (i555 < 0))
 (some true)
 (guardO (0 ≤ i555 ∧ i555 < ((x1.length : Nat) : Int)) <|
 guardO (0 ≤ (x457.getD i498.toNat 0) ∧ (x457.getD i498.toNat 0) < ((x2.length : Nat) : Int)) <|
 some (!decide (((x1.getD i555.toNat dnod).value) = ((x2.getD ((x457.getD i498.toNat 0).toNat) dnod).value))))) fun b560 =>
 bindO (iteO b560
 (guardO (0 ≤ (x457.getD i498.toNat 0) ∧ (x457.getD i498.toNat 0) < ((x2.length : Nat) : Int)) <|
 guardO (0 = 0 ∧ x497.length = x497.length ∧ x497.length + (([(⟨0, s553, (x2.getD ((x457.getD i498.toNat 0).toNat) dnod).value⟩ : Edt)].drop 0).take ([(⟨0, s553, (x2.getD ((x457.getD i498.toNat 0).toNat) dnod).value⟩ : Edt)].length)).length ≤ 1099511627776) <|
 some (x497 ++ (([(⟨0, s553, (x2.getD ((x457.getD i498.toNat 0).toNat) dnod).value⟩ : Edt)].drop 0).take ([(⟨0, s553, (x2.getD ((x457.getD i498.toNat 0).toNat) dnod).value⟩ : Edt)].length))))
 (some x497)) fun x565 =>
 impl_EditsBetween_L2 x1 x2 x457 n x565 (w64 (i498 + 1)))
 (some x497)

theorem impl_EditsBetween_L2_ok (w : World) (X : Nat → Prop) (θ : List Loc) (x1 : List Nod) (x2 : List Nod) (x457 : List Int) (x533 : (List Edt)) : ∀ (n : Nat) (x497 : List Edt) (i498 : Int), impl_EditsBetween_L2 x1 x2 x457 n x497 i498 = some x533 → WL EE ⟨w, X, θ, 93, 2⟩ (subC [1, 1, 1, 1, 0, 1, 4, 4] (bodyC Try.f9)) (fun (e : Exit) (s : St) => e = .exit 2 ∧ s = ⟨[(5, .one (.e (.sl 2 0 x533.length)))], [.row .nod x1 false, .row .nod x2 false, .row .edt x533 true]⟩) ⟨[(0, .one (.e (.sl 0 0 x1.length))), (1, .one (.e (.sl 1 0 x2.length))), (5, .one (.e (.sl 2 0 x497.length))), (54, .one (.e (.sl 3 0 x457.length))), (55, I ((x457.length : Nat) : Int)), (56, I i498)], [.row .nod x1 false, .row .nod x2 false, .row .edt x497 true, .row .int x457 true]⟩ := by
  intro n
  induction n with
  | zero => intro _ _ h; exact none_e h
  | succ n ih =>
    intro x497 i498 h
    rw [impl_EditsBetween_L2] at h
    refine WL_round ?_
    refine W_seq ?_
    refine W_region ?_
    refine WO_step 1 [0, 1, 2, 3] [0, 1, 5, 54, 55, 56, 57] (True ∧ True) ⟨[(0, .one (.e (.sl 0 0 x1.length))), (1, .one (.e (.sl 1 0 x2.length))), (5, .one (.e (.sl 2 0 x497.length))), (54, .one (.e (.sl 3 0 x457.length))), (55, I ((x457.length : Nat) : Int)), (56, I i498), (57, B (decide (i498 < ((x457.length : Nat) : Int))))], [.row .nod x1 false, .row .nod x2 false, .row .edt x497 true, .row .int x457 true]⟩ (by kernel_rfl) ⟨trivial, trivial⟩ ?_
    refine WO_nil rfl ?_
    refine thenS_n ?_
    refine W_seq ?_
    refine iteO_e h (fun hb536 h => W_true rfl hb536 ?_) (fun hb536 h => W_false rfl hb536 ?_)
    · refine W_sub [0, 1, 2, 3] [0, 1, 5, 54, 55, 56] (st' := ⟨[(0, .one (.e (.sl 0 0 x1.length))), (1, .one (.e (.sl 1 0 x2.length))), (5, .one (.e (.sl 2 0 x497.length))), (54, .one (.e (.sl 3 0 x457.length))), (55, I ((x457.length : Nat) : Int)), (56, I i498)], [.row .nod x1 false, .row .nod x2 false, .row .edt x497 true, .row .int x457 true]⟩) (by kernel_rfl) ?_
      refine W_skip ?_
      refine thenS_n ?_
      refine W_seq ?_
      refine W_block ?_
      refine W_seq ?_
      refine W_region ?_
      refine guardO_e h (fun hg552 h => ?_)
      refine WO_step 3 [0, 1, 2, 3] [0, 1, 5, 10, 54, 55, 56] ((0 ≤ i498 ∧ i498 < ((x457.length : Nat) : Int)) ∧ (True ∧ True)) ⟨[(0, .one (.e (.sl 0 0 x1.length))), (1, .one (.e (.sl 1 0 x2.length))), (5, .one (.e (.sl 2 0 x497.length))), (10, I (x457.getD i498.toNat 0)), (54, .one (.e (.sl 3 0 x457.length))), (55, I ((x457.length : Nat) : Int)), (56, I i498)], [.row .nod x1 false, .row .nod x2 false, .row .edt x497 true, .row .int x457 true]⟩ (by kernel_rfl) ⟨hg552, trivial, trivial⟩ ?_
      refine WO_nil rfl ?_
      refine thenS_n ?_
      refine W_seq ?_
      refine W_region ?_
      refine WO_step 2 [0, 1, 2, 3] [0, 1, 5, 10, 54, 55, 56, 60, 61] True ⟨[(0, .one (.e (.sl 0 0 x1.length))), (1, .one (.e (.sl 1 0 x2.length))), (5, .one (.e (.sl 2 0 x497.length))), (10, I (x457.getD i498.toNat 0)), (54, .one (.e (.sl 3 0 x457.length))), (55, I ((x457.length : Nat) : Int)), (56, I i498), (60, .one (.e (.sl 1 0 x2.length))), (61, I (x457.getD i498.toNat 0))], [.row .nod x1 false, .row .nod x2 false, .row .edt x497 true, .row .int x457 true]⟩ (by kernel_rfl) trivial ?_
      refine bindO_e h (fun s553 hc554 h => ?_)
      refine WO_call [.ro 1] Try.f28 rfl rfl rfl (by kernel_rfl) Try.func28 rfl (by kernel_rfl) (impl_PathText_ok n x2 (x457.getD i498.toNat 0) s553 hc554) (And.intro (And.intro rfl rfl) (trivial)) rfl ?_
      refine WO_step 1 [0, 1, 2, 3] [0, 1, 5, 10, 11, 54, 55, 56] True ⟨[(0, .one (.e (.sl 0 0 x1.length))), (1, .one (.e (.sl 1 0 x2.length))), (5, .one (.e (.sl 2 0 x497.length))), (10, I (x457.getD i498.toNat 0)), (11, S s553), (54, .one (.e (.sl 3 0 x457.length))), (55, I ((x457.length : Nat) : Int)), (56, I i498)], [.row .nod x1 false, .row .nod x2 false, .row .edt x497 true, .row .int x457 true]⟩ (by kernel_rfl) trivial ?_
      refine WO_nil rfl ?_
      refine thenS_n ?_
      refine W_seq ?_
      refine W_region ?_
      refine WO_step 2 [0, 1, 2, 3] [0, 1, 5, 10, 11, 54, 55, 56, 63, 64] True ⟨[(0, .one (.e (.sl 0 0 x1.length))), (1, .one (.e (.sl 1 0 x2.length))), (5, .one (.e (.sl 2 0 x497.length))), (10, I (x457.getD i498.toNat 0)), (11, S s553), (54, .one (.e (.sl 3 0 x457.length))), (55, I ((x457.length : Nat) : Int)), (56, I i498), (63, .one (.e (.sl 0 0 x1.length))), (64, S s553)], [.row .nod x1 false, .row .nod x2 false, .row .edt x497 true, .row .int x457 true]⟩ (by kernel_rfl) trivial ?_
      refine bindO_e h (fun i555 hc556 h => ?_)
      refine WO_call [.ro 0] Try.f29 rfl rfl rfl (by kernel_rfl) Try.func29 rfl (by kernel_rfl) (impl_ResolvePath_ok n x1 s553 i555 hc556) (And.intro (And.intro rfl rfl) (trivial)) rfl ?_
      refine WO_step 1 [0, 1, 2, 3] [0, 1, 5, 10, 11, 12, 54, 55, 56] True ⟨[(0, .one (.e (.sl 0 0 x1.length))), (1, .one (.e (.sl 1 0 x2.length))), (5, .one (.e (.sl 2 0 x497.length))), (10, I (x457.getD i498.toNat 0)), (11, S s553), (12, I i555), (54, .one (.e (.sl 3 0 x457.length))), (55, I ((x457.length : Nat) : Int)), (56, I i498)], [.row .nod x1 false, .row .nod x2 false, .row .edt x497 true, .row .int x457 true]⟩ (by kernel_rfl) trivial ?_
      refine WO_nil rfl ?_
      refine thenS_n ?_
      refine W_seq ?_
      refine bindO_e h (fun b560 hv561 h => ?_)
      refine W_cut (Q' := fun (e : Exit) (s : St) => e = .normal ∧ s = ⟨[(0, .one (.e (.sl 0 0 x1.length))), (1, .one (.e (.sl 1 0 x2.length))), (5, .one (.e (.sl 2 0 x497.length))), (10, I (x457.getD i498.toNat 0)), (11, S s553), (54, .one (.e (.sl 3 0 x457.length))), (55, I ((x457.length : Nat) : Int)), (56, I i498), (80, B b560)], [.row .nod x1 false, .row .nod x2 false, .row .edt x497 true, .row .int x457 true]⟩) ?_ ?_
      · refine iteO_e hv561 (fun hb557 hv561 => ?_) (fun hb557 hv561 => ?_)
        · refine W_draw [] true (by kernel_rfl) (by kernel_rfl) ?_
          refine WD_takeK [0, 1, 2] [0, 1, 5, 10, 11, 12, 54, 55, 56, 68] [0, 1, 5, 10, 11, 12, 54, 55, 56, 68] (φ := (True ∧ True ∧ True)) (ls' := #[true, true, true, false, false, false, false, false, false, false, false, false, false, false, false]) (Ts' := [(0, .one (.e (.sl 0 0 x1.length))), (1, .one (.e (.sl 1 0 x2.length))), (5, .one (.e (.sl 2 0 x497.length))), (10, I (x457.getD i498.toNat 0)), (11, S s553), (12, I i555), (54, .one (.e (.sl 3 0 x457.length))), (55, I ((x457.length : Nat) : Int)), (56, I i498), (68, B (decide (i555 < 0)))]) (st' := ⟨[(0, .one (.e (.sl 0 0 x1.length))), (1, .one (.e (.sl 1 0 x2.length))), (5, .one (.e (.sl 2 0 x497.length))), (10, I (x457.getD i498.toNat 0)), (11, S s553), (12, I i555), (54, .one (.e (.sl 3 0 x457.length))), (55, I ((x457.length : Nat) : Int)), (56, I i498), (68, B (decide (i555 < 0)))], [.row .nod x1 false, .row .nod x2 false, .row .edt x497 true, .row .int x457 true]⟩) (n2 := 12) (by kernel_rfl) ⟨trivial, trivial, trivial⟩ rfl ?_
          refine WD_known 68 true rfl rfl hb557 ?_
          refine WD_takeK [3, 4, 5, 6, 7, 8, 9, 10, 11, 12, 13, 14] [0, 1, 5, 10, 11, 54, 55, 56, 80] [0, 1, 5, 10, 11, 54, 55, 56, 80] (φ := True) (ls' := #[true, true, true, true, true, true, true, true, true, true, true, true, true, true, true]) (Ts' := [(0, .one (.e (.sl 0 0 x1.length))), (1, .one (.e (.sl 1 0 x2.length))), (5, .one (.e (.sl 2 0 x497.length))), (10, I (x457.getD i498.toNat 0)), (11, S s553), (54, .one (.e (.sl 3 0 x457.length))), (55, I ((x457.length : Nat) : Int)), (56, I i498), (80, B true)]) (st' := ⟨[(0, .one (.e (.sl 0 0 x1.length))), (1, .one (.e (.sl 1 0 x2.length))), (5, .one (.e (.sl 2 0 x497.length))), (10, I (x457.getD i498.toNat 0)), (11, S s553), (54, .one (.e (.sl 3 0 x457.length))), (55, I ((x457.length : Nat) : Int)), (56, I i498), (80, B true)], [.row .nod x1 false, .row .nod x2 false, .row .edt x497 true, .row .int x457 true]⟩) (n2 := 0) (by kernel_rfl) trivial rfl ?_
          exact WD_done [0, 1, 2, 3] [0, 1, 5, 10, 11, 54, 55, 56, 80] (st' := ⟨[(0, .one (.e (.sl 0 0 x1.length))), (1, .one (.e (.sl 1 0 x2.length))), (5, .one (.e (.sl 2 0 x497.length))), (10, I (x457.getD i498.toNat 0)), (11, S s553), (54, .one (.e (.sl 3 0 x457.length))), (55, I ((x457.length : Nat) : Int)), (56, I i498), (80, B true)], [.row .nod x1 false, .row .nod x2 false, .row .edt x497 true, .row .int x457 true]⟩) (by kernel_rfl) (by kernel_rfl) (And.intro rfl (by cases hv561; rfl))
        · refine guardO_e hv561 (fun hg558 hv561 => ?_)
          refine guardO_e hv561 (fun hg559 hv561 => ?_)
          refine W_draw [] true (by kernel_rfl) (by kernel_rfl) ?_
          refine WD_takeK [0, 1, 2] [0, 1, 5, 10, 11, 12, 54, 55, 56, 68] [0, 1, 5, 10, 11, 12, 54, 55, 56, 68] (φ := (True ∧ True ∧ True)) (ls' := #[true, true, true, false, false, false, false, false, false, false, false, false, false, false, false]) (Ts' := [(0, .one (.e (.sl 0 0 x1.length))), (1, .one (.e (.sl 1 0 x2.length))), (5, .one (.e (.sl 2 0 x497.length))), (10, I (x457.getD i498.toNat 0)), (11, S s553), (12, I i555), (54, .one (.e (.sl 3 0 x457.length))), (55, I ((x457.length : Nat) : Int)), (56, I i498), (68, B (decide (i555 < 0)))]) (st' := ⟨[(0, .one (.e (.sl 0 0 x1.length))), (1, .one (.e (.sl 1 0 x2.length))), (5, .one (.e (.sl 2 0 x497.length))), (10, I (x457.getD i498.toNat 0)), (11, S s553), (12, I i555), (54, .one (.e (.sl 3 0 x457.length))), (55, I ((x457.length : Nat) : Int)), (56, I i498), (68, B (decide (i555 < 0)))], [.row .nod x1 false, .row .nod x2 false, .row .edt x497 true, .row .int x457 true]⟩) (n2 := 12) (by kernel_rfl) ⟨trivial, trivial, trivial⟩ rfl ?_
          refine WD_known 68 false rfl rfl hb557 ?_
          refine WD_takeK [3, 4, 5, 6, 7, 8, 9, 10, 11, 12, 13, 14] [0, 1, 5, 10, 11, 54, 55, 56, 80] [0, 1, 5, 10, 11, 54, 55, 56, 80] (φ := ((0 ≤ i555 ∧ i555 < ((x1.length : Nat) : Int)) ∧ (0 ≤ i555 ∧ i555 < ((x1.length : Nat) : Int)) ∧ (True ∧ True ∧ ((0 ≤ (x457.getD i498.toNat 0) ∧ (x457.getD i498.toNat 0) < ((x2.length : Nat) : Int)) ∧ (0 ≤ (x457.getD i498.toNat 0) ∧ (x457.getD i498.toNat 0) < ((x2.length : Nat) : Int)) ∧ (True ∧ True ∧ (True ∧ True ∧ True)))))) (ls' := #[true, true, true, true, true, true, true, true, true, true, true, true, true, true, true]) (Ts' := [(0, .one (.e (.sl 0 0 x1.length))), (1, .one (.e (.sl 1 0 x2.length))), (5, .one (.e (.sl 2 0 x497.length))), (10, I (x457.getD i498.toNat 0)), (11, S s553), (54, .one (.e (.sl 3 0 x457.length))), (55, I ((x457.length : Nat) : Int)), (56, I i498), (80, B (!decide (((x1.getD i555.toNat dnod).value) = ((x2.getD ((x457.getD i498.toNat 0).toNat) dnod).value))))]) (st' := ⟨[(0, .one (.e (.sl 0 0 x1.length))), (1, .one (.e (.sl 1 0 x2.length))), (5, .one (.e (.sl 2 0 x497.length))), (10, I (x457.getD i498.toNat 0)), (11, S s553), (54, .one (.e (.sl 3 0 x457.length))), (55, I ((x457.length : Nat) : Int)), (56, I i498), (80, B (!decide (((x1.getD i555.toNat dnod).value) = ((x2.getD ((x457.getD i498.toNat 0).toNat) dnod).value))))], [.row .nod x1 false, .row .nod x2 false, .row .edt x497 true, .row .int x457 true]⟩) (n2 := 0) (by kernel_rfl) ⟨hg558, hg558, trivial, trivial, hg559, hg559, trivial, trivial, trivial, trivial, trivial⟩ rfl ?_
          exact WD_done [0, 1, 2, 3] [0, 1, 5, 10, 11, 54, 55, 56, 80] (st' := ⟨[(0, .one (.e (.sl 0 0 x1.length))), (1, .one (.e (.sl 1 0 x2.length))), (5, .one (.e (.sl 2 0 x497.length))), (10, I (x457.getD i498.toNat 0)), (11, S s553), (54, .one (.e (.sl 3 0 x457.length))), (55, I ((x457.length : Nat) : Int)), (56, I i498), (80, B (!decide (((x1.getD i555.toNat dnod).value) = ((x2.getD ((x457.getD i498.toNat 0).toNat) dnod).value))))], [.row .nod x1 false, .row .nod x2 false, .row .edt x497 true, .row .int x457 true]⟩) (by kernel_rfl) (by kernel_rfl) (And.intro rfl (by cases hv561; rfl))
      · rintro _ _ ⟨rfl, rfl⟩
        refine thenS_n ?_
        refine bindO_e h (fun x565 hx565 h => ?_)
        refine W_cut (Q' := fun (e : Exit) (s : St) => e = .normal ∧ s = ⟨[(0, .one (.e (.sl 0 0 x1.length))), (1, .one (.e (.sl 1 0 x2.length))), (5, .one (.e (.sl 2 0 x565.length))), (54, .one (.e (.sl 3 0 x457.length))), (55, I ((x457.length : Nat) : Int)), (56, I i498)], [.row .nod x1 false, .row .nod x2 false, .row .edt x565 true, .row .int x457 true]⟩) ?_ ?_
        · refine iteO_e hx565 (fun hb567 hx565 => W_true rfl hb567 ?_) (fun hb567 hx565 => W_false rfl hb567 ?_)
          · refine W_region ?_
            refine guardO_e hx565 (fun hg568 hx565 => ?_)
            refine guardO_e hx565 (fun hg569 hx565 => ?_)
            refine WO_step 11 [0, 1, 5, 3] [0, 1, 5, 54, 55, 56] ((0 ≤ (x457.getD i498.toNat 0) ∧ (x457.getD i498.toNat 0) < ((x2.length : Nat) : Int)) ∧ (True ∧ ((0 = 0 ∧ x497.length = x497.length ∧ x497.length + (([(⟨0, s553, (x2.getD ((x457.getD i498.toNat 0).toNat) dnod).value⟩ : Edt)].drop 0).take ([(⟨0, s553, (x2.getD ((x457.getD i498.toNat 0).toNat) dnod).value⟩ : Edt)].length)).length ≤ 1099511627776) ∧ True))) ⟨[(0, .one (.e (.sl 0 0 x1.length))), (1, .one (.e (.sl 1 0 x2.length))), (5, .one (.e (.sl 2 0 ((x497 ++ (([(⟨0, s553, (x2.getD ((x457.getD i498.toNat 0).toNat) dnod).value⟩ : Edt)].drop 0).take ([(⟨0, s553, (x2.getD ((x457.getD i498.toNat 0).toNat) dnod).value⟩ : Edt)].length))).length)))), (54, .one (.e (.sl 3 0 x457.length))), (55, I ((x457.length : Nat) : Int)), (56, I i498)], [.row .nod x1 false, .row .nod x2 false, .row .edt (x497 ++ (([(⟨0, s553, (x2.getD ((x457.getD i498.toNat 0).toNat) dnod).value⟩ : Edt)].drop 0).take ([(⟨0, s553, (x2.getD ((x457.getD i498.toNat 0).toNat) dnod).value⟩ : Edt)].length))) true, .row .int x457 true]⟩ (by kernel_rfl) ⟨hg568, trivial, hg569, trivial⟩ ?_
            refine WO_nil rfl ?_
            cases hx565
            exact And.intro rfl rfl
          · refine W_sub [0, 1, 2, 3] [0, 1, 5, 54, 55, 56] (st' := ⟨[(0, .one (.e (.sl 0 0 x1.length))), (1, .one (.e (.sl 1 0 x2.length))), (5, .one (.e (.sl 2 0 x497.length))), (54, .one (.e (.sl 3 0 x457.length))), (55, I ((x457.length : Nat) : Int)), (56, I i498)], [.row .nod x1 false, .row .nod x2 false, .row .edt x497 true, .row .int x457 true]⟩) (by kernel_rfl) ?_
            refine W_skip ?_
            cases hx565
            exact And.intro rfl rfl
        · rintro _ _ ⟨rfl, rfl⟩
          refine blockS_n ?_
          refine thenS_n ?_
          refine W_region ?_
          refine WO_step 2 [0, 1, 2, 3] [0, 1, 5, 54, 55, 56] (True ∧ True) ⟨[(0, .one (.e (.sl 0 0 x1.length))), (1, .one (.e (.sl 1 0 x2.length))), (5, .one (.e (.sl 2 0 x565.length))), (54, .one (.e (.sl 3 0 x457.length))), (55, I ((x457.length : Nat) : Int)), (56, I (w64 (i498 + 1)))], [.row .nod x1 false, .row .nod x2 false, .row .edt x565 true, .row .int x457 true]⟩ (by kernel_rfl) ⟨trivial, trivial⟩ ?_
          refine WO_nil rfl ?_
          refine thenS_n ?_
          exact ih _ _ h
    · refine W_sub [0, 1, 2] [5] (st' := ⟨[(5, .one (.e (.sl 2 0 x497.length)))], [.row .nod x1 false, .row .nod x2 false, .row .edt x497 true]⟩) (by kernel_rfl) ?_
      refine W_exit ?_
      refine thenS_e ?_
      refine thenS_e ?_
      cases h
      exact And.intro rfl rfl

def impl_EditsBetween (n : Nat) (x1 : List Nod) (x2 : List Nod) : Option ((List Edt)) :=
 bindO (impl_ValidTree n x1) fun b284 =>
 bindO (iteO (!b284)
 (some true)
 (bindO (impl_ValidTree n x2) fun b292 =>
 some (!b292))) fun b289 =>
 iteO b289
 (some ([] : List Edt))
 (bindO (impl_WalkNodes n x1 0) fun x296 =>
 bindO (impl_EditsBetween_L1 x1 x2 x296 n ([] : List Edt) 0) fun x404 =>
 bindO (impl_WalkNodes n x2 0) fun x457 =>
 bindO (impl_EditsBetween_L2 x1 x2 x457 n x404 0) fun x533 =>
 some x533)

theorem impl_EditsBetween_ok (n : Nat) (x1 : List Nod) (x2 : List Nod) (x283 : List Edt) (h : impl_EditsBetween n x1 x2 = some x283) : FOk EE 9 [.one (.e (.sl 0 0 x1.length)), .one (.e (.sl 1 0 x2.length))] [.row .nod x1 false, .row .nod x2 false] (.one (.e (.sl 2 0 x283.length))) [.row .nod x1 false, .row .nod x2 false, .row .edt x283 true] := by
  unfold impl_EditsBetween at h
  refine FOk_of_W 93 2 Try.func9 rfl rfl (Nat.le_of_ble_eq_true rfl) rfl (fun w X θ => ?_)
  refine W_seq ?_
  refine W_region ?_
  refine WO_step 1 [0, 1] [0, 1] True ⟨[(0, .one (.e (.sl 0 0 x1.length))), (1, .one (.e (.sl 1 0 x2.length)))], [.row .nod x1 false, .row .nod x2 false]⟩ (by kernel_rfl) trivial ?_
  refine WO_nil rfl ?_
  refine thenS_n ?_
  refine W_seq ?_
  refine W_seq ?_
  refine W_region ?_
  refine WO_step 1 [0, 1] [0, 1, 13] True ⟨[(0, .one (.e (.sl 0 0 x1.length))), (1, .one (.e (.sl 1 0 x2.length))), (13, .one (.e (.sl 0 0 x1.length)))], [.row .nod x1 false, .row .nod x2 false]⟩ (by kernel_rfl) trivial ?_
  refine bindO_e h (fun b284 hc285 h => ?_)
  refine WO_call [.ro 0] Try.f17 rfl rfl rfl (by kernel_rfl) Try.func17 rfl (by kernel_rfl) (impl_ValidTree_ok n x1 b284 hc285) (And.intro (And.intro rfl rfl) (trivial)) rfl ?_
  refine WO_step 2 [0, 1] [0, 1, 16] True ⟨[(0, .one (.e (.sl 0 0 x1.length))), (1, .one (.e (.sl 1 0 x2.length))), (16, B (!b284))], [.row .nod x1 false, .row .nod x2 false]⟩ (by kernel_rfl) trivial ?_
  refine bindO_e h (fun b289 hv290 h => ?_)
  refine WO_thru ⟨[(0, .one (.e (.sl 0 0 x1.length))), (1, .one (.e (.sl 1 0 x2.length))), (20, B b289)], [.row .nod x1 false, .row .nod x2 false]⟩ ?_ ?_
  · refine iteO_e hv290 (fun hb291 hv290 => WO_known 16 true rfl hb291 ?_) (fun hb291 hv290 => WO_known 16 false rfl hb291 ?_)
    · refine WO_step 4 [0, 1] [0, 1, 20] True ⟨[(0, .one (.e (.sl 0 0 x1.length))), (1, .one (.e (.sl 1 0 x2.length))), (20, B true)], [.row .nod x1 false, .row .nod x2 false]⟩ (by kernel_rfl) trivial ?_
      cases hv290
      exact WO_nil rfl ⟨rfl, rfl⟩
    · refine WO_step 1 [0, 1] [0, 1, 16, 17] True ⟨[(0, .one (.e (.sl 0 0 x1.length))), (1, .one (.e (.sl 1 0 x2.length))), (16, B false), (17, .one (.e (.sl 1 0 x2.length)))], [.row .nod x1 false, .row .nod x2 false]⟩ (by kernel_rfl) trivial ?_
      refine bindO_e hv290 (fun b292 hc293 hv290 => ?_)
      refine WO_call [.ro 1] Try.f17 rfl rfl rfl (by kernel_rfl) Try.func17 rfl (by kernel_rfl) (impl_ValidTree_ok n x2 b292 hc293) (And.intro (And.intro rfl rfl) (trivial)) rfl ?_
      refine WO_step 2 [0, 1] [0, 1, 20] True ⟨[(0, .one (.e (.sl 0 0 x1.length))), (1, .one (.e (.sl 1 0 x2.length))), (20, B (!b292))], [.row .nod x1 false, .row .nod x2 false]⟩ (by kernel_rfl) trivial ?_
      cases hv290
      exact WO_nil rfl ⟨rfl, rfl⟩
  · refine thenS_n ?_
    refine iteO_e h (fun hb295 h => W_true rfl hb295 ?_) (fun hb295 h => W_false rfl hb295 ?_)
    · refine W_seq ?_
      refine W_region ?_
      refine WO_step 1 [0, 1] [4] True ⟨[(4, .one (.e (.nsl)))], [.row .nod x1 false, .row .nod x2 false]⟩ (by kernel_rfl) trivial ?_
      refine WO_nilrow 4 .edt rfl ?_
      refine WO_sub [0, 1, 2] [4] (st' := ⟨[(4, .one (.e (.sl 2 0 (([] : List Edt).length))))], [.row .nod x1 false, .row .nod x2 false, .row .edt ([] : List Edt) true]⟩) (by kernel_rfl) ?_
      refine WO_nil rfl ?_
      refine thenS_n ?_
      refine W_ret ?_
      refine thenS_r ?_
      cases h
      exact ⟨[0, 1, 2], True, by kernel_rfl, trivial⟩
    · refine W_sub [0, 1] [0, 1] (st' := ⟨[(0, .one (.e (.sl 0 0 x1.length))), (1, .one (.e (.sl 1 0 x2.length)))], [.row .nod x1 false, .row .nod x2 false]⟩) (by kernel_rfl) ?_
      refine W_skip ?_
      refine thenS_n ?_
      refine W_seq ?_
      refine W_region ?_
      refine WO_step 1 [0, 1] [0, 1, 5] True ⟨[(0, .one (.e (.sl 0 0 x1.length))), (1, .one (.e (.sl 1 0 x2.length))), (5, .one (.e (.nsl)))], [.row .nod x1 false, .row .nod x2 false]⟩ (by kernel_rfl) trivial ?_
      refine WO_nilrow 5 .edt rfl ?_
      refine WO_sub [0, 1, 2] [0, 1, 5] (st' := ⟨[(0, .one (.e (.sl 0 0 x1.length))), (1, .one (.e (.sl 1 0 x2.length))), (5, .one (.e (.sl 2 0 (([] : List Edt).length))))], [.row .nod x1 false, .row .nod x2 false, .row .edt ([] : List Edt) true]⟩) (by kernel_rfl) ?_
      refine WO_nil rfl ?_
      refine thenS_n ?_
      refine W_seq ?_
      refine W_seq ?_
      refine W_region ?_
      refine WO_step 1 [0, 1, 2] [0, 1, 5, 21] True ⟨[(0, .one (.e (.sl 0 0 x1.length))), (1, .one (.e (.sl 1 0 x2.length))), (5, .one (.e (.sl 2 0 (([] : List Edt).length)))), (21, .one (.e (.sl 0 0 x1.length)))], [.row .nod x1 false, .row .nod x2 false, .row .edt ([] : List Edt) true]⟩ (by kernel_rfl) trivial ?_
      refine bindO_e h (fun x296 hc297 h => ?_)
      refine WO_call [.ro 0] Try.f27 rfl rfl rfl (by kernel_rfl) Try.func27 rfl (by kernel_rfl) (impl_WalkNodes_ok n x1 0 x296 hc297) (And.intro (And.intro rfl rfl) (trivial)) rfl ?_
      refine WO_step 2 [0, 1, 2, 3] [0, 1, 5, 22, 23, 24] (True ∧ True) ⟨[(0, .one (.e (.sl 0 0 x1.length))), (1, .one (.e (.sl 1 0 x2.length))), (5, .one (.e (.sl 2 0 (([] : List Edt).length)))), (22, .one (.e (.sl 3 0 x296.length))), (23, I ((x296.length : Nat) : Int)), (24, I 0)], [.row .nod x1 false, .row .nod x2 false, .row .edt ([] : List Edt) true, .row .int x296 true]⟩ (by kernel_rfl) ⟨trivial, trivial⟩ ?_
      refine WO_nil rfl ?_
      refine thenS_n ?_
      refine W_block ?_
      refine W_loop ?_
      refine bindO_e h (fun x404 hx404 h => ?_)
      refine WL_cut (impl_EditsBetween_L1_ok w X θ x1 x2 x296 x404 n ([] : List Edt) 0 hx404) ?_
      rintro _ _ ⟨rfl, rfl⟩
      refine blockS_y ?_
      refine thenS_n ?_
      refine W_seq ?_
      refine W_seq ?_
      refine W_region ?_
      refine WO_step 1 [0, 1, 2] [0, 1, 5, 53] True ⟨[(0, .one (.e (.sl 0 0 x1.length))), (1, .one (.e (.sl 1 0 x2.length))), (5, .one (.e (.sl 2 0 x404.length))), (53, .one (.e (.sl 1 0 x2.length)))], [.row .nod x1 false, .row .nod x2 false, .row .edt x404 true]⟩ (by kernel_rfl) trivial ?_
      refine bindO_e h (fun x457 hc458 h => ?_)
      refine WO_call [.ro 1] Try.f27 rfl rfl rfl (by kernel_rfl) Try.func27 rfl (by kernel_rfl) (impl_WalkNodes_ok n x2 0 x457 hc458) (And.intro (And.intro rfl rfl) (trivial)) rfl ?_
      refine WO_step 2 [0, 1, 2, 3] [0, 1, 5, 54, 55, 56] (True ∧ True) ⟨[(0, .one (.e (.sl 0 0 x1.length))), (1, .one (.e (.sl 1 0 x2.length))), (5, .one (.e (.sl 2 0 x404.length))), (54, .one (.e (.sl 3 0 x457.length))), (55, I ((x457.length : Nat) : Int)), (56, I 0)], [.row .nod x1 false, .row .nod x2 false, .row .edt x404 true, .row .int x457 true]⟩ (by kernel_rfl) ⟨trivial, trivial⟩ ?_
      refine WO_nil rfl ?_
      refine thenS_n ?_
      refine W_block ?_
      refine W_loop ?_
      refine bindO_e h (fun x533 hx533 h => ?_)
      refine WL_cut (impl_EditsBetween_L2_ok w X θ x1 x2 x457 x533 n x404 0 hx533) ?_
      rintro _ _ ⟨rfl, rfl⟩
      refine blockS_y ?_
      refine thenS_n ?_
      refine W_seq ?_
      refine W_region ?_
      refine WO_step 2 [0, 1, 2] [4] True ⟨[(4, .one (.e (.sl 2 0 x533.length)))], [.row .nod x1 false, .row .nod x2 false, .row .edt x533 true]⟩ (by kernel_rfl) trivial ?_
      refine WO_nil rfl ?_
      refine thenS_n ?_
      refine W_ret ?_
      cases h
      exact ⟨[0, 1, 2], True, by kernel_rfl, trivial⟩

/- laws.eqEdit -/
def laws_eqEdit (x1 : Edt) (x2 : Edt) : Option (Bool) :=
 iteO (!decide (x1.kind = x2.kind))
 (some false)
 (iteO (!decide (x1.path = x2.path))
 (some false)
 (iteO (!decide (x1.value = x2.value))
 (some false)
 (some true)))

theorem laws_eqEdit_ok (x1 : Edt) (x2 : Edt) (b9 : Bool) (h : laws_eqEdit x1 x2 = some b9) : FOk EE 30 [AGG [cI x1.kind, cS x1.path, cI x1.value], AGG [cI x2.kind, cS x2.path, cI x2.value]] [] (B b9) [] := by
  unfold laws_eqEdit at h
  refine FOk_of_W 20 0 Try.func30 rfl rfl (Nat.le_of_ble_eq_true rfl) rfl (fun w X θ => ?_)
  refine W_seq ?_
  refine W_region ?_
  refine WO_step 3 [0, 1] [2, 3] (True ∧ (True ∧ True)) ⟨[(2, .one (.e (.p 0 0))), (3, .one (.e (.p 1 0)))], [.cells [cI x1.kind, cS x1.path, cI x1.value], .cells [cI x2.kind, cS x2.path, cI x2.value]]⟩ (by kernel_rfl) ⟨trivial, trivial, trivial⟩ ?_
  refine WO_nil rfl ?_
  refine thenS_n ?_
  refine W_seq ?_
  refine W_seq ?_
  refine W_region ?_
  refine WO_step 5 [0, 1] [2, 3, 9] (True ∧ (True ∧ (True ∧ True))) ⟨[(2, .one (.e (.p 0 0))), (3, .one (.e (.p 1 0))), (9, B (!decide (x1.kind = x2.kind)))], [.cells [cI x1.kind, cS x1.path, cI x1.value], .cells [cI x2.kind, cS x2.path, cI x2.value]]⟩ (by kernel_rfl) ⟨trivial, trivial, trivial, trivial⟩ ?_
  refine WO_nil rfl ?_
  refine thenS_n ?_
  refine iteO_e h (fun hb11 h => W_true rfl hb11 ?_) (fun hb11 h => W_false rfl hb11 ?_)
  · refine W_seq ?_
    refine W_region ?_
    refine WO_step 1 [] [4] True ⟨[(4, B false)], []⟩ (by kernel_rfl) trivial ?_
    refine WO_nil rfl ?_
    refine thenS_n ?_
    refine W_ret ?_
    refine thenS_r ?_
    cases h
    exact ⟨[], True, by kernel_rfl, trivial⟩
  · refine W_sub [0, 1] [2, 3] (st' := ⟨[(2, .one (.e (.p 0 0))), (3, .one (.e (.p 1 0)))], [.cells [cI x1.kind, cS x1.path, cI x1.value], .cells [cI x2.kind, cS x2.path, cI x2.value]]⟩) (by kernel_rfl) ?_
    refine W_skip ?_
    refine thenS_n ?_
    refine W_seq ?_
    refine W_seq ?_
    refine W_region ?_
    refine WO_step 5 [0, 1] [2, 3, 14] (True ∧ (True ∧ (True ∧ True))) ⟨[(2, .one (.e (.p 0 0))), (3, .one (.e (.p 1 0))), (14, B (!decide (x1.path = x2.path)))], [.cells [cI x1.kind, cS x1.path, cI x1.value], .cells [cI x2.kind, cS x2.path, cI x2.value]]⟩ (by kernel_rfl) ⟨trivial, trivial, trivial, trivial⟩ ?_
    refine WO_nil rfl ?_
    refine thenS_n ?_
    refine iteO_e h (fun hb13 h => W_true rfl hb13 ?_) (fun hb13 h => W_false rfl hb13 ?_)
    · refine W_seq ?_
      refine W_region ?_
      refine WO_step 1 [] [4] True ⟨[(4, B false)], []⟩ (by kernel_rfl) trivial ?_
      refine WO_nil rfl ?_
      refine thenS_n ?_
      refine W_ret ?_
      refine thenS_r ?_
      cases h
      exact ⟨[], True, by kernel_rfl, trivial⟩
    · refine W_sub [0, 1] [2, 3] (st' := ⟨[(2, .one (.e (.p 0 0))), (3, .one (.e (.p 1 0)))], [.cells [cI x1.kind, cS x1.path, cI x1.value], .cells [cI x2.kind, cS x2.path, cI x2.value]]⟩) (by kernel_rfl) ?_
      refine W_skip ?_
      refine thenS_n ?_
      refine W_seq ?_
      refine W_seq ?_
      refine W_region ?_
      refine WO_step 5 [] [19] (True ∧ (True ∧ (True ∧ True))) ⟨[(19, B (!decide (x1.value = x2.value)))], []⟩ (by kernel_rfl) ⟨trivial, trivial, trivial, trivial⟩ ?_
      refine WO_nil rfl ?_
      refine thenS_n ?_
      refine iteO_e h (fun hb15 h => W_true rfl hb15 ?_) (fun hb15 h => W_false rfl hb15 ?_)
      · refine W_seq ?_
        refine W_region ?_
        refine WO_step 1 [] [4] True ⟨[(4, B false)], []⟩ (by kernel_rfl) trivial ?_
        refine WO_nil rfl ?_
        refine thenS_n ?_
        refine W_ret ?_
        refine thenS_r ?_
        cases h
        exact ⟨[], True, by kernel_rfl, trivial⟩
      · refine W_sub [] [] (st' := ⟨[], []⟩) (by kernel_rfl) ?_
        refine W_skip ?_
        refine thenS_n ?_
        refine W_seq ?_
        refine W_region ?_
        refine WO_step 1 [] [4] True ⟨[(4, B true)], []⟩ (by kernel_rfl) trivial ?_
        refine WO_nil rfl ?_
        refine thenS_n ?_
        refine W_ret ?_
        cases h
        exact ⟨[], True, by kernel_rfl, trivial⟩

/- laws.eqEditS -/
def laws_eqEditS_L1 (x1 : List Edt) (x2 : List Edt) : Nat → Int → Option ((Unit) ⊕ (Unit))
| 0, _ => none
| n + 1, i73 =>
 iteO (decide (i73 < ((x1.length : Nat) : Int)))
 (guardO (0 ≤ i73 ∧ i73 < ((x1.length : Nat) : Int)) <|
 guardO (0 ≤ i73 ∧ i73 < ((x2.length : Nat) : Int)) <|
 bindO (laws_eqEdit (x1.getD i73.toNat dedt) (x2.getD i73.toNat dedt)) fun b100 =>
 iteO (!b100)
 (some (.inl ()))
 (laws_eqEditS_L1 x1 x2 n (w64 (i73 + 1))))
 (some (.inr ()))

theorem laws_eqEditS_L1_ok (w : World) (X : Nat → Prop) (θ : List Loc) (x1 : List Edt) (x2 : List Edt) (v : (Unit) ⊕ (Unit)) : ∀ (n : Nat) (i73 : Int), laws_eqEditS_L1 x1 x2 n i73 = some v → WL EE ⟨w, X, θ, 27, 2⟩ (subC [1, 1, 0, 1, 4, 4] (bodyC Try.f10)) (fun (e : Exit) (s : St) => (match v with | (.inl _) => e = .ret ∧ s = ⟨[(4, B false)], [.row .edt x1 false, .row .edt x2 false]⟩ | (.inr _) => e = .exit 0 ∧ s = ⟨[], [.row .edt x1 false, .row .edt x2 false]⟩ : Prop)) ⟨[(0, .one (.e (.sl 0 0 x1.length))), (1, .one (.e (.sl 1 0 x2.length))), (5, I i73)], [.row .edt x1 false, .row .edt x2 false]⟩ := by
  intro n
  induction n with
  | zero => intro _ h; exact none_e h
  | succ n ih =>
    intro i73 h
    rw [laws_eqEditS_L1] at h
    refine WL_round ?_
    refine W_seq ?_
    refine W_seq ?_
    refine W_region ?_
    refine WO_step 4 [0, 1] [0, 1, 5, 14] (True ∧ (True ∧ True)) ⟨[(0, .one (.e (.sl 0 0 x1.length))), (1, .one (.e (.sl 1 0 x2.length))), (5, I i73), (14, B (decide (i73 < ((x1.length : Nat) : Int))))], [.row .edt x1 false, .row .edt x2 false]⟩ (by kernel_rfl) ⟨trivial, trivial, trivial⟩ ?_
    refine WO_nil rfl ?_
    refine thenS_n ?_
    refine iteO_e h (fun hb91 h => W_true rfl hb91 ?_) (fun hb91 h => W_false rfl hb91 ?_)
    · refine W_sub [0, 1] [0, 1, 5] (st' := ⟨[(0, .one (.e (.sl 0 0 x1.length))), (1, .one (.e (.sl 1 0 x2.length))), (5, I i73)], [.row .edt x1 false, .row .edt x2 false]⟩) (by kernel_rfl) ?_
      refine W_skip ?_
      refine thenS_n ?_
      refine W_seq ?_
      refine W_block ?_
      refine W_seq ?_
      refine guardO_e h (fun hg98 h => ?_)
      refine guardO_e h (fun hg99 h => ?_)
      refine bindO_e h (fun b100 hc101 h => ?_)
      refine W_cut (Q' := fun (e : Exit) (s : St) => e = .normal ∧ s = ⟨[(0, .one (.e (.sl 0 0 x1.length))), (1, .one (.e (.sl 1 0 x2.length))), (5, I i73), (26, B (!b100))], [.row .edt x1 false, .row .edt x2 false]⟩) ?_ ?_
      · refine W_draw [] false (by kernel_rfl) (by kernel_rfl) ?_
        refine WD_takeK [0, 1, 2, 3, 4, 5, 6, 7] [0, 1, 5, 20, 24] [0, 1, 5, 20, 24] (φ := ((0 ≤ i73 ∧ i73 < ((x1.length : Nat) : Int)) ∧ (0 ≤ i73 ∧ i73 < ((x1.length : Nat) : Int)) ∧ (True ∧ True ∧ ((0 ≤ i73 ∧ i73 < ((x2.length : Nat) : Int)) ∧ (0 ≤ i73 ∧ i73 < ((x2.length : Nat) : Int)) ∧ (True ∧ True ∧ True))))) (ls' := #[true, true, true, true, true, true, true, true, false, false]) (Ts' := [(0, .one (.e (.sl 0 0 x1.length))), (1, .one (.e (.sl 1 0 x2.length))), (5, I i73), (20, AGG [cI ((x1.getD i73.toNat dedt).kind), cS ((x1.getD i73.toNat dedt).path), cI ((x1.getD i73.toNat dedt).value)]), (24, AGG [cI ((x2.getD i73.toNat dedt).kind), cS ((x2.getD i73.toNat dedt).path), cI ((x2.getD i73.toNat dedt).value)])]) (st' := ⟨[(0, .one (.e (.sl 0 0 x1.length))), (1, .one (.e (.sl 1 0 x2.length))), (5, I i73), (20, AGG [cI ((x1.getD i73.toNat dedt).kind), cS ((x1.getD i73.toNat dedt).path), cI ((x1.getD i73.toNat dedt).value)]), (24, AGG [cI ((x2.getD i73.toNat dedt).kind), cS ((x2.getD i73.toNat dedt).path), cI ((x2.getD i73.toNat dedt).value)])], [.row .edt x1 false, .row .edt x2 false]⟩) (n2 := 2) (by kernel_rfl) ⟨hg98, hg98, trivial, trivial, hg99, hg99, trivial, trivial, trivial⟩ rfl ?_
        refine WD_all [8] (n := 1) (by kernel_rfl) rfl ?_
        refine WM_call [] Try.f30 rfl rfl (by kernel_rfl) Try.func30 rfl (by kernel_rfl) (laws_eqEdit_ok (x1.getD i73.toNat dedt) (x2.getD i73.toNat dedt) b100 hc101) (trivial) rfl (And.intro rfl (And.intro rfl (trivial))) ?_
        refine WD_takeK [9] [0, 1, 5, 26] [0, 1, 5, 26] (φ := True) (ls' := #[true, true, true, true, true, true, true, true, true, true]) (Ts' := [(0, .one (.e (.sl 0 0 x1.length))), (1, .one (.e (.sl 1 0 x2.length))), (5, I i73), (26, B (!b100))]) (st' := ⟨[(0, .one (.e (.sl 0 0 x1.length))), (1, .one (.e (.sl 1 0 x2.length))), (5, I i73), (26, B (!b100))], [.row .edt x1 false, .row .edt x2 false]⟩) (n2 := 0) (by kernel_rfl) trivial rfl ?_
        exact WD_done [0, 1] [0, 1, 5, 26] (st' := ⟨[(0, .one (.e (.sl 0 0 x1.length))), (1, .one (.e (.sl 1 0 x2.length))), (5, I i73), (26, B (!b100))], [.row .edt x1 false, .row .edt x2 false]⟩) (by kernel_rfl) (by kernel_rfl) (And.intro rfl rfl)
      · rintro _ _ ⟨rfl, rfl⟩
        refine thenS_n ?_
        refine iteO_e h (fun hb103 h => W_true rfl hb103 ?_) (fun hb103 h => W_false rfl hb103 ?_)
        · refine W_seq ?_
          refine W_region ?_
          refine WO_step 1 [0, 1] [4] True ⟨[(4, B false)], [.row .edt x1 false, .row .edt x2 false]⟩ (by kernel_rfl) trivial ?_
          refine WO_nil rfl ?_
          refine thenS_n ?_
          refine W_ret ?_
          refine blockS_r ?_
          refine thenS_r ?_
          refine thenS_r ?_
          cases h
          exact And.intro rfl rfl
        · refine W_sub [0, 1] [0, 1, 5] (st' := ⟨[(0, .one (.e (.sl 0 0 x1.length))), (1, .one (.e (.sl 1 0 x2.length))), (5, I i73)], [.row .edt x1 false, .row .edt x2 false]⟩) (by kernel_rfl) ?_
          refine W_skip ?_
          refine blockS_n ?_
          refine thenS_n ?_
          refine W_region ?_
          refine WO_step 3 [0, 1] [0, 1, 5] (True ∧ True) ⟨[(0, .one (.e (.sl 0 0 x1.length))), (1, .one (.e (.sl 1 0 x2.length))), (5, I (w64 (i73 + 1)))], [.row .edt x1 false, .row .edt x2 false]⟩ (by kernel_rfl) ⟨trivial, trivial⟩ ?_
          refine WO_nil rfl ?_
          refine thenS_n ?_
          exact ih _ h
    · refine W_sub [0, 1] [] (st' := ⟨[], [.row .edt x1 false, .row .edt x2 false]⟩) (by kernel_rfl) ?_
      refine W_exit ?_
      refine thenS_e ?_
      refine thenS_e ?_
      cases h
      exact And.intro rfl rfl

def laws_eqEditS (n : Nat) (x1 : List Edt) (x2 : List Edt) : Option (Bool) :=
 iteO (!decide (((x1.length : Nat) : Int) = ((x2.length : Nat) : Int)))
 (some false)
 (bindO (laws_eqEditS_L1 x1 x2 n 0) fun v104 =>
 match v104 with
 | (.inl _) => (some false)
 | (.inr _) => (some true)
)

theorem laws_eqEditS_ok (n : Nat) (x1 : List Edt) (x2 : List Edt) (b53 : Bool) (h : laws_eqEditS n x1 x2 = some b53) : FOk EE 10 [.one (.e (.sl 0 0 x1.length)), .one (.e (.sl 1 0 x2.length))] [.row .edt x1 false, .row .edt x2 false] (B b53) [.row .edt x1 false, .row .edt x2 false] := by
  unfold laws_eqEditS at h
  refine FOk_of_W 27 2 Try.func10 rfl rfl (Nat.le_of_ble_eq_true rfl) rfl (fun w X θ => ?_)
  refine W_seq ?_
  refine W_region ?_
  refine WO_step 1 [0, 1] [0, 1] True ⟨[(0, .one (.e (.sl 0 0 x1.length))), (1, .one (.e (.sl 1 0 x2.length)))], [.row .edt x1 false, .row .edt x2 false]⟩ (by kernel_rfl) trivial ?_
  refine WO_nil rfl ?_
  refine thenS_n ?_
  refine W_seq ?_
  refine W_seq ?_
  refine W_region ?_
  refine WO_step 5 [0, 1] [0, 1, 10] (True ∧ (True ∧ (True ∧ True))) ⟨[(0, .one (.e (.sl 0 0 x1.length))), (1, .one (.e (.sl 1 0 x2.length))), (10, B (!decide (((x1.length : Nat) : Int) = ((x2.length : Nat) : Int))))], [.row .edt x1 false, .row .edt x2 false]⟩ (by kernel_rfl) ⟨trivial, trivial, trivial, trivial⟩ ?_
  refine WO_nil rfl ?_
  refine thenS_n ?_
  refine iteO_e h (fun hb55 h => W_true rfl hb55 ?_) (fun hb55 h => W_false rfl hb55 ?_)
  · refine W_seq ?_
    refine W_region ?_
    refine WO_step 1 [0, 1] [4] True ⟨[(4, B false)], [.row .edt x1 false, .row .edt x2 false]⟩ (by kernel_rfl) trivial ?_
    refine WO_nil rfl ?_
    refine thenS_n ?_
    refine W_ret ?_
    refine thenS_r ?_
    cases h
    exact ⟨[0, 1], True, by kernel_rfl, trivial⟩
  · refine W_sub [0, 1] [0, 1] (st' := ⟨[(0, .one (.e (.sl 0 0 x1.length))), (1, .one (.e (.sl 1 0 x2.length)))], [.row .edt x1 false, .row .edt x2 false]⟩) (by kernel_rfl) ?_
    refine W_skip ?_
    refine thenS_n ?_
    refine W_seq ?_
    refine W_seq ?_
    refine W_region ?_
    refine WO_step 1 [0, 1] [0, 1, 5] True ⟨[(0, .one (.e (.sl 0 0 x1.length))), (1, .one (.e (.sl 1 0 x2.length))), (5, I 0)], [.row .edt x1 false, .row .edt x2 false]⟩ (by kernel_rfl) trivial ?_
    refine WO_nil rfl ?_
    refine thenS_n ?_
    refine W_block ?_
    refine W_loop ?_
    refine bindO_e h (fun v104 hv104 h => ?_)
    refine WL_cut (laws_eqEditS_L1_ok w X θ x1 x2 v104 n 0 hv104) ?_
    rcases v104 with _ | _
    · rintro _ _ ⟨rfl, rfl⟩
      refine blockS_r ?_
      refine thenS_r ?_
      cases h
      exact ⟨[0, 1], True, by kernel_rfl, trivial⟩
    · rintro _ _ ⟨rfl, rfl⟩
      refine blockS_y ?_
      refine thenS_n ?_
      refine W_seq ?_
      refine W_region ?_
      refine WO_step 1 [0, 1] [4] True ⟨[(4, B true)], [.row .edt x1 false, .row .edt x2 false]⟩ (by kernel_rfl) trivial ?_
      refine WO_nil rfl ?_
      refine thenS_n ?_
      refine W_ret ?_
      cases h
      exact ⟨[0, 1], True, by kernel_rfl, trivial⟩

/- laws.eqNode -/
def laws_eqNode (x1 : Nod) (x2 : Nod) : Option (Bool) :=
 iteO (!decide (x1.parent = x2.parent))
 (some false)
 (iteO (!decide (x1.name = x2.name))
 (some false)
 (iteO (!decide (x1.value = x2.value))
 (some false)
 (some true)))

theorem laws_eqNode_ok (x1 : Nod) (x2 : Nod) (b9 : Bool) (h : laws_eqNode x1 x2 = some b9) : FOk EE 31 [AGG [cI x1.parent, cS x1.name, cI x1.value], AGG [cI x2.parent, cS x2.name, cI x2.value]] [] (B b9) [] := by
  unfold laws_eqNode at h
  refine FOk_of_W 20 0 Try.func31 rfl rfl (Nat.le_of_ble_eq_true rfl) rfl (fun w X θ => ?_)
  refine W_seq ?_
  refine W_region ?_
  refine WO_step 3 [0, 1] [2, 3] (True ∧ (True ∧ True)) ⟨[(2, .one (.e (.p 0 0))), (3, .one (.e (.p 1 0)))], [.cells [cI x1.parent, cS x1.name, cI x1.value], .cells [cI x2.parent, cS x2.name, cI x2.value]]⟩ (by kernel_rfl) ⟨trivial, trivial, trivial⟩ ?_
  refine WO_nil rfl ?_
  refine thenS_n ?_
  refine W_seq ?_
  refine W_seq ?_
  refine W_region ?_
  refine WO_step 5 [0, 1] [2, 3, 9] (True ∧ (True ∧ (True ∧ True))) ⟨[(2, .one (.e (.p 0 0))), (3, .one (.e (.p 1 0))), (9, B (!decide (x1.parent = x2.parent)))], [.cells [cI x1.parent, cS x1.name, cI x1.value], .cells [cI x2.parent, cS x2.name, cI x2.value]]⟩ (by kernel_rfl) ⟨trivial, trivial, trivial, trivial⟩ ?_
  refine WO_nil rfl ?_
  refine thenS_n ?_
  refine iteO_e h (fun hb11 h => W_true rfl hb11 ?_) (fun hb11 h => W_false rfl hb11 ?_)
  · refine W_seq ?_
    refine W_region ?_
    refine WO_step 1 [] [4] True ⟨[(4, B false)], []⟩ (by kernel_rfl) trivial ?_
    refine WO_nil rfl ?_
    refine thenS_n ?_
    refine W_ret ?_
    refine thenS_r ?_
    cases h
    exact ⟨[], True, by kernel_rfl, trivial⟩
  · refine W_sub [0, 1] [2, 3] (st' := ⟨[(2, .one (.e (.p 0 0))), (3, .one (.e (.p 1 0)))], [.cells [cI x1.parent, cS x1.name, cI x1.value], .cells [cI x2.parent, cS x2.name, cI x2.value]]⟩) (by kernel_rfl) ?_
    refine W_skip ?_
    refine thenS_n ?_
    refine W_seq ?_
    refine W_seq ?_
    refine W_region ?_
    refine WO_step 5 [0, 1] [2, 3, 14] (True ∧ (True ∧ (True ∧ True))) ⟨[(2, .one (.e (.p 0 0))), (3, .one (.e (.p 1 0))), (14, B (!decide (x1.name = x2.name)))], [.cells [cI x1.parent, cS x1.name, cI x1.value], .cells [cI x2.parent, cS x2.name, cI x2.value]]⟩ (by kernel_rfl) ⟨trivial, trivial, trivial, trivial⟩ ?_
    refine WO_nil rfl ?_
    refine thenS_n ?_
    refine iteO_e h (fun hb13 h => W_true rfl hb13 ?_) (fun hb13 h => W_false rfl hb13 ?_)
    · refine W_seq ?_
      refine W_region ?_
      refine WO_step 1 [] [4] True ⟨[(4, B false)], []⟩ (by kernel_rfl) trivial ?_
      refine WO_nil rfl ?_
      refine thenS_n ?_
      refine W_ret ?_
      refine thenS_r ?_
      cases h
      exact ⟨[], True, by kernel_rfl, trivial⟩
    · refine W_sub [0, 1] [2, 3] (st' := ⟨[(2, .one (.e (.p 0 0))), (3, .one (.e (.p 1 0)))], [.cells [cI x1.parent, cS x1.name, cI x1.value], .cells [cI x2.parent, cS x2.name, cI x2.value]]⟩) (by kernel_rfl) ?_
      refine W_skip ?_
      refine thenS_n ?_
      refine W_seq ?_
      refine W_seq ?_
      refine W_region ?_
      refine WO_step 5 [] [19] (True ∧ (True ∧ (True ∧ True))) ⟨[(19, B (!decide (x1.value = x2.value)))], []⟩ (by kernel_rfl) ⟨trivial, trivial, trivial, trivial⟩ ?_
      refine WO_nil rfl ?_
      refine thenS_n ?_
      refine iteO_e h (fun hb15 h => W_true rfl hb15 ?_) (fun hb15 h => W_false rfl hb15 ?_)
      · refine W_seq ?_
        refine W_region ?_
        refine WO_step 1 [] [4] True ⟨[(4, B false)], []⟩ (by kernel_rfl) trivial ?_
        refine WO_nil rfl ?_
        refine thenS_n ?_
        refine W_ret ?_
        refine thenS_r ?_
        cases h
        exact ⟨[], True, by kernel_rfl, trivial⟩
      · refine W_sub [] [] (st' := ⟨[], []⟩) (by kernel_rfl) ?_
        refine W_skip ?_
        refine thenS_n ?_
        refine W_seq ?_
        refine W_region ?_
        refine WO_step 1 [] [4] True ⟨[(4, B true)], []⟩ (by kernel_rfl) trivial ?_
        refine WO_nil rfl ?_
        refine thenS_n ?_
        refine W_ret ?_
        cases h
        exact ⟨[], True, by kernel_rfl, trivial⟩

/- laws.eqNodeS -/
def laws_eqNodeS_L1 (x1 : List Nod) (x2 : List Nod) : Nat → Int → Option ((Unit) ⊕ (Unit))
| 0, _ => none
| n + 1, i73 =>
 iteO (decide (i73 < ((x1.length : Nat) : Int)))
 (guardO (0 ≤ i73 ∧ i73 < ((x1.length : Nat) : Int)) <|
 guardO (0 ≤ i73 ∧ i73 < ((x2.length : Nat) : Int)) <|
 bindO (laws_eqNode (x1.getD i73.toNat dnod) (x2.getD i73.toNat dnod)) fun b100 =>
 iteO (!b100)
 (some (.inl ()))
 (laws_eqNodeS_L1 x1 x2 n (w64 (i73 + 1))))
 (some (.inr ()))

theorem laws_eqNodeS_L1_ok (w : World) (X : Nat → Prop) (θ : List Loc) (x1 : List Nod) (x2 : List Nod) (v : (Unit) ⊕ (Unit)) : ∀ (n : Nat) (i73 : Int), laws_eqNodeS_L1 x1 x2 n i73 = some v → WL EE ⟨w, X, θ, 27, 2⟩ (subC [1, 1, 0, 1, 4, 4] (bodyC Try.f11)) (fun (e : Exit) (s : St) => (match v with | (.inl _) => e = .ret ∧ s = ⟨[(4, B false)], [.row .nod x1 false, .row .nod x2 false]⟩ | (.inr _) => e = .exit 0 ∧ s = ⟨[], [.row .nod x1 false, .row .nod x2 false]⟩ : Prop)) ⟨[(0, .one (.e (.sl 0 0 x1.length))), (1, .one (.e (.sl 1 0 x2.length))), (5, I i73)], [.row .nod x1 false, .row .nod x2 false]⟩ := by
  intro n
  induction n with
  | zero => intro _ h; exact none_e h
  | succ n ih =>
    intro i73 h
    rw [laws_eqNodeS_L1] at h
    refine WL_round ?_
    refine W_seq ?_
    refine W_seq ?_
    refine W_region ?_
    refine WO_step 4 [0, 1] [0, 1, 5, 14] (True ∧ (True ∧ True)) ⟨[(0, .one (.e (.sl 0 0 x1.length))), (1, .one (.e (.sl 1 0 x2.length))), (5, I i73), (14, B (decide (i73 < ((x1.length : Nat) : Int))))], [.row .nod x1 false, .row .nod x2 false]⟩ (by kernel_rfl) ⟨trivial, trivial, trivial⟩ ?_
    refine WO_nil rfl ?_
    refine thenS_n ?_
    refine iteO_e h (fun hb91 h => W_true rfl hb91 ?_) (fun hb91 h => W_false rfl hb91 ?_)
    · refine W_sub [0, 1] [0, 1, 5] (st' := ⟨[(0, .one (.e (.sl 0 0 x1.length))), (1, .one (.e (.sl 1 0 x2.length))), (5, I i73)], [.row .nod x1 false, .row .nod x2 false]⟩) (by kernel_rfl) ?_
      refine W_skip ?_
      refine thenS_n ?_
      refine W_seq ?_
      refine W_block ?_
      refine W_seq ?_
      refine guardO_e h (fun hg98 h => ?_)
      refine guardO_e h (fun hg99 h => ?_)
      refine bindO_e h (fun b100 hc101 h => ?_)
      refine W_cut (Q' := fun (e : Exit) (s : St) => e = .normal ∧ s = ⟨[(0, .one (.e (.sl 0 0 x1.length))), (1, .one (.e (.sl 1 0 x2.length))), (5, I i73), (26, B (!b100))], [.row .nod x1 false, .row .nod x2 false]⟩) ?_ ?_
      · refine W_draw [] false (by kernel_rfl) (by kernel_rfl) ?_
        refine WD_takeK [0, 1, 2, 3, 4, 5, 6, 7] [0, 1, 5, 20, 24] [0, 1, 5, 20, 24] (φ := ((0 ≤ i73 ∧ i73 < ((x1.length : Nat) : Int)) ∧ (0 ≤ i73 ∧ i73 < ((x1.length : Nat) : Int)) ∧ (True ∧ True ∧ ((0 ≤ i73 ∧ i73 < ((x2.length : Nat) : Int)) ∧ (0 ≤ i73 ∧ i73 < ((x2.length : Nat) : Int)) ∧ (True ∧ True ∧ True))))) (ls' := #[true, true, true, true, true, true, true, true, false, false]) (Ts' := [(0, .one (.e (.sl 0 0 x1.length))), (1, .one (.e (.sl 1 0 x2.length))), (5, I i73), (20, AGG [cI ((x1.getD i73.toNat dnod).parent), cS ((x1.getD i73.toNat dnod).name), cI ((x1.getD i73.toNat dnod).value)]), (24, AGG [cI ((x2.getD i73.toNat dnod).parent), cS ((x2.getD i73.toNat dnod).name), cI ((x2.getD i73.toNat dnod).value)])]) (st' := ⟨[(0, .one (.e (.sl 0 0 x1.length))), (1, .one (.e (.sl 1 0 x2.length))), (5, I i73), (20, AGG [cI ((x1.getD i73.toNat dnod).parent), cS ((x1.getD i73.toNat dnod).name), cI ((x1.getD i73.toNat dnod).value)]), (24, AGG [cI ((x2.getD i73.toNat dnod).parent), cS ((x2.getD i73.toNat dnod).name), cI ((x2.getD i73.toNat dnod).value)])], [.row .nod x1 false, .row .nod x2 false]⟩) (n2 := 2) (by kernel_rfl) ⟨hg98, hg98, trivial, trivial, hg99, hg99, trivial, trivial, trivial⟩ rfl ?_
        refine WD_all [8] (n := 1) (by kernel_rfl) rfl ?_
        refine WM_call [] Try.f31 rfl rfl (by kernel_rfl) Try.func31 rfl (by kernel_rfl) (laws_eqNode_ok (x1.getD i73.toNat dnod) (x2.getD i73.toNat dnod) b100 hc101) (trivial) rfl (And.intro rfl (And.intro rfl (trivial))) ?_
        refine WD_takeK [9] [0, 1, 5, 26] [0, 1, 5, 26] (φ := True) (ls' := #[true, true, true, true, true, true, true, true, true, true]) (Ts' := [(0, .one (.e (.sl 0 0 x1.length))), (1, .one (.e (.sl 1 0 x2.length))), (5, I i73), (26, B (!b100))]) (st' := ⟨[(0, .one (.e (.sl 0 0 x1.length))), (1, .one (.e (.sl 1 0 x2.length))), (5, I i73), (26, B (!b100))], [.row .nod x1 false, .row .nod x2 false]⟩) (n2 := 0) (by kernel_rfl) trivial rfl ?_
        exact WD_done [0, 1] [0, 1, 5, 26] (st' := ⟨[(0, .one (.e (.sl 0 0 x1.length))), (1, .one (.e (.sl 1 0 x2.length))), (5, I i73), (26, B (!b100))], [.row .nod x1 false, .row .nod x2 false]⟩) (by kernel_rfl) (by kernel_rfl) (And.intro rfl rfl)
      · rintro _ _ ⟨rfl, rfl⟩
        refine thenS_n ?_
        refine iteO_e h (fun hb103 h => W_true rfl hb103 ?_) (fun hb103 h => W_false rfl hb103 ?_)
        · refine W_seq ?_
          refine W_region ?_
          refine WO_step 1 [0, 1] [4] True ⟨[(4, B false)], [.row .nod x1 false, .row .nod x2 false]⟩ (by kernel_rfl) trivial ?_
          refine WO_nil rfl ?_
          refine thenS_n ?_
          refine W_ret ?_
          refine blockS_r ?_
          refine thenS_r ?_
          refine thenS_r ?_
          cases h
          exact And.intro rfl rfl
        · refine W_sub [0, 1] [0, 1, 5] (st' := ⟨[(0, .one (.e (.sl 0 0 x1.length))), (1, .one (.e (.sl 1 0 x2.length))), (5, I i73)], [.row .nod x1 false, .row .nod x2 false]⟩) (by kernel_rfl) ?_
          refine W_skip ?_
          refine blockS_n ?_
          refine thenS_n ?_
          refine W_region ?_
          refine WO_step 3 [0, 1] [0, 1, 5] (True ∧ True) ⟨[(0, .one (.e (.sl 0 0 x1.length))), (1, .one (.e (.sl 1 0 x2.length))), (5, I (w64 (i73 + 1)))], [.row .nod x1 false, .row .nod x2 false]⟩ (by kernel_rfl) ⟨trivial, trivial⟩ ?_
          refine WO_nil rfl ?_
          refine thenS_n ?_
          exact ih _ h
    · refine W_sub [0, 1] [] (st' := ⟨[], [.row .nod x1 false, .row .nod x2 false]⟩) (by kernel_rfl) ?_
      refine W_exit ?_
      refine thenS_e ?_
      refine thenS_e ?_
      cases h
      exact And.intro rfl rfl

def laws_eqNodeS (n : Nat) (x1 : List Nod) (x2 : List Nod) : Option (Bool) :=
 iteO (!decide (((x1.length : Nat) : Int) = ((x2.length : Nat) : Int)))
 (some false)
 (bindO (laws_eqNodeS_L1 x1 x2 n 0) fun v104 =>
 match v104 with
 | (.inl _) => (some false)
 | (.inr _) => (some true)
)

theorem laws_eqNodeS_ok (n : Nat) (x1 : List Nod) (x2 : List Nod) (b53 : Bool) (h : laws_eqNodeS n x1 x2 = some b53) : FOk EE 11 [.one (.e (.sl 0 0 x1.length)), .one (.e (.sl 1 0 x2.length))] [.row .nod x1 false, .row .nod x2 false] (B b53) [.row .nod x1 false, .row .nod x2 false] := by
  unfold laws_eqNodeS at h
  refine FOk_of_W 27 2 Try.func11 rfl rfl (Nat.le_of_ble_eq_true rfl) rfl (fun w X θ => ?_)
  refine W_seq ?_
  refine W_region ?_
  refine WO_step 1 [0, 1] [0, 1] True ⟨[(0, .one (.e (.sl 0 0 x1.length))), (1, .one (.e (.sl 1 0 x2.length)))], [.row .nod x1 false, .row .nod x2 false]⟩ (by kernel_rfl) trivial ?_
  refine WO_nil rfl ?_
  refine thenS_n ?_
  refine W_seq ?_
  refine W_seq ?_
  refine W_region ?_
  refine WO_step 5 [0, 1] [0, 1, 10] (True ∧ (True ∧ (True ∧ True))) ⟨[(0, .one (.e (.sl 0 0 x1.length))), (1, .one (.e (.sl 1 0 x2.length))), (10, B (!decide (((x1.length : Nat) : Int) = ((x2.length : Nat) : Int))))], [.row .nod x1 false, .row .nod x2 false]⟩ (by kernel_rfl) ⟨trivial, trivial, trivial, trivial⟩ ?_
  refine WO_nil rfl ?_
  refine thenS_n ?_
  refine iteO_e h (fun hb55 h => W_true rfl hb55 ?_) (fun hb55 h => W_false rfl hb55 ?_)
  · refine W_seq ?_
    refine W_region ?_
    refine WO_step 1 [0, 1] [4] True ⟨[(4, B false)], [.row .nod x1 false, .row .nod x2 false]⟩ (by kernel_rfl) trivial ?_
    refine WO_nil rfl ?_
    refine thenS_n ?_
    refine W_ret ?_
    refine thenS_r ?_
    cases h
    exact ⟨[0, 1], True, by kernel_rfl, trivial⟩
  · refine W_sub [0, 1] [0, 1] (st' := ⟨[(0, .one (.e (.sl 0 0 x1.length))), (1, .one (.e (.sl 1 0 x2.length)))], [.row .nod x1 false, .row .nod x2 false]⟩) (by kernel_rfl) ?_
    refine W_skip ?_
    refine thenS_n ?_
    refine W_seq ?_
    refine W_seq ?_
    refine W_region ?_
    refine WO_step 1 [0, 1] [0, 1, 5] True ⟨[(0, .one (.e (.sl 0 0 x1.length))), (1, .one (.e (.sl 1 0 x2.length))), (5, I 0)], [.row .nod x1 false, .row .nod x2 false]⟩ (by kernel_rfl) trivial ?_
    refine WO_nil rfl ?_
    refine thenS_n ?_
    refine W_block ?_
    refine W_loop ?_
    refine bindO_e h (fun v104 hv104 h => ?_)
    refine WL_cut (laws_eqNodeS_L1_ok w X θ x1 x2 v104 n 0 hv104) ?_
    rcases v104 with _ | _
    · rintro _ _ ⟨rfl, rfl⟩
      refine blockS_r ?_
      refine thenS_r ?_
      cases h
      exact ⟨[0, 1], True, by kernel_rfl, trivial⟩
    · rintro _ _ ⟨rfl, rfl⟩
      refine blockS_y ?_
      refine thenS_n ?_
      refine W_seq ?_
      refine W_region ?_
      refine WO_step 1 [0, 1] [4] True ⟨[(4, B true)], [.row .nod x1 false, .row .nod x2 false]⟩ (by kernel_rfl) trivial ?_
      refine WO_nil rfl ?_
      refine thenS_n ?_
      refine W_ret ?_
      cases h
      exact ⟨[0, 1], True, by kernel_rfl, trivial⟩

/- laws.markText -/
def laws_markText_L1 : Nat → Int → Str → Option (Str)
| 0, _, _ => none
| n + 1, i42, s43 =>
 iteO (decide (0 < i42))
 (guardO ((bytesOf (([(IntKind.u8.wrap (w64 (48 + (i42.tmod 10))))].drop 0).take ([(IntKind.u8.wrap (w64 (48 + (i42.tmod 10))))].length))).length + s43.length ≤ 1099511627776) <|
 laws_markText_L1  n (w64 (i42.tdiv 10)) ((bytesOf (([(IntKind.u8.wrap (w64 (48 + (i42.tmod 10))))].drop 0).take ([(IntKind.u8.wrap (w64 (48 + (i42.tmod 10))))].length))) ++ s43))
 (some s43)

theorem laws_markText_L1_ok (w : World) (X : Nat → Prop) (θ : List Loc)  (s50 : Str) : ∀ (n : Nat) (i42 : Int) (s43 : Str), laws_markText_L1  n i42 s43 = some s50 → WL EE ⟨w, X, θ, 20, 0⟩ (subC [1, 1, 1, 0, 4, 4] (bodyC Try.f32)) (fun (e : Exit) (s : St) => e = .exit 0 ∧ s = ⟨[(3, S s50)], []⟩) ⟨[(0, I i42), (3, S s43)], []⟩ := by
  intro n
  induction n with
  | zero => intro _ _ h; exact none_e h
  | succ n ih =>
    intro i42 s43 h
    rw [laws_markText_L1] at h
    refine WL_round ?_
    refine W_seq ?_
    refine W_seq ?_
    refine W_region ?_
    refine WO_step 2 [] [0, 3, 7] (True ∧ True) ⟨[(0, I i42), (3, S s43), (7, B (decide (0 < i42)))], []⟩ (by kernel_rfl) ⟨trivial, trivial⟩ ?_
    refine WO_nil rfl ?_
    refine thenS_n ?_
    refine iteO_e h (fun hb53 h => W_true rfl hb53 ?_) (fun hb53 h => W_false rfl hb53 ?_)
    · refine W_sub [] [0, 3] (st' := ⟨[(0, I i42), (3, S s43)], []⟩) (by kernel_rfl) ?_
      refine W_skip ?_
      refine thenS_n ?_
      refine W_block ?_
      refine W_seq ?_
      refine W_region ?_
      refine guardO_e h (fun hg55 h => ?_)
      refine WO_step 9 [] [0, 3] (((10 : Int) ≠ 0) ∧ (True ∧ (True ∧ (True ∧ (((bytesOf (([(IntKind.u8.wrap (w64 (48 + (i42.tmod 10))))].drop 0).take ([(IntKind.u8.wrap (w64 (48 + (i42.tmod 10))))].length))).length + s43.length ≤ 1099511627776) ∧ True))))) ⟨[(0, I i42), (3, S ((bytesOf (([(IntKind.u8.wrap (w64 (48 + (i42.tmod 10))))].drop 0).take ([(IntKind.u8.wrap (w64 (48 + (i42.tmod 10))))].length))) ++ s43))], []⟩ (by kernel_rfl) ⟨(by decide), trivial, trivial, trivial, hg55, trivial⟩ ?_
      refine WO_nil rfl ?_
      refine thenS_n ?_
      refine W_region ?_
      refine WO_step 3 [] [0, 3] (((10 : Int) ≠ 0) ∧ True) ⟨[(0, I (w64 (i42.tdiv 10))), (3, S ((bytesOf (([(IntKind.u8.wrap (w64 (48 + (i42.tmod 10))))].drop 0).take ([(IntKind.u8.wrap (w64 (48 + (i42.tmod 10))))].length))) ++ s43))], []⟩ (by kernel_rfl) ⟨(by decide), trivial⟩ ?_
      refine WO_nil rfl ?_
      refine blockS_n ?_
      refine thenS_n ?_
      exact ih _ _ h
    · refine W_sub [] [3] (st' := ⟨[(3, S s43)], []⟩) (by kernel_rfl) ?_
      refine W_exit ?_
      refine thenS_e ?_
      refine thenS_e ?_
      cases h
      exact And.intro rfl rfl

def laws_markText (n : Nat) (i1 : Int) : Option (Str) :=
 iteO (decide (i1 ≤ 0))
 (some [109, 48])
 (bindO (laws_markText_L1  n i1 []) fun s50 =>
 guardO ([109].length + s50.length ≤ 1099511627776) <|
 some ([109] ++ s50))

theorem laws_markText_ok (n : Nat) (i1 : Int) (s29 : Str) (h : laws_markText n i1 = some s29) : FOk EE 32 [I i1] [] (S s29) [] := by
  unfold laws_markText at h
  refine FOk_of_W 20 0 Try.func32 rfl rfl (Nat.le_of_ble_eq_true rfl) rfl (fun w X θ => ?_)
  refine W_seq ?_
  refine W_region ?_
  refine WO_step 1 [] [0] True ⟨[(0, I i1)], []⟩ (by kernel_rfl) trivial ?_
  refine WO_nil rfl ?_
  refine thenS_n ?_
  refine W_seq ?_
  refine W_seq ?_
  refine W_region ?_
  refine WO_step 2 [] [0, 5] (True ∧ True) ⟨[(0, I i1), (5, B (decide (i1 ≤ 0)))], []⟩ (by kernel_rfl) ⟨trivial, trivial⟩ ?_
  refine WO_nil rfl ?_
  refine thenS_n ?_
  refine iteO_e h (fun hb31 h => W_true rfl hb31 ?_) (fun hb31 h => W_false rfl hb31 ?_)
  · refine W_seq ?_
    refine W_region ?_
    refine WO_step 1 [] [2] True ⟨[(2, S [109, 48])], []⟩ (by kernel_rfl) trivial ?_
    refine WO_nil rfl ?_
    refine thenS_n ?_
    refine W_ret ?_
    refine thenS_r ?_
    cases h
    exact ⟨[], True, by kernel_rfl, trivial⟩
  · refine W_sub [] [0] (st' := ⟨[(0, I i1)], []⟩) (by kernel_rfl) ?_
    refine W_skip ?_
    refine thenS_n ?_
    refine W_seq ?_
    refine W_region ?_
    refine WO_step 1 [] [0, 3] True ⟨[(0, I i1), (3, S [])], []⟩ (by kernel_rfl) trivial ?_
    refine WO_nil rfl ?_
    refine thenS_n ?_
    refine W_seq ?_
    refine W_block ?_
    refine W_loop ?_
    refine bindO_e h (fun s50 hs50 h => ?_)
    refine WL_cut (laws_markText_L1_ok w X θ  s50 n i1 [] hs50) ?_
    rintro _ _ ⟨rfl, rfl⟩
    refine blockS_y ?_
    refine thenS_n ?_
    refine W_seq ?_
    refine W_region ?_
    refine guardO_e h (fun hg57 h => ?_)
    refine WO_step 3 [] [2] (([109].length + s50.length ≤ 1099511627776) ∧ True) ⟨[(2, S ([109] ++ s50))], []⟩ (by kernel_rfl) ⟨hg57, trivial⟩ ?_
    refine WO_nil rfl ?_
    refine thenS_n ?_
    refine W_ret ?_
    cases h
    exact ⟨[], True, by kernel_rfl, trivial⟩

/- laws.markNodeS -/
def laws_markNodeS_L1 (k2 : Nat) : Nat → (List Nod) → Int → Int → Option (((List Nod) × Int))
| 0, _, _, _ => none
| n + 1, x81, i82, i83 =>
 iteO (decide (i83 < ((k2 : Nat) : Int)))
 (guardO (0 ≤ i83 ∧ i83 < ((k2 : Nat) : Int)) <|
 bindO (laws_markText n (w64 (i82 + 1))) fun s110 =>
 guardO (0 ≤ i83 ∧ i83 < ((k2 : Nat) : Int)) <|
 guardO (0 ≤ i83 ∧ i83 < ((k2 : Nat) : Int)) <|
 laws_markNodeS_L1 k2 n (((x81.set i83.toNat (⟨i82, (x81.getD i83.toNat dnod).name, (x81.getD i83.toNat dnod).value⟩ : Nod)).set i83.toNat (⟨((x81.set i83.toNat (⟨i82, (x81.getD i83.toNat dnod).name, (x81.getD i83.toNat dnod).value⟩ : Nod)).getD i83.toNat dnod).parent, s110, ((x81.set i83.toNat (⟨i82, (x81.getD i83.toNat dnod).name, (x81.getD i83.toNat dnod).value⟩ : Nod)).getD i83.toNat dnod).value⟩ : Nod)).set i83.toNat (⟨(((x81.set i83.toNat (⟨i82, (x81.getD i83.toNat dnod).name, (x81.getD i83.toNat dnod).value⟩ : Nod)).set i83.toNat (⟨((x81.set i83.toNat (⟨i82, (x81.getD i83.toNat dnod).name, (x81.getD i83.toNat dnod).value⟩ : Nod)).getD i83.toNat dnod).parent, s110, ((x81.set i83.toNat (⟨i82, (x81.getD i83.toNat dnod).name, (x81.getD i83.toNat dnod).value⟩ : Nod)).getD i83.toNat dnod).value⟩ : Nod)).getD i83.toNat dnod).parent, (((x81.set i83.toNat (⟨i82, (x81.getD i83.toNat dnod).name, (x81.getD i83.toNat dnod).value⟩ : Nod)).set i83.toNat (⟨((x81.set i83.toNat (⟨i82, (x81.getD i83.toNat dnod).name, (x81.getD i83.toNat dnod).value⟩ : Nod)).getD i83.toNat dnod).parent, s110, ((x81.set i83.toNat (⟨i82, (x81.getD i83.toNat dnod).name, (x81.getD i83.toNat dnod).value⟩ : Nod)).getD i83.toNat dnod).value⟩ : Nod)).getD i83.toNat dnod).name, (w64 ((w64 (i82 + 1)) + 1))⟩ : Nod)) (w64 ((w64 ((w64 (i82 + 1)) + 1)) + 1)) (w64 (i83 + 1)))
 (some (x81, i82))

theorem laws_markNodeS_L1_ok (w : World) (X : Nat → Prop) (θ : List Loc) (k2 : Nat) (v : ((List Nod) × Int)) : ∀ (n : Nat) (x81 : List Nod) (i82 : Int) (i83 : Int), laws_markNodeS_L1 k2 n x81 i82 i83 = some v → WL EE ⟨w, X, θ, 35, 1⟩ (subC [1, 0, 1, 4, 4] (bodyC Try.f12)) (fun (e : Exit) (s : St) => (match v with | (x99, i100) => e = .exit 0 ∧ s = ⟨[(1, I i100)], [.row .nod x99 true]⟩ : Prop)) ⟨[(0, .one (.e (.sl 0 0 k2))), (1, I i82), (5, I i83)], [.row .nod x81 true]⟩ := by
  intro n
  induction n with
  | zero => intro _ _ _ h; exact none_e h
  | succ n ih =>
    intro x81 i82 i83 h
    rw [laws_markNodeS_L1] at h
    refine WL_round ?_
    refine W_seq ?_
    refine W_seq ?_
    refine W_region ?_
    refine WO_step 4 [0] [0, 1, 5, 9] (True ∧ (True ∧ True)) ⟨[(0, .one (.e (.sl 0 0 k2))), (1, I i82), (5, I i83), (9, B (decide (i83 < ((k2 : Nat) : Int))))], [.row .nod x81 true]⟩ (by kernel_rfl) ⟨trivial, trivial, trivial⟩ ?_
    refine WO_nil rfl ?_
    refine thenS_n ?_
    refine iteO_e h (fun hb103 h => W_true rfl hb103 ?_) (fun hb103 h => W_false rfl hb103 ?_)
    · refine W_sub [0] [0, 1, 5] (st' := ⟨[(0, .one (.e (.sl 0 0 k2))), (1, I i82), (5, I i83)], [.row .nod x81 true]⟩) (by kernel_rfl) ?_
      refine W_skip ?_
      refine thenS_n ?_
      refine W_seq ?_
      refine W_block ?_
      refine W_seq ?_
      refine W_region ?_
      refine guardO_e h (fun hg109 h => ?_)
      refine WO_step 6 [0] [0, 1, 5] ((0 ≤ i83 ∧ i83 < ((k2 : Nat) : Int)) ∧ (True ∧ True)) ⟨[(0, .one (.e (.sl 0 0 k2))), (1, I i82), (5, I i83)], [.row .nod (x81.set i83.toNat (⟨i82, (x81.getD i83.toNat dnod).name, (x81.getD i83.toNat dnod).value⟩ : Nod)) true]⟩ (by kernel_rfl) ⟨hg109, trivial, trivial⟩ ?_
      refine WO_nil rfl ?_
      refine thenS_n ?_
      refine W_seq ?_
      refine W_region ?_
      refine WO_step 3 [0] [0, 1, 5] (True ∧ True) ⟨[(0, .one (.e (.sl 0 0 k2))), (1, I (w64 (i82 + 1))), (5, I i83)], [.row .nod (x81.set i83.toNat (⟨i82, (x81.getD i83.toNat dnod).name, (x81.getD i83.toNat dnod).value⟩ : Nod)) true]⟩ (by kernel_rfl) ⟨trivial, trivial⟩ ?_
      refine WO_nil rfl ?_
      refine thenS_n ?_
      refine W_seq ?_
      refine W_region ?_
      refine WO_step 3 [0] [0, 1, 5, 19, 20, 21] True ⟨[(0, .one (.e (.sl 0 0 k2))), (1, I (w64 (i82 + 1))), (5, I i83), (19, .one (.e (.sl 0 0 k2))), (20, I i83), (21, I (w64 (i82 + 1)))], [.row .nod (x81.set i83.toNat (⟨i82, (x81.getD i83.toNat dnod).name, (x81.getD i83.toNat dnod).value⟩ : Nod)) true]⟩ (by kernel_rfl) trivial ?_
      refine bindO_e h (fun s110 hc111 h => ?_)
      refine WO_call [] Try.f32 rfl rfl rfl (by kernel_rfl) Try.func32 rfl (by kernel_rfl) (laws_markText_ok n (w64 (i82 + 1)) s110 hc111) (trivial) rfl ?_
      refine guardO_e h (fun hg112 h => ?_)
      refine WO_step 3 [0] [0, 1, 5] ((0 ≤ i83 ∧ i83 < ((k2 : Nat) : Int)) ∧ (True ∧ True)) ⟨[(0, .one (.e (.sl 0 0 k2))), (1, I (w64 (i82 + 1))), (5, I i83)], [.row .nod ((x81.set i83.toNat (⟨i82, (x81.getD i83.toNat dnod).name, (x81.getD i83.toNat dnod).value⟩ : Nod)).set i83.toNat (⟨((x81.set i83.toNat (⟨i82, (x81.getD i83.toNat dnod).name, (x81.getD i83.toNat dnod).value⟩ : Nod)).getD i83.toNat dnod).parent, s110, ((x81.set i83.toNat (⟨i82, (x81.getD i83.toNat dnod).name, (x81.getD i83.toNat dnod).value⟩ : Nod)).getD i83.toNat dnod).value⟩ : Nod)) true]⟩ (by kernel_rfl) ⟨hg112, trivial, trivial⟩ ?_
      refine WO_nil rfl ?_
      refine thenS_n ?_
      refine W_seq ?_
      refine W_region ?_
      refine WO_step 3 [0] [0, 1, 5] (True ∧ True) ⟨[(0, .one (.e (.sl 0 0 k2))), (1, I (w64 ((w64 (i82 + 1)) + 1))), (5, I i83)], [.row .nod ((x81.set i83.toNat (⟨i82, (x81.getD i83.toNat dnod).name, (x81.getD i83.toNat dnod).value⟩ : Nod)).set i83.toNat (⟨((x81.set i83.toNat (⟨i82, (x81.getD i83.toNat dnod).name, (x81.getD i83.toNat dnod).value⟩ : Nod)).getD i83.toNat dnod).parent, s110, ((x81.set i83.toNat (⟨i82, (x81.getD i83.toNat dnod).name, (x81.getD i83.toNat dnod).value⟩ : Nod)).getD i83.toNat dnod).value⟩ : Nod)) true]⟩ (by kernel_rfl) ⟨trivial, trivial⟩ ?_
      refine WO_nil rfl ?_
      refine thenS_n ?_
      refine W_seq ?_
      refine W_region ?_
      refine guardO_e h (fun hg113 h => ?_)
      refine WO_step 6 [0] [0, 1, 5] ((0 ≤ i83 ∧ i83 < ((k2 : Nat) : Int)) ∧ (True ∧ True)) ⟨[(0, .one (.e (.sl 0 0 k2))), (1, I (w64 ((w64 (i82 + 1)) + 1))), (5, I i83)], [.row .nod (((x81.set i83.toNat (⟨i82, (x81.getD i83.toNat dnod).name, (x81.getD i83.toNat dnod).value⟩ : Nod)).set i83.toNat (⟨((x81.set i83.toNat (⟨i82, (x81.getD i83.toNat dnod).name, (x81.getD i83.toNat dnod).value⟩ : Nod)).getD i83.toNat dnod).parent, s110, ((x81.set i83.toNat (⟨i82, (x81.getD i83.toNat dnod).name, (x81.getD i83.toNat dnod).value⟩ : Nod)).getD i83.toNat dnod).value⟩ : Nod)).set i83.toNat (⟨(((x81.set i83.toNat (⟨i82, (x81.getD i83.toNat dnod).name, (x81.getD i83.toNat dnod).value⟩ : Nod)).set i83.toNat (⟨((x81.set i83.toNat (⟨i82, (x81.getD i83.toNat dnod).name, (x81.getD i83.toNat dnod).value⟩ : Nod)).getD i83.toNat dnod).parent, s110, ((x81.set i83.toNat (⟨i82, (x81.getD i83.toNat dnod).name, (x81.getD i83.toNat dnod).value⟩ : Nod)).getD i83.toNat dnod).value⟩ : Nod)).getD i83.toNat dnod).parent, (((x81.set i83.toNat (⟨i82, (x81.getD i83.toNat dnod).name, (x81.getD i83.toNat dnod).value⟩ : Nod)).set i83.toNat (⟨((x81.set i83.toNat (⟨i82, (x81.getD i83.toNat dnod).name, (x81.getD i83.toNat dnod).value⟩ : Nod)).getD i83.toNat dnod).parent, s110, ((x81.set i83.toNat (⟨i82, (x81.getD i83.toNat dnod).name, (x81.getD i83.toNat dnod).value⟩ : Nod)).getD i83.toNat dnod).value⟩ : Nod)).getD i83.toNat dnod).name, (w64 ((w64 (i82 + 1)) + 1))⟩ : Nod)) true]⟩ (by kernel_rfl) ⟨hg113, trivial, trivial⟩ ?_
      refine WO_nil rfl ?_
      refine thenS_n ?_
      refine W_region ?_
      refine WO_step 3 [0] [0, 1, 5] (True ∧ True) ⟨[(0, .one (.e (.sl 0 0 k2))), (1, I (w64 ((w64 ((w64 (i82 + 1)) + 1)) + 1))), (5, I i83)], [.row .nod (((x81.set i83.toNat (⟨i82, (x81.getD i83.toNat dnod).name, (x81.getD i83.toNat dnod).value⟩ : Nod)).set i83.toNat (⟨((x81.set i83.toNat (⟨i82, (x81.getD i83.toNat dnod).name, (x81.getD i83.toNat dnod).value⟩ : Nod)).getD i83.toNat dnod).parent, s110, ((x81.set i83.toNat (⟨i82, (x81.getD i83.toNat dnod).name, (x81.getD i83.toNat dnod).value⟩ : Nod)).getD i83.toNat dnod).value⟩ : Nod)).set i83.toNat (⟨(((x81.set i83.toNat (⟨i82, (x81.getD i83.toNat dnod).name, (x81.getD i83.toNat dnod).value⟩ : Nod)).set i83.toNat (⟨((x81.set i83.toNat (⟨i82, (x81.getD i83.toNat dnod).name, (x81.getD i83.toNat dnod).value⟩ : Nod)).getD i83.toNat dnod).parent, s110, ((x81.set i83.toNat (⟨i82, (x81.getD i83.toNat dnod).name, (x81.getD i83.toNat dnod).value⟩ : Nod)).getD i83.toNat dnod).value⟩ : Nod)).getD i83.toNat dnod).parent, (((x81.set i83.toNat (⟨i82, (x81.getD i83.toNat dnod).name, (x81.getD i83.toNat dnod).value⟩ : Nod)).set i83.toNat (⟨((x81.set i83.toNat (⟨i82, (x81.getD i83.toNat dnod).name, (x81.getD i83.toNat dnod).value⟩ : Nod)).getD i83.toNat dnod).parent, s110, ((x81.set i83.toNat (⟨i82, (x81.getD i83.toNat dnod).name, (x81.getD i83.toNat dnod).value⟩ : Nod)).getD i83.toNat dnod).value⟩ : Nod)).getD i83.toNat dnod).name, (w64 ((w64 (i82 + 1)) + 1))⟩ : Nod)) true]⟩ (by kernel_rfl) ⟨trivial, trivial⟩ ?_
      refine WO_nil rfl ?_
      refine blockS_n ?_
      refine thenS_n ?_
      refine W_region ?_
      refine WO_step 3 [0] [0, 1, 5] (True ∧ True) ⟨[(0, .one (.e (.sl 0 0 k2))), (1, I (w64 ((w64 ((w64 (i82 + 1)) + 1)) + 1))), (5, I (w64 (i83 + 1)))], [.row .nod (((x81.set i83.toNat (⟨i82, (x81.getD i83.toNat dnod).name, (x81.getD i83.toNat dnod).value⟩ : Nod)).set i83.toNat (⟨((x81.set i83.toNat (⟨i82, (x81.getD i83.toNat dnod).name, (x81.getD i83.toNat dnod).value⟩ : Nod)).getD i83.toNat dnod).parent, s110, ((x81.set i83.toNat (⟨i82, (x81.getD i83.toNat dnod).name, (x81.getD i83.toNat dnod).value⟩ : Nod)).getD i83.toNat dnod).value⟩ : Nod)).set i83.toNat (⟨(((x81.set i83.toNat (⟨i82, (x81.getD i83.toNat dnod).name, (x81.getD i83.toNat dnod).value⟩ : Nod)).set i83.toNat (⟨((x81.set i83.toNat (⟨i82, (x81.getD i83.toNat dnod).name, (x81.getD i83.toNat dnod).value⟩ : Nod)).getD i83.toNat dnod).parent, s110, ((x81.set i83.toNat (⟨i82, (x81.getD i83.toNat dnod).name, (x81.getD i83.toNat dnod).value⟩ : Nod)).getD i83.toNat dnod).value⟩ : Nod)).getD i83.toNat dnod).parent, (((x81.set i83.toNat (⟨i82, (x81.getD i83.toNat dnod).name, (x81.getD i83.toNat dnod).value⟩ : Nod)).set i83.toNat (⟨((x81.set i83.toNat (⟨i82, (x81.getD i83.toNat dnod).name, (x81.getD i83.toNat dnod).value⟩ : Nod)).getD i83.toNat dnod).parent, s110, ((x81.set i83.toNat (⟨i82, (x81.getD i83.toNat dnod).name, (x81.getD i83.toNat dnod).value⟩ : Nod)).getD i83.toNat dnod).value⟩ : Nod)).getD i83.toNat dnod).name, (w64 ((w64 (i82 + 1)) + 1))⟩ : Nod)) true]⟩ (by kernel_rfl) ⟨trivial, trivial⟩ ?_
      refine WO_nil rfl ?_
      refine thenS_n ?_
      exact ih _ _ _ h
    · refine W_sub [0] [1] (st' := ⟨[(1, I i82)], [.row .nod x81 true]⟩) (by kernel_rfl) ?_
      refine W_exit ?_
      refine thenS_e ?_
      refine thenS_e ?_
      cases h
      exact And.intro rfl rfl

def laws_markNodeS (n : Nat) (x1 : List Nod) (k2 : Nat) (i3 : Int) : Option ((List Nod) × Int) :=
 bindO (laws_markNodeS_L1 k2 n x1 i3 0) fun v114 =>
 match v114 with
 | (x99, i100) => (some (x99, i100))


theorem laws_markNodeS_ok (n : Nat) (x1 : List Nod) (k2 : Nat) (i3 : Int) (x58 : List Nod) (i59 : Int) (h : laws_markNodeS n x1 k2 i3 = some (x58, i59)) : FOk EE 12 [.one (.e (.sl 0 0 k2)), I i3] [.row .nod x1 true] (I i59) [.row .nod x58 true] := by
  unfold laws_markNodeS at h
  refine FOk_of_W 35 1 Try.func12 rfl rfl (Nat.le_of_ble_eq_true rfl) rfl (fun w X θ => ?_)
  refine W_seq ?_
  refine W_region ?_
  refine WO_step 1 [0] [0, 1] True ⟨[(0, .one (.e (.sl 0 0 k2))), (1, I i3)], [.row .nod x1 true]⟩ (by kernel_rfl) trivial ?_
  refine WO_nil rfl ?_
  refine thenS_n ?_
  refine W_seq ?_
  refine W_seq ?_
  refine W_region ?_
  refine WO_step 1 [0] [0, 1, 5] True ⟨[(0, .one (.e (.sl 0 0 k2))), (1, I i3), (5, I 0)], [.row .nod x1 true]⟩ (by kernel_rfl) trivial ?_
  refine WO_nil rfl ?_
  refine thenS_n ?_
  refine W_block ?_
  refine W_loop ?_
  refine bindO_e h (fun v114 hv114 h => ?_)
  refine WL_cut (laws_markNodeS_L1_ok w X θ k2 v114 n x1 i3 0 hv114) ?_
  obtain ⟨x99, i100⟩ := v114
  rintro _ _ ⟨rfl, rfl⟩
  refine blockS_y ?_
  refine thenS_n ?_
  refine W_seq ?_
  refine W_region ?_
  refine WO_step 2 [0] [4] True ⟨[(4, I i100)], [.row .nod x99 true]⟩ (by kernel_rfl) trivial ?_
  refine WO_nil rfl ?_
  refine thenS_n ?_
  refine W_ret ?_
  cases h
  exact ⟨[0], True, by kernel_rfl, trivial⟩

/- laws.markEditS -/
def laws_markEditS_L1 (k2 : Nat) : Nat → (List Edt) → Int → Int → Option (((List Edt) × Int))
| 0, _, _, _ => none
| n + 1, x81, i82, i83 =>
 iteO (decide (i83 < ((k2 : Nat) : Int)))
 (guardO (0 ≤ i83 ∧ i83 < ((k2 : Nat) : Int)) <|
 bindO (laws_markText n (w64 (i82 + 1))) fun s110 =>
 guardO (0 ≤ i83 ∧ i83 < ((k2 : Nat) : Int)) <|
 guardO (0 ≤ i83 ∧ i83 < ((k2 : Nat) : Int)) <|
 laws_markEditS_L1 k2 n (((x81.set i83.toNat (⟨i82, (x81.getD i83.toNat dedt).path, (x81.getD i83.toNat dedt).value⟩ : Edt)).set i83.toNat (⟨((x81.set i83.toNat (⟨i82, (x81.getD i83.toNat dedt).path, (x81.getD i83.toNat dedt).value⟩ : Edt)).getD i83.toNat dedt).kind, s110, ((x81.set i83.toNat (⟨i82, (x81.getD i83.toNat dedt).path, (x81.getD i83.toNat dedt).value⟩ : Edt)).getD i83.toNat dedt).value⟩ : Edt)).set i83.toNat (⟨(((x81.set i83.toNat (⟨i82, (x81.getD i83.toNat dedt).path, (x81.getD i83.toNat dedt).value⟩ : Edt)).set i83.toNat (⟨((x81.set i83.toNat (⟨i82, (x81.getD i83.toNat dedt).path, (x81.getD i83.toNat dedt).value⟩ : Edt)).getD i83.toNat dedt).kind, s110, ((x81.set i83.toNat (⟨i82, (x81.getD i83.toNat dedt).path, (x81.getD i83.toNat dedt).value⟩ : Edt)).getD i83.toNat dedt).value⟩ : Edt)).getD i83.toNat dedt).kind, (((x81.set i83.toNat (⟨i82, (x81.getD i83.toNat dedt).path, (x81.getD i83.toNat dedt).value⟩ : Edt)).set i83.toNat (⟨((x81.set i83.toNat (⟨i82, (x81.getD i83.toNat dedt).path, (x81.getD i83.toNat dedt).value⟩ : Edt)).getD i83.toNat dedt).kind, s110, ((x81.set i83.toNat (⟨i82, (x81.getD i83.toNat dedt).path, (x81.getD i83.toNat dedt).value⟩ : Edt)).getD i83.toNat dedt).value⟩ : Edt)).getD i83.toNat dedt).path, (w64 ((w64 (i82 + 1)) + 1))⟩ : Edt)) (w64 ((w64 ((w64 (i82 + 1)) + 1)) + 1)) (w64 (i83 + 1)))
 (some (x81, i82))

theorem laws_markEditS_L1_ok (w : World) (X : Nat → Prop) (θ : List Loc) (k2 : Nat) (v : ((List Edt) × Int)) : ∀ (n : Nat) (x81 : List Edt) (i82 : Int) (i83 : Int), laws_markEditS_L1 k2 n x81 i82 i83 = some v → WL EE ⟨w, X, θ, 35, 1⟩ (subC [1, 0, 1, 4, 4] (bodyC Try.f13)) (fun (e : Exit) (s : St) => (match v with | (x99, i100) => e = .exit 0 ∧ s = ⟨[(1, I i100)], [.row .edt x99 true]⟩ : Prop)) ⟨[(0, .one (.e (.sl 0 0 k2))), (1, I i82), (5, I i83)], [.row .edt x81 true]⟩ := by
  intro n
  induction n with
  | zero => intro _ _ _ h; exact none_e h
  | succ n ih =>
    intro x81 i82 i83 h
    rw [laws_markEditS_L1] at h
    refine WL_round ?_
    refine W_seq ?_
    refine W_seq ?_
    refine W_region ?_
    refine WO_step 4 [0] [0, 1, 5, 9] (True ∧ (True ∧ True)) ⟨[(0, .one (.e (.sl 0 0 k2))), (1, I i82), (5, I i83), (9, B (decide (i83 < ((k2 : Nat) : Int))))], [.row .edt x81 true]⟩ (by kernel_rfl) ⟨trivial, trivial, trivial⟩ ?_
    refine WO_nil rfl ?_
    refine thenS_n ?_
    refine iteO_e h (fun hb103 h => W_true rfl hb103 ?_) (fun hb103 h => W_false rfl hb103 ?_)
    · refine W_sub [0] [0, 1, 5] (st' := ⟨[(0, .one (.e (.sl 0 0 k2))), (1, I i82), (5, I i83)], [.row .edt x81 true]⟩) (by kernel_rfl) ?_
      refine W_skip ?_
      refine thenS_n ?_
      refine W_seq ?_
      refine W_block ?_
      refine W_seq ?_
      refine W_region ?_
      refine guardO_e h (fun hg109 h => ?_)
      refine WO_step 6 [0] [0, 1, 5] ((0 ≤ i83 ∧ i83 < ((k2 : Nat) : Int)) ∧ (True ∧ True)) ⟨[(0, .one (.e (.sl 0 0 k2))), (1, I i82), (5, I i83)], [.row .edt (x81.set i83.toNat (⟨i82, (x81.getD i83.toNat dedt).path, (x81.getD i83.toNat dedt).value⟩ : Edt)) true]⟩ (by kernel_rfl) ⟨hg109, trivial, trivial⟩ ?_
      refine WO_nil rfl ?_
      refine thenS_n ?_
      refine W_seq ?_
      refine W_region ?_
      refine WO_step 3 [0] [0, 1, 5] (True ∧ True) ⟨[(0, .one (.e (.sl 0 0 k2))), (1, I (w64 (i82 + 1))), (5, I i83)], [.row .edt (x81.set i83.toNat (⟨i82, (x81.getD i83.toNat dedt).path, (x81.getD i83.toNat dedt).value⟩ : Edt)) true]⟩ (by kernel_rfl) ⟨trivial, trivial⟩ ?_
      refine WO_nil rfl ?_
      refine thenS_n ?_
      refine W_seq ?_
      refine W_region ?_
      refine WO_step 3 [0] [0, 1, 5, 19, 20, 21] True ⟨[(0, .one (.e (.sl 0 0 k2))), (1, I (w64 (i82 + 1))), (5, I i83), (19, .one (.e (.sl 0 0 k2))), (20, I i83), (21, I (w64 (i82 + 1)))], [.row .edt (x81.set i83.toNat (⟨i82, (x81.getD i83.toNat dedt).path, (x81.getD i83.toNat dedt).value⟩ : Edt)) true]⟩ (by kernel_rfl) trivial ?_
      refine bindO_e h (fun s110 hc111 h => ?_)
      refine WO_call [] Try.f32 rfl rfl rfl (by kernel_rfl) Try.func32 rfl (by kernel_rfl) (laws_markText_ok n (w64 (i82 + 1)) s110 hc111) (trivial) rfl ?_
      refine guardO_e h (fun hg112 h => ?_)
      refine WO_step 3 [0] [0, 1, 5] ((0 ≤ i83 ∧ i83 < ((k2 : Nat) : Int)) ∧ (True ∧ True)) ⟨[(0, .one (.e (.sl 0 0 k2))), (1, I (w64 (i82 + 1))), (5, I i83)], [.row .edt ((x81.set i83.toNat (⟨i82, (x81.getD i83.toNat dedt).path, (x81.getD i83.toNat dedt).value⟩ : Edt)).set i83.toNat (⟨((x81.set i83.toNat (⟨i82, (x81.getD i83.toNat dedt).path, (x81.getD i83.toNat dedt).value⟩ : Edt)).getD i83.toNat dedt).kind, s110, ((x81.set i83.toNat (⟨i82, (x81.getD i83.toNat dedt).path, (x81.getD i83.toNat dedt).value⟩ : Edt)).getD i83.toNat dedt).value⟩ : Edt)) true]⟩ (by kernel_rfl) ⟨hg112, trivial, trivial⟩ ?_
      refine WO_nil rfl ?_
      refine thenS_n ?_
      refine W_seq ?_
      refine W_region ?_
      refine WO_step 3 [0] [0, 1, 5] (True ∧ True) ⟨[(0, .one (.e (.sl 0 0 k2))), (1, I (w64 ((w64 (i82 + 1)) + 1))), (5, I i83)], [.row .edt ((x81.set i83.toNat (⟨i82, (x81.getD i83.toNat dedt).path, (x81.getD i83.toNat dedt).value⟩ : Edt)).set i83.toNat (⟨((x81.set i83.toNat (⟨i82, (x81.getD i83.toNat dedt).path, (x81.getD i83.toNat dedt).value⟩ : Edt)).getD i83.toNat dedt).kind, s110, ((x81.set i83.toNat (⟨i82, (x81.getD i83.toNat dedt).path, (x81.getD i83.toNat dedt).value⟩ : Edt)).getD i83.toNat dedt).value⟩ : Edt)) true]⟩ (by kernel_rfl) ⟨trivial, trivial⟩ ?_
      refine WO_nil rfl ?_
      refine thenS_n ?_
      refine W_seq ?_
      refine W_region ?_
      refine guardO_e h (fun hg113 h => ?_)
      refine WO_step 6 [0] [0, 1, 5] ((0 ≤ i83 ∧ i83 < ((k2 : Nat) : Int)) ∧ (True ∧ True)) ⟨[(0, .one (.e (.sl 0 0 k2))), (1, I (w64 ((w64 (i82 + 1)) + 1))), (5, I i83)], [.row .edt (((x81.set i83.toNat (⟨i82, (x81.getD i83.toNat dedt).path, (x81.getD i83.toNat dedt).value⟩ : Edt)).set i83.toNat (⟨((x81.set i83.toNat (⟨i82, (x81.getD i83.toNat dedt).path, (x81.getD i83.toNat dedt).value⟩ : Edt)).getD i83.toNat dedt).kind, s110, ((x81.set i83.toNat (⟨i82, (x81.getD i83.toNat dedt).path, (x81.getD i83.toNat dedt).value⟩ : Edt)).getD i83.toNat dedt).value⟩ : Edt)).set i83.toNat (⟨(((x81.set i83.toNat (⟨i82, (x81.getD i83.toNat dedt).path, (x81.getD i83.toNat dedt).value⟩ : Edt)).set i83.toNat (⟨((x81.set i83.toNat (⟨i82, (x81.getD i83.toNat dedt).path, (x81.getD i83.toNat dedt).value⟩ : Edt)).getD i83.toNat dedt).kind, s110, ((x81.set i83.toNat (⟨i82, (x81.getD i83.toNat dedt).path, (x81.getD i83.toNat dedt).value⟩ : Edt)).getD i83.toNat dedt).value⟩ : Edt)).getD i83.toNat dedt).kind, (((x81.set i83.toNat (⟨i82, (x81.getD i83.toNat dedt).path, (x81.getD i83.toNat dedt).value⟩ : Edt)).set i83.toNat (⟨((x81.set i83.toNat (⟨i82, (x81.getD i83.toNat dedt).path, (x81.getD i83.toNat dedt).value⟩ : Edt)).getD i83.toNat dedt).kind, s110, ((x81.set i83.toNat (⟨i82, (x81.getD i83.toNat dedt).path, (x81.getD i83.toNat dedt).value⟩ : Edt)).getD i83.toNat dedt).value⟩ : Edt)).getD i83.toNat dedt).path, (w64 ((w64 (i82 + 1)) + 1))⟩ : Edt)) true]⟩ (by kernel_rfl) ⟨hg113, trivial, trivial⟩ ?_
      refine WO_nil rfl ?_
      refine thenS_n ?_
      refine W_region ?_
      refine WO_step 3 [0] [0, 1, 5] (True ∧ True) ⟨[(0, .one (.e (.sl 0 0 k2))), (1, I (w64 ((w64 ((w64 (i82 + 1)) + 1)) + 1))), (5, I i83)], [.row .edt (((x81.set i83.toNat (⟨i82, (x81.getD i83.toNat dedt).path, (x81.getD i83.toNat dedt).value⟩ : Edt)).set i83.toNat (⟨((x81.set i83.toNat (⟨i82, (x81.getD i83.toNat dedt).path, (x81.getD i83.toNat dedt).value⟩ : Edt)).getD i83.toNat dedt).kind, s110, ((x81.set i83.toNat (⟨i82, (x81.getD i83.toNat dedt).path, (x81.getD i83.toNat dedt).value⟩ : Edt)).getD i83.toNat dedt).value⟩ : Edt)).set i83.toNat (⟨(((x81.set i83.toNat (⟨i82, (x81.getD i83.toNat dedt).path, (x81.getD i83.toNat dedt).value⟩ : Edt)).set i83.toNat (⟨((x81.set i83.toNat (⟨i82, (x81.getD i83.toNat dedt).path, (x81.getD i83.toNat dedt).value⟩ : Edt)).getD i83.toNat dedt).kind, s110, ((x81.set i83.toNat (⟨i82, (x81.getD i83.toNat dedt).path, (x81.getD i83.toNat dedt).value⟩ : Edt)).getD i83.toNat dedt).value⟩ : Edt)).getD i83.toNat dedt).kind, (((x81.set i83.toNat (⟨i82, (x81.getD i83.toNat dedt).path, (x81.getD i83.toNat dedt).value⟩ : Edt)).set i83.toNat (⟨((x81.set i83.toNat (⟨i82, (x81.getD i83.toNat dedt).path, (x81.getD i83.toNat dedt).value⟩ : Edt)).getD i83.toNat dedt).kind, s110, ((x81.set i83.toNat (⟨i82, (x81.getD i83.toNat dedt).path, (x81.getD i83.toNat dedt).value⟩ : Edt)).getD i83.toNat dedt).value⟩ : Edt)).getD i83.toNat dedt).path, (w64 ((w64 (i82 + 1)) + 1))⟩ : Edt)) true]⟩ (by kernel_rfl) ⟨trivial, trivial⟩ ?_
      refine WO_nil rfl ?_
      refine blockS_n ?_
      refine thenS_n ?_
      refine W_region ?_
      refine WO_step 3 [0] [0, 1, 5] (True ∧ True) ⟨[(0, .one (.e (.sl 0 0 k2))), (1, I (w64 ((w64 ((w64 (i82 + 1)) + 1)) + 1))), (5, I (w64 (i83 + 1)))], [.row .edt (((x81.set i83.toNat (⟨i82, (x81.getD i83.toNat dedt).path, (x81.getD i83.toNat dedt).value⟩ : Edt)).set i83.toNat (⟨((x81.set i83.toNat (⟨i82, (x81.getD i83.toNat dedt).path, (x81.getD i83.toNat dedt).value⟩ : Edt)).getD i83.toNat dedt).kind, s110, ((x81.set i83.toNat (⟨i82, (x81.getD i83.toNat dedt).path, (x81.getD i83.toNat dedt).value⟩ : Edt)).getD i83.toNat dedt).value⟩ : Edt)).set i83.toNat (⟨(((x81.set i83.toNat (⟨i82, (x81.getD i83.toNat dedt).path, (x81.getD i83.toNat dedt).value⟩ : Edt)).set i83.toNat (⟨((x81.set i83.toNat (⟨i82, (x81.getD i83.toNat dedt).path, (x81.getD i83.toNat dedt).value⟩ : Edt)).getD i83.toNat dedt).kind, s110, ((x81.set i83.toNat (⟨i82, (x81.getD i83.toNat dedt).path, (x81.getD i83.toNat dedt).value⟩ : Edt)).getD i83.toNat dedt).value⟩ : Edt)).getD i83.toNat dedt).kind, (((x81.set i83.toNat (⟨i82, (x81.getD i83.toNat dedt).path, (x81.getD i83.toNat dedt).value⟩ : Edt)).set i83.toNat (⟨((x81.set i83.toNat (⟨i82, (x81.getD i83.toNat dedt).path, (x81.getD i83.toNat dedt).value⟩ : Edt)).getD i83.toNat dedt).kind, s110, ((x81.set i83.toNat (⟨i82, (x81.getD i83.toNat dedt).path, (x81.getD i83.toNat dedt).value⟩ : Edt)).getD i83.toNat dedt).value⟩ : Edt)).getD i83.toNat dedt).path, (w64 ((w64 (i82 + 1)) + 1))⟩ : Edt)) true]⟩ (by kernel_rfl) ⟨trivial, trivial⟩ ?_
      refine WO_nil rfl ?_
      refine thenS_n ?_
      exact ih _ _ _ h
    · refine W_sub [0] [1] (st' := ⟨[(1, I i82)], [.row .edt x81 true]⟩) (by kernel_rfl) ?_
      refine W_exit ?_
      refine thenS_e ?_
      refine thenS_e ?_
      cases h
      exact And.intro rfl rfl

def laws_markEditS (n : Nat) (x1 : List Edt) (k2 : Nat) (i3 : Int) : Option ((List Edt) × Int) :=
 bindO (laws_markEditS_L1 k2 n x1 i3 0) fun v114 =>
 match v114 with
 | (x99, i100) => (some (x99, i100))


theorem laws_markEditS_ok (n : Nat) (x1 : List Edt) (k2 : Nat) (i3 : Int) (x58 : List Edt) (i59 : Int) (h : laws_markEditS n x1 k2 i3 = some (x58, i59)) : FOk EE 13 [.one (.e (.sl 0 0 k2)), I i3] [.row .edt x1 true] (I i59) [.row .edt x58 true] := by
  unfold laws_markEditS at h
  refine FOk_of_W 35 1 Try.func13 rfl rfl (Nat.le_of_ble_eq_true rfl) rfl (fun w X θ => ?_)
  refine W_seq ?_
  refine W_region ?_
  refine WO_step 1 [0] [0, 1] True ⟨[(0, .one (.e (.sl 0 0 k2))), (1, I i3)], [.row .edt x1 true]⟩ (by kernel_rfl) trivial ?_
  refine WO_nil rfl ?_
  refine thenS_n ?_
  refine W_seq ?_
  refine W_seq ?_
  refine W_region ?_
  refine WO_step 1 [0] [0, 1, 5] True ⟨[(0, .one (.e (.sl 0 0 k2))), (1, I i3), (5, I 0)], [.row .edt x1 true]⟩ (by kernel_rfl) trivial ?_
  refine WO_nil rfl ?_
  refine thenS_n ?_
  refine W_block ?_
  refine W_loop ?_
  refine bindO_e h (fun v114 hv114 h => ?_)
  refine WL_cut (laws_markEditS_L1_ok w X θ k2 v114 n x1 i3 0 hv114) ?_
  obtain ⟨x99, i100⟩ := v114
  rintro _ _ ⟨rfl, rfl⟩
  refine blockS_y ?_
  refine thenS_n ?_
  refine W_seq ?_
  refine W_region ?_
  refine WO_step 2 [0] [4] True ⟨[(4, I i100)], [.row .edt x99 true]⟩ (by kernel_rfl) trivial ?_
  refine WO_nil rfl ?_
  refine thenS_n ?_
  refine W_ret ?_
  cases h
  exact ⟨[0], True, by kernel_rfl, trivial⟩

/- laws.heldEditS -/
def laws_heldEditS_L1 (x1 : List Edt) : Nat → Int → Int → Option ((Unit) ⊕ (Int))
| 0, _, _ => none
| n + 1, i118, i119 =>
 iteO (decide (i119 < ((x1.length : Nat) : Int)))
 (guardO (0 ≤ i119 ∧ i119 < ((x1.length : Nat) : Int)) <|
 iteO (!decide (((x1.getD i119.toNat dedt).kind) = i118))
 (some (.inl ()))
 (guardO (0 ≤ i119 ∧ i119 < ((x1.length : Nat) : Int)) <|
 bindO (laws_markText n (w64 (i118 + 1))) fun s165 =>
 iteO (!decide (((x1.getD i119.toNat dedt).path) = s165))
 (some (.inl ()))
 (guardO (0 ≤ i119 ∧ i119 < ((x1.length : Nat) : Int)) <|
 iteO (!decide (((x1.getD i119.toNat dedt).value) = (w64 ((w64 (i118 + 1)) + 1))))
 (some (.inl ()))
 (laws_heldEditS_L1 x1 n (w64 ((w64 ((w64 (i118 + 1)) + 1)) + 1)) (w64 (i119 + 1))))))
 (some (.inr i118))

theorem laws_heldEditS_L1_ok (w : World) (X : Nat → Prop) (θ : List Loc) (x1 : List Edt) (v : (Unit) ⊕ (Int)) : ∀ (n : Nat) (i118 : Int) (i119 : Int), laws_heldEditS_L1 x1 n i118 i119 = some v → WL EE ⟨w, X, θ, 41, 1⟩ (subC [1, 0, 1, 4, 4] (bodyC Try.f14)) (fun (e : Exit) (s : St) => (match v with | (.inl _) => e = .ret ∧ s = ⟨[(4, I (-1))], [.row .edt x1 false]⟩ | (.inr i146) => e = .exit 0 ∧ s = ⟨[(1, I i146)], [.row .edt x1 false]⟩ : Prop)) ⟨[(0, .one (.e (.sl 0 0 x1.length))), (1, I i118), (5, I i119)], [.row .edt x1 false]⟩ := by
  intro n
  induction n with
  | zero => intro _ _ h; exact none_e h
  | succ n ih =>
    intro i118 i119 h
    rw [laws_heldEditS_L1] at h
    refine WL_round ?_
    refine W_seq ?_
    refine W_seq ?_
    refine W_region ?_
    refine WO_step 4 [0] [0, 1, 5, 9] (True ∧ (True ∧ True)) ⟨[(0, .one (.e (.sl 0 0 x1.length))), (1, I i118), (5, I i119), (9, B (decide (i119 < ((x1.length : Nat) : Int))))], [.row .edt x1 false]⟩ (by kernel_rfl) ⟨trivial, trivial, trivial⟩ ?_
    refine WO_nil rfl ?_
    refine thenS_n ?_
    refine iteO_e h (fun hb149 h => W_true rfl hb149 ?_) (fun hb149 h => W_false rfl hb149 ?_)
    · refine W_sub [0] [0, 1, 5] (st' := ⟨[(0, .one (.e (.sl 0 0 x1.length))), (1, I i118), (5, I i119)], [.row .edt x1 false]⟩) (by kernel_rfl) ?_
      refine W_skip ?_
      refine thenS_n ?_
      refine W_seq ?_
      refine W_block ?_
      refine W_seq ?_
      refine W_seq ?_
      refine W_region ?_
      refine guardO_e h (fun hg161 h => ?_)
      refine WO_step 7 [0] [0, 1, 5, 18] ((0 ≤ i119 ∧ i119 < ((x1.length : Nat) : Int)) ∧ (True ∧ (True ∧ True))) ⟨[(0, .one (.e (.sl 0 0 x1.length))), (1, I i118), (5, I i119), (18, B (!decide (((x1.getD i119.toNat dedt).kind) = i118)))], [.row .edt x1 false]⟩ (by kernel_rfl) ⟨hg161, trivial, trivial, trivial⟩ ?_
      refine WO_nil rfl ?_
      refine thenS_n ?_
      refine iteO_e h (fun hb163 h => W_true rfl hb163 ?_) (fun hb163 h => W_false rfl hb163 ?_)
      · refine W_seq ?_
        refine W_region ?_
        refine WO_step 1 [0] [4] True ⟨[(4, I (-1))], [.row .edt x1 false]⟩ (by kernel_rfl) trivial ?_
        refine WO_nil rfl ?_
        refine thenS_n ?_
        refine W_ret ?_
        refine thenS_r ?_
        refine blockS_r ?_
        refine thenS_r ?_
        refine thenS_r ?_
        cases h
        exact And.intro rfl rfl
      · refine W_sub [0] [0, 1, 5] (st' := ⟨[(0, .one (.e (.sl 0 0 x1.length))), (1, I i118), (5, I i119)], [.row .edt x1 false]⟩) (by kernel_rfl) ?_
        refine W_skip ?_
        refine thenS_n ?_
        refine W_seq ?_
        refine W_region ?_
        refine WO_step 3 [0] [0, 1, 5] (True ∧ True) ⟨[(0, .one (.e (.sl 0 0 x1.length))), (1, I (w64 (i118 + 1))), (5, I i119)], [.row .edt x1 false]⟩ (by kernel_rfl) ⟨trivial, trivial⟩ ?_
        refine WO_nil rfl ?_
        refine thenS_n ?_
        refine W_seq ?_
        refine W_seq ?_
        refine guardO_e h (fun hg164 h => ?_)
        refine bindO_e h (fun s165 hc166 h => ?_)
        refine W_cut (Q' := fun (e : Exit) (s : St) => e = .normal ∧ s = ⟨[(0, .one (.e (.sl 0 0 x1.length))), (1, I (w64 (i118 + 1))), (5, I i119), (28, B (!decide (((x1.getD i119.toNat dedt).path) = s165)))], [.row .edt x1 false]⟩) ?_ ?_
        · refine W_draw [] false (by kernel_rfl) (by kernel_rfl) ?_
          refine WD_takeK [0, 1, 2, 3, 4, 5] [0, 1, 5, 25, 26] [0, 1, 5, 25, 26] (φ := ((0 ≤ i119 ∧ i119 < ((x1.length : Nat) : Int)) ∧ (0 ≤ i119 ∧ i119 < ((x1.length : Nat) : Int)) ∧ (True ∧ True ∧ True))) (ls' := #[true, true, true, true, true, true, false, false]) (Ts' := [(0, .one (.e (.sl 0 0 x1.length))), (1, I (w64 (i118 + 1))), (5, I i119), (25, S ((x1.getD i119.toNat dedt).path)), (26, I (w64 (i118 + 1)))]) (st' := ⟨[(0, .one (.e (.sl 0 0 x1.length))), (1, I (w64 (i118 + 1))), (5, I i119), (25, S ((x1.getD i119.toNat dedt).path)), (26, I (w64 (i118 + 1)))], [.row .edt x1 false]⟩) (n2 := 2) (by kernel_rfl) ⟨hg164, hg164, trivial, trivial, trivial⟩ rfl ?_
          refine WD_all [6] (n := 1) (by kernel_rfl) rfl ?_
          refine WM_call [] Try.f32 rfl rfl (by kernel_rfl) Try.func32 rfl (by kernel_rfl) (laws_markText_ok n (w64 (i118 + 1)) s165 hc166) (trivial) rfl (And.intro rfl (trivial)) ?_
          refine WD_takeK [7] [0, 1, 5, 28] [0, 1, 5, 28] (φ := (True ∧ True ∧ True)) (ls' := #[true, true, true, true, true, true, true, true]) (Ts' := [(0, .one (.e (.sl 0 0 x1.length))), (1, I (w64 (i118 + 1))), (5, I i119), (28, B (!decide (((x1.getD i119.toNat dedt).path) = s165)))]) (st' := ⟨[(0, .one (.e (.sl 0 0 x1.length))), (1, I (w64 (i118 + 1))), (5, I i119), (28, B (!decide (((x1.getD i119.toNat dedt).path) = s165)))], [.row .edt x1 false]⟩) (n2 := 0) (by kernel_rfl) ⟨trivial, trivial, trivial⟩ rfl ?_
          exact WD_done [0] [0, 1, 5, 28] (st' := ⟨[(0, .one (.e (.sl 0 0 x1.length))), (1, I (w64 (i118 + 1))), (5, I i119), (28, B (!decide (((x1.getD i119.toNat dedt).path) = s165)))], [.row .edt x1 false]⟩) (by kernel_rfl) (by kernel_rfl) (And.intro rfl rfl)
        · rintro _ _ ⟨rfl, rfl⟩
          refine thenS_n ?_
          refine iteO_e h (fun hb168 h => W_true rfl hb168 ?_) (fun hb168 h => W_false rfl hb168 ?_)
          · refine W_seq ?_
            refine W_region ?_
            refine WO_step 1 [0] [4] True ⟨[(4, I (-1))], [.row .edt x1 false]⟩ (by kernel_rfl) trivial ?_
            refine WO_nil rfl ?_
            refine thenS_n ?_
            refine W_ret ?_
            refine thenS_r ?_
            refine blockS_r ?_
            refine thenS_r ?_
            refine thenS_r ?_
            cases h
            exact And.intro rfl rfl
          · refine W_sub [0] [0, 1, 5] (st' := ⟨[(0, .one (.e (.sl 0 0 x1.length))), (1, I (w64 (i118 + 1))), (5, I i119)], [.row .edt x1 false]⟩) (by kernel_rfl) ?_
            refine W_skip ?_
            refine thenS_n ?_
            refine W_seq ?_
            refine W_region ?_
            refine WO_step 3 [0] [0, 1, 5] (True ∧ True) ⟨[(0, .one (.e (.sl 0 0 x1.length))), (1, I (w64 ((w64 (i118 + 1)) + 1))), (5, I i119)], [.row .edt x1 false]⟩ (by kernel_rfl) ⟨trivial, trivial⟩ ?_
            refine WO_nil rfl ?_
            refine thenS_n ?_
            refine W_seq ?_
            refine W_seq ?_
            refine W_region ?_
            refine guardO_e h (fun hg169 h => ?_)
            refine WO_step 7 [0] [0, 1, 5, 37] ((0 ≤ i119 ∧ i119 < ((x1.length : Nat) : Int)) ∧ (True ∧ (True ∧ True))) ⟨[(0, .one (.e (.sl 0 0 x1.length))), (1, I (w64 ((w64 (i118 + 1)) + 1))), (5, I i119), (37, B (!decide (((x1.getD i119.toNat dedt).value) = (w64 ((w64 (i118 + 1)) + 1)))))], [.row .edt x1 false]⟩ (by kernel_rfl) ⟨hg169, trivial, trivial, trivial⟩ ?_
            refine WO_nil rfl ?_
            refine thenS_n ?_
            refine iteO_e h (fun hb171 h => W_true rfl hb171 ?_) (fun hb171 h => W_false rfl hb171 ?_)
            · refine W_seq ?_
              refine W_region ?_
              refine WO_step 1 [0] [4] True ⟨[(4, I (-1))], [.row .edt x1 false]⟩ (by kernel_rfl) trivial ?_
              refine WO_nil rfl ?_
              refine thenS_n ?_
              refine W_ret ?_
              refine thenS_r ?_
              refine blockS_r ?_
              refine thenS_r ?_
              refine thenS_r ?_
              cases h
              exact And.intro rfl rfl
            · refine W_sub [0] [0, 1, 5] (st' := ⟨[(0, .one (.e (.sl 0 0 x1.length))), (1, I (w64 ((w64 (i118 + 1)) + 1))), (5, I i119)], [.row .edt x1 false]⟩) (by kernel_rfl) ?_
              refine W_skip ?_
              refine thenS_n ?_
              refine W_region ?_
              refine WO_step 3 [0] [0, 1, 5] (True ∧ True) ⟨[(0, .one (.e (.sl 0 0 x1.length))), (1, I (w64 ((w64 ((w64 (i118 + 1)) + 1)) + 1))), (5, I i119)], [.row .edt x1 false]⟩ (by kernel_rfl) ⟨trivial, trivial⟩ ?_
              refine WO_nil rfl ?_
              refine blockS_n ?_
              refine thenS_n ?_
              refine W_region ?_
              refine WO_step 3 [0] [0, 1, 5] (True ∧ True) ⟨[(0, .one (.e (.sl 0 0 x1.length))), (1, I (w64 ((w64 ((w64 (i118 + 1)) + 1)) + 1))), (5, I (w64 (i119 + 1)))], [.row .edt x1 false]⟩ (by kernel_rfl) ⟨trivial, trivial⟩ ?_
              refine WO_nil rfl ?_
              refine thenS_n ?_
              exact ih _ _ h
    · refine W_sub [0] [1] (st' := ⟨[(1, I i118)], [.row .edt x1 false]⟩) (by kernel_rfl) ?_
      refine W_exit ?_
      refine thenS_e ?_
      refine thenS_e ?_
      cases h
      exact And.intro rfl rfl

def laws_heldEditS (n : Nat) (x1 : List Edt) (i2 : Int) : Option (Int) :=
 bindO (laws_heldEditS_L1 x1 n i2 0) fun v172 =>
 match v172 with
 | (.inl _) => (some (-1))
 | (.inr i146) => (some i146)


theorem laws_heldEditS_ok (n : Nat) (x1 : List Edt) (i2 : Int) (i87 : Int) (h : laws_heldEditS n x1 i2 = some i87) : FOk EE 14 [.one (.e (.sl 0 0 x1.length)), I i2] [.row .edt x1 false] (I i87) [.row .edt x1 false] := by
  unfold laws_heldEditS at h
  refine FOk_of_W 41 1 Try.func14 rfl rfl (Nat.le_of_ble_eq_true rfl) rfl (fun w X θ => ?_)
  refine W_seq ?_
  refine W_region ?_
  refine WO_step 1 [0] [0, 1] True ⟨[(0, .one (.e (.sl 0 0 x1.length))), (1, I i2)], [.row .edt x1 false]⟩ (by kernel_rfl) trivial ?_
  refine WO_nil rfl ?_
  refine thenS_n ?_
  refine W_seq ?_
  refine W_seq ?_
  refine W_region ?_
  refine WO_step 1 [0] [0, 1, 5] True ⟨[(0, .one (.e (.sl 0 0 x1.length))), (1, I i2), (5, I 0)], [.row .edt x1 false]⟩ (by kernel_rfl) trivial ?_
  refine WO_nil rfl ?_
  refine thenS_n ?_
  refine W_block ?_
  refine W_loop ?_
  refine bindO_e h (fun v172 hv172 h => ?_)
  refine WL_cut (laws_heldEditS_L1_ok w X θ x1 v172 n i2 0 hv172) ?_
  rcases v172 with _ | i146
  · rintro _ _ ⟨rfl, rfl⟩
    refine blockS_r ?_
    refine thenS_r ?_
    cases h
    exact ⟨[0], True, by kernel_rfl, trivial⟩
  · rintro _ _ ⟨rfl, rfl⟩
    refine blockS_y ?_
    refine thenS_n ?_
    refine W_seq ?_
    refine W_region ?_
    refine WO_step 2 [0] [4] True ⟨[(4, I i146)], [.row .edt x1 false]⟩ (by kernel_rfl) trivial ?_
    refine WO_nil rfl ?_
    refine thenS_n ?_
    refine W_ret ?_
    cases h
    exact ⟨[0], True, by kernel_rfl, trivial⟩

/- laws.FnExactEditsBetween -/
def laws_FnExactEditsBetween (n : Nat) (x1 : List Nod) (x2 : List Nod) : Option (Bool) :=
 bindO (laws_szNodeS n x1 1048576) fun i87 =>
 iteO (decide (i87 < 0))
 (some true)
 (bindO (laws_szNodeS n x2 i87) fun i91 =>
 iteO (decide (i91 < 0))
 (some true)
 (bindO (laws_toNodeS n x1) fun x95 =>
 bindO (laws_toNodeS n x2) fun x97 =>
 bindO (spec_EditsBetween n x95 x97) fun x99 =>
 bindO (laws_toNodeS n x1) fun x101 =>
 bindO (laws_toNodeS n x2) fun x103 =>
 bindO (impl_EditsBetween n x101 x103) fun x105 =>
 bindO (laws_eqEditS n x105 x99) fun b107 =>
 iteO (!b107)
 (some false)
 (bindO (laws_toNodeS n x1) fun x111 =>
 bindO (laws_eqNodeS n x101 x111) fun b113 =>
 iteO (!b113)
 (some false)
 (bindO (laws_toNodeS n x2) fun x117 =>
 bindO (laws_eqNodeS n x103 x117) fun b119 =>
 iteO (!b119)
 (some false)
 (bindO (laws_markNodeS n x101 x101.length 1) fun (x123, i124) =>
 guardO (x101.length = x123.length) <|
 bindO (laws_markNodeS n x103 x103.length i124) fun (x127, i128) =>
 guardO (x103.length = x127.length) <|
 bindO (iteO (decide (i128 < 0))
 (some true)
 (bindO (laws_eqEditS n x105 x99) fun b137 =>
 some (!b137))) fun b134 =>
 iteO b134
 (some false)
 (bindO (laws_markEditS n x105 x105.length 1) fun (x141, i142) =>
 guardO (x105.length = x141.length) <|
 bindO (laws_heldEditS n x141 1) fun i145 =>
 iteO (decide (i145 < 0))
 (some false)
 (iteO (!decide (i145 = i142))
 (some false)
 (bindO (laws_toNodeS n x1) fun x151 =>
 bindO (laws_toNodeS n x2) fun x153 =>
 bindO (impl_EditsBetween n x151 x153) fun x155 =>
 bindO (laws_eqEditS n x155 x99) fun b157 =>
 iteO (!b157)
 (some false)
 (bindO (laws_heldEditS n x141 1) fun i161 =>
 iteO (decide (i161 < 0))
 (some false)
 (iteO (!decide (i161 = i142))
 (some false)
 (some true)))))))))))

theorem laws_FnExactEditsBetween_ok (n : Nat) (x1 : List Nod) (x2 : List Nod) (b86 : Bool) (h : laws_FnExactEditsBetween n x1 x2 = some b86) : FOk EE 3 [.one (.e (.sl 0 0 x1.length)), .one (.e (.sl 1 0 x2.length))] [.row .nod x1 false, .row .nod x2 false] (B b86) [.row .nod x1 false, .row .nod x2 false] := by
  unfold laws_FnExactEditsBetween at h
  refine FOk_of_W 92 2 Try.func3 rfl rfl (Nat.le_of_ble_eq_true rfl) rfl (fun w X θ => ?_)
  refine W_seq ?_
  refine W_region ?_
  refine WO_step 1 [0, 1] [0, 1] True ⟨[(0, .one (.e (.sl 0 0 x1.length))), (1, .one (.e (.sl 1 0 x2.length)))], [.row .nod x1 false, .row .nod x2 false]⟩ (by kernel_rfl) trivial ?_
  refine WO_nil rfl ?_
  refine thenS_n ?_
  refine W_seq ?_
  refine W_region ?_
  refine WO_step 1 [0, 1] [0, 1, 5] True ⟨[(0, .one (.e (.sl 0 0 x1.length))), (1, .one (.e (.sl 1 0 x2.length))), (5, I 1048576)], [.row .nod x1 false, .row .nod x2 false]⟩ (by kernel_rfl) trivial ?_
  refine WO_nil rfl ?_
  refine thenS_n ?_
  refine W_seq ?_
  refine W_region ?_
  refine WO_step 2 [0, 1] [0, 1, 14, 15] True ⟨[(0, .one (.e (.sl 0 0 x1.length))), (1, .one (.e (.sl 1 0 x2.length))), (14, .one (.e (.sl 0 0 x1.length))), (15, I 1048576)], [.row .nod x1 false, .row .nod x2 false]⟩ (by kernel_rfl) trivial ?_
  refine bindO_e h (fun i87 hc88 h => ?_)
  refine WO_call [.ro 0] Try.f6 rfl rfl rfl (by kernel_rfl) Try.func6 rfl (by kernel_rfl) (laws_szNodeS_ok n x1 1048576 i87 hc88) (And.intro (And.intro rfl rfl) (trivial)) rfl ?_
  refine WO_step 1 [0, 1] [0, 1, 5] True ⟨[(0, .one (.e (.sl 0 0 x1.length))), (1, .one (.e (.sl 1 0 x2.length))), (5, I i87)], [.row .nod x1 false, .row .nod x2 false]⟩ (by kernel_rfl) trivial ?_
  refine WO_nil rfl ?_
  refine thenS_n ?_
  refine W_seq ?_
  refine W_seq ?_
  refine W_region ?_
  refine WO_step 2 [0, 1] [0, 1, 5, 18] (True ∧ True) ⟨[(0, .one (.e (.sl 0 0 x1.length))), (1, .one (.e (.sl 1 0 x2.length))), (5, I i87), (18, B (decide (i87 < 0)))], [.row .nod x1 false, .row .nod x2 false]⟩ (by kernel_rfl) ⟨trivial, trivial⟩ ?_
  refine WO_nil rfl ?_
  refine thenS_n ?_
  refine iteO_e h (fun hb90 h => W_true rfl hb90 ?_) (fun hb90 h => W_false rfl hb90 ?_)
  · refine W_seq ?_
    refine W_region ?_
    refine WO_step 1 [0, 1] [4] True ⟨[(4, B true)], [.row .nod x1 false, .row .nod x2 false]⟩ (by kernel_rfl) trivial ?_
    refine WO_nil rfl ?_
    refine thenS_n ?_
    refine W_ret ?_
    refine thenS_r ?_
    cases h
    exact ⟨[0, 1], True, by kernel_rfl, trivial⟩
  · refine W_sub [0, 1] [0, 1, 5] (st' := ⟨[(0, .one (.e (.sl 0 0 x1.length))), (1, .one (.e (.sl 1 0 x2.length))), (5, I i87)], [.row .nod x1 false, .row .nod x2 false]⟩) (by kernel_rfl) ?_
    refine W_skip ?_
    refine thenS_n ?_
    refine W_seq ?_
    refine W_region ?_
    refine WO_step 2 [0, 1] [0, 1, 19, 20] True ⟨[(0, .one (.e (.sl 0 0 x1.length))), (1, .one (.e (.sl 1 0 x2.length))), (19, .one (.e (.sl 1 0 x2.length))), (20, I i87)], [.row .nod x1 false, .row .nod x2 false]⟩ (by kernel_rfl) trivial ?_
    refine bindO_e h (fun i91 hc92 h => ?_)
    refine WO_call [.ro 1] Try.f6 rfl rfl rfl (by kernel_rfl) Try.func6 rfl (by kernel_rfl) (laws_szNodeS_ok n x2 i87 i91 hc92) (And.intro (And.intro rfl rfl) (trivial)) rfl ?_
    refine WO_step 1 [0, 1] [0, 1, 5] True ⟨[(0, .one (.e (.sl 0 0 x1.length))), (1, .one (.e (.sl 1 0 x2.length))), (5, I i91)], [.row .nod x1 false, .row .nod x2 false]⟩ (by kernel_rfl) trivial ?_
    refine WO_nil rfl ?_
    refine thenS_n ?_
    refine W_seq ?_
    refine W_seq ?_
    refine W_region ?_
    refine WO_step 2 [0, 1] [0, 1, 23] (True ∧ True) ⟨[(0, .one (.e (.sl 0 0 x1.length))), (1, .one (.e (.sl 1 0 x2.length))), (23, B (decide (i91 < 0)))], [.row .nod x1 false, .row .nod x2 false]⟩ (by kernel_rfl) ⟨trivial, trivial⟩ ?_
    refine WO_nil rfl ?_
    refine thenS_n ?_
    refine iteO_e h (fun hb94 h => W_true rfl hb94 ?_) (fun hb94 h => W_false rfl hb94 ?_)
    · refine W_seq ?_
      refine W_region ?_
      refine WO_step 1 [0, 1] [4] True ⟨[(4, B true)], [.row .nod x1 false, .row .nod x2 false]⟩ (by kernel_rfl) trivial ?_
      refine WO_nil rfl ?_
      refine thenS_n ?_
      refine W_ret ?_
      refine thenS_r ?_
      cases h
      exact ⟨[0, 1], True, by kernel_rfl, trivial⟩
    · refine W_sub [0, 1] [0, 1] (st' := ⟨[(0, .one (.e (.sl 0 0 x1.length))), (1, .one (.e (.sl 1 0 x2.length)))], [.row .nod x1 false, .row .nod x2 false]⟩) (by kernel_rfl) ?_
      refine W_skip ?_
      refine thenS_n ?_
      refine W_seq ?_
      refine W_region ?_
      refine WO_step 1 [0, 1] [0, 1, 24] True ⟨[(0, .one (.e (.sl 0 0 x1.length))), (1, .one (.e (.sl 1 0 x2.length))), (24, .one (.e (.sl 0 0 x1.length)))], [.row .nod x1 false, .row .nod x2 false]⟩ (by kernel_rfl) trivial ?_
      refine bindO_e h (fun x95 hc96 h => ?_)
      refine WO_call [.ro 0] Try.f8 rfl rfl rfl (by kernel_rfl) Try.func8 rfl (by kernel_rfl) (laws_toNodeS_ok n x1 x95 hc96) (And.intro (And.intro rfl rfl) (trivial)) rfl ?_
      refine WO_step 1 [0, 1, 2] [0, 1, 25, 26] True ⟨[(0, .one (.e (.sl 0 0 x1.length))), (1, .one (.e (.sl 1 0 x2.length))), (25, .one (.e (.sl 2 0 x95.length))), (26, .one (.e (.sl 1 0 x2.length)))], [.row .nod x1 false, .row .nod x2 false, .row .nod x95 true]⟩ (by kernel_rfl) trivial ?_
      refine bindO_e h (fun x97 hc98 h => ?_)
      refine WO_call [.ro 1] Try.f8 rfl rfl rfl (by kernel_rfl) Try.func8 rfl (by kernel_rfl) (laws_toNodeS_ok n x2 x97 hc98) (And.intro (And.intro rfl rfl) (trivial)) rfl ?_
      refine WO_sub [0, 1, 2, 3] [0, 1, 25, 27] (st' := ⟨[(0, .one (.e (.sl 0 0 x1.length))), (1, .one (.e (.sl 1 0 x2.length))), (25, .one (.e (.sl 2 0 x95.length))), (27, .one (.e (.sl 3 0 x97.length)))], [.row .nod x1 false, .row .nod x2 false, .row .nod x95 true, .row .nod x97 true]⟩) (by kernel_rfl) ?_
      refine bindO_e h (fun x99 hc100 h => ?_)
      refine WO_call [.ro 2, .ro 3] Try.f7 rfl rfl rfl (by kernel_rfl) Try.func7 rfl (by kernel_rfl) (spec_EditsBetween_ok n x95 x97 x99 hc100) (And.intro (And.intro rfl rfl) (And.intro (And.intro rfl rfl) (trivial))) rfl ?_
      refine WO_step 1 [0, 1, 4] [0, 1, 6] True ⟨[(0, .one (.e (.sl 0 0 x1.length))), (1, .one (.e (.sl 1 0 x2.length))), (6, .one (.e (.sl 2 0 x99.length)))], [.row .nod x1 false, .row .nod x2 false, .row .edt x99 true]⟩ (by kernel_rfl) trivial ?_
      refine WO_nil rfl ?_
      refine thenS_n ?_
      refine W_seq ?_
      refine W_region ?_
      refine WO_step 1 [0, 1, 2] [0, 1, 6, 29] True ⟨[(0, .one (.e (.sl 0 0 x1.length))), (1, .one (.e (.sl 1 0 x2.length))), (6, .one (.e (.sl 2 0 x99.length))), (29, .one (.e (.sl 0 0 x1.length)))], [.row .nod x1 false, .row .nod x2 false, .row .edt x99 true]⟩ (by kernel_rfl) trivial ?_
      refine bindO_e h (fun x101 hc102 h => ?_)
      refine WO_call [.ro 0] Try.f8 rfl rfl rfl (by kernel_rfl) Try.func8 rfl (by kernel_rfl) (laws_toNodeS_ok n x1 x101 hc102) (And.intro (And.intro rfl rfl) (trivial)) rfl ?_
      refine WO_step 1 [0, 1, 2, 3] [0, 1, 6, 7] True ⟨[(0, .one (.e (.sl 0 0 x1.length))), (1, .one (.e (.sl 1 0 x2.length))), (6, .one (.e (.sl 2 0 x99.length))), (7, .one (.e (.sl 3 0 x101.length)))], [.row .nod x1 false, .row .nod x2 false, .row .edt x99 true, .row .nod x101 true]⟩ (by kernel_rfl) trivial ?_
      refine WO_nil rfl ?_
      refine thenS_n ?_
      refine W_seq ?_
      refine W_region ?_
      refine WO_step 1 [0, 1, 2, 3] [0, 1, 6, 7, 31] True ⟨[(0, .one (.e (.sl 0 0 x1.length))), (1, .one (.e (.sl 1 0 x2.length))), (6, .one (.e (.sl 2 0 x99.length))), (7, .one (.e (.sl 3 0 x101.length))), (31, .one (.e (.sl 1 0 x2.length)))], [.row .nod x1 false, .row .nod x2 false, .row .edt x99 true, .row .nod x101 true]⟩ (by kernel_rfl) trivial ?_
      refine bindO_e h (fun x103 hc104 h => ?_)
      refine WO_call [.ro 1] Try.f8 rfl rfl rfl (by kernel_rfl) Try.func8 rfl (by kernel_rfl) (laws_toNodeS_ok n x2 x103 hc104) (And.intro (And.intro rfl rfl) (trivial)) rfl ?_
      refine WO_step 1 [0, 1, 2, 3, 4] [0, 1, 6, 7, 8] True ⟨[(0, .one (.e (.sl 0 0 x1.length))), (1, .one (.e (.sl 1 0 x2.length))), (6, .one (.e (.sl 2 0 x99.length))), (7, .one (.e (.sl 3 0 x101.length))), (8, .one (.e (.sl 4 0 x103.length)))], [.row .nod x1 false, .row .nod x2 false, .row .edt x99 true, .row .nod x101 true, .row .nod x103 true]⟩ (by kernel_rfl) trivial ?_
      refine WO_nil rfl ?_
      refine thenS_n ?_
      refine W_seq ?_
      refine W_region ?_
      refine WO_step 2 [0, 1, 2, 3, 4] [0, 1, 6, 7, 8, 33, 34] True ⟨[(0, .one (.e (.sl 0 0 x1.length))), (1, .one (.e (.sl 1 0 x2.length))), (6, .one (.e (.sl 2 0 x99.length))), (7, .one (.e (.sl 3 0 x101.length))), (8, .one (.e (.sl 4 0 x103.length))), (33, .one (.e (.sl 3 0 x101.length))), (34, .one (.e (.sl 4 0 x103.length)))], [.row .nod x1 false, .row .nod x2 false, .row .edt x99 true, .row .nod x101 true, .row .nod x103 true]⟩ (by kernel_rfl) trivial ?_
      refine bindO_e h (fun x105 hc106 h => ?_)
      refine WO_call [.ro 3, .ro 4] Try.f9 rfl rfl rfl (by kernel_rfl) Try.func9 rfl (by kernel_rfl) (impl_EditsBetween_ok n x101 x103 x105 hc106) (And.intro (And.intro rfl rfl) (And.intro (And.intro rfl rfl) (trivial))) rfl ?_
      refine WO_step 1 [0, 1, 2, 3, 4, 5] [0, 1, 6, 7, 8, 9] True ⟨[(0, .one (.e (.sl 0 0 x1.length))), (1, .one (.e (.sl 1 0 x2.length))), (6, .one (.e (.sl 2 0 x99.length))), (7, .one (.e (.sl 3 0 x101.length))), (8, .one (.e (.sl 4 0 x103.length))), (9, .one (.e (.sl 5 0 x105.length)))], [.row .nod x1 false, .row .nod x2 false, .row .edt x99 true, .row .nod x101 true, .row .nod x103 true, .row .edt x105 true]⟩ (by kernel_rfl) trivial ?_
      refine WO_nil rfl ?_
      refine thenS_n ?_
      refine W_seq ?_
      refine W_seq ?_
      refine W_region ?_
      refine WO_step 2 [0, 1, 2, 3, 4, 5] [0, 1, 6, 7, 8, 9, 36, 37] True ⟨[(0, .one (.e (.sl 0 0 x1.length))), (1, .one (.e (.sl 1 0 x2.length))), (6, .one (.e (.sl 2 0 x99.length))), (7, .one (.e (.sl 3 0 x101.length))), (8, .one (.e (.sl 4 0 x103.length))), (9, .one (.e (.sl 5 0 x105.length))), (36, .one (.e (.sl 5 0 x105.length))), (37, .one (.e (.sl 2 0 x99.length)))], [.row .nod x1 false, .row .nod x2 false, .row .edt x99 true, .row .nod x101 true, .row .nod x103 true, .row .edt x105 true]⟩ (by kernel_rfl) trivial ?_
      refine bindO_e h (fun b107 hc108 h => ?_)
      refine WO_call [.ro 5, .ro 2] Try.f10 rfl rfl rfl (by kernel_rfl) Try.func10 rfl (by kernel_rfl) (laws_eqEditS_ok n x105 x99 b107 hc108) (And.intro (And.intro rfl rfl) (And.intro (And.intro rfl rfl) (trivial))) rfl ?_
      refine WO_step 1 [0, 1, 2, 3, 4, 5] [0, 1, 6, 7, 8, 9, 39] True ⟨[(0, .one (.e (.sl 0 0 x1.length))), (1, .one (.e (.sl 1 0 x2.length))), (6, .one (.e (.sl 2 0 x99.length))), (7, .one (.e (.sl 3 0 x101.length))), (8, .one (.e (.sl 4 0 x103.length))), (9, .one (.e (.sl 5 0 x105.length))), (39, B (!b107))], [.row .nod x1 false, .row .nod x2 false, .row .edt x99 true, .row .nod x101 true, .row .nod x103 true, .row .edt x105 true]⟩ (by kernel_rfl) trivial ?_
      refine WO_nil rfl ?_
      refine thenS_n ?_
      refine iteO_e h (fun hb110 h => W_true rfl hb110 ?_) (fun hb110 h => W_false rfl hb110 ?_)
      · refine W_seq ?_
        refine W_region ?_
        refine WO_step 1 [0, 1] [4] True ⟨[(4, B false)], [.row .nod x1 false, .row .nod x2 false]⟩ (by kernel_rfl) trivial ?_
        refine WO_nil rfl ?_
        refine thenS_n ?_
        refine W_ret ?_
        refine thenS_r ?_
        cases h
        exact ⟨[0, 1], True, by kernel_rfl, trivial⟩
      · refine W_sub [0, 1, 2, 3, 4, 5] [0, 1, 6, 7, 8, 9] (st' := ⟨[(0, .one (.e (.sl 0 0 x1.length))), (1, .one (.e (.sl 1 0 x2.length))), (6, .one (.e (.sl 2 0 x99.length))), (7, .one (.e (.sl 3 0 x101.length))), (8, .one (.e (.sl 4 0 x103.length))), (9, .one (.e (.sl 5 0 x105.length)))], [.row .nod x1 false, .row .nod x2 false, .row .edt x99 true, .row .nod x101 true, .row .nod x103 true, .row .edt x105 true]⟩) (by kernel_rfl) ?_
        refine W_skip ?_
        refine thenS_n ?_
        refine W_seq ?_
        refine W_seq ?_
        refine W_region ?_
        refine WO_step 2 [0, 1, 2, 3, 4, 5] [0, 1, 6, 7, 8, 9, 40, 41] True ⟨[(0, .one (.e (.sl 0 0 x1.length))), (1, .one (.e (.sl 1 0 x2.length))), (6, .one (.e (.sl 2 0 x99.length))), (7, .one (.e (.sl 3 0 x101.length))), (8, .one (.e (.sl 4 0 x103.length))), (9, .one (.e (.sl 5 0 x105.length))), (40, .one (.e (.sl 3 0 x101.length))), (41, .one (.e (.sl 0 0 x1.length)))], [.row .nod x1 false, .row .nod x2 false, .row .edt x99 true, .row .nod x101 true, .row .nod x103 true, .row .edt x105 true]⟩ (by kernel_rfl) trivial ?_
        refine bindO_e h (fun x111 hc112 h => ?_)
        refine WO_call [.ro 0] Try.f8 rfl rfl rfl (by kernel_rfl) Try.func8 rfl (by kernel_rfl) (laws_toNodeS_ok n x1 x111 hc112) (And.intro (And.intro rfl rfl) (trivial)) rfl ?_
        refine WO_sub [0, 1, 2, 3, 4, 5, 6] [0, 1, 6, 7, 8, 9, 40, 42] (st' := ⟨[(0, .one (.e (.sl 0 0 x1.length))), (1, .one (.e (.sl 1 0 x2.length))), (6, .one (.e (.sl 2 0 x99.length))), (7, .one (.e (.sl 3 0 x101.length))), (8, .one (.e (.sl 4 0 x103.length))), (9, .one (.e (.sl 5 0 x105.length))), (40, .one (.e (.sl 3 0 x101.length))), (42, .one (.e (.sl 6 0 x111.length)))], [.row .nod x1 false, .row .nod x2 false, .row .edt x99 true, .row .nod x101 true, .row .nod x103 true, .row .edt x105 true, .row .nod x111 true]⟩) (by kernel_rfl) ?_
        refine bindO_e h (fun b113 hc114 h => ?_)
        refine WO_call [.ro 3, .ro 6] Try.f11 rfl rfl rfl (by kernel_rfl) Try.func11 rfl (by kernel_rfl) (laws_eqNodeS_ok n x101 x111 b113 hc114) (And.intro (And.intro rfl rfl) (And.intro (And.intro rfl rfl) (trivial))) rfl ?_
        refine WO_step 1 [0, 1, 2, 3, 4, 5] [0, 1, 6, 7, 8, 9, 44] True ⟨[(0, .one (.e (.sl 0 0 x1.length))), (1, .one (.e (.sl 1 0 x2.length))), (6, .one (.e (.sl 2 0 x99.length))), (7, .one (.e (.sl 3 0 x101.length))), (8, .one (.e (.sl 4 0 x103.length))), (9, .one (.e (.sl 5 0 x105.length))), (44, B (!b113))], [.row .nod x1 false, .row .nod x2 false, .row .edt x99 true, .row .nod x101 true, .row .nod x103 true, .row .edt x105 true]⟩ (by kernel_rfl) trivial ?_
        refine WO_nil rfl ?_
        refine thenS_n ?_
        refine iteO_e h (fun hb116 h => W_true rfl hb116 ?_) (fun hb116 h => W_false rfl hb116 ?_)
        · refine W_seq ?_
          refine W_region ?_
          refine WO_step 1 [0, 1] [4] True ⟨[(4, B false)], [.row .nod x1 false, .row .nod x2 false]⟩ (by kernel_rfl) trivial ?_
          refine WO_nil rfl ?_
          refine thenS_n ?_
          refine W_ret ?_
          refine thenS_r ?_
          cases h
          exact ⟨[0, 1], True, by kernel_rfl, trivial⟩
        · refine W_sub [0, 1, 2, 3, 4, 5] [0, 1, 6, 7, 8, 9] (st' := ⟨[(0, .one (.e (.sl 0 0 x1.length))), (1, .one (.e (.sl 1 0 x2.length))), (6, .one (.e (.sl 2 0 x99.length))), (7, .one (.e (.sl 3 0 x101.length))), (8, .one (.e (.sl 4 0 x103.length))), (9, .one (.e (.sl 5 0 x105.length)))], [.row .nod x1 false, .row .nod x2 false, .row .edt x99 true, .row .nod x101 true, .row .nod x103 true, .row .edt x105 true]⟩) (by kernel_rfl) ?_
          refine W_skip ?_
          refine thenS_n ?_
          refine W_seq ?_
          refine W_seq ?_
          refine W_region ?_
          refine WO_step 2 [0, 1, 2, 3, 4, 5] [0, 1, 6, 7, 8, 9, 45, 46] True ⟨[(0, .one (.e (.sl 0 0 x1.length))), (1, .one (.e (.sl 1 0 x2.length))), (6, .one (.e (.sl 2 0 x99.length))), (7, .one (.e (.sl 3 0 x101.length))), (8, .one (.e (.sl 4 0 x103.length))), (9, .one (.e (.sl 5 0 x105.length))), (45, .one (.e (.sl 4 0 x103.length))), (46, .one (.e (.sl 1 0 x2.length)))], [.row .nod x1 false, .row .nod x2 false, .row .edt x99 true, .row .nod x101 true, .row .nod x103 true, .row .edt x105 true]⟩ (by kernel_rfl) trivial ?_
          refine bindO_e h (fun x117 hc118 h => ?_)
          refine WO_call [.ro 1] Try.f8 rfl rfl rfl (by kernel_rfl) Try.func8 rfl (by kernel_rfl) (laws_toNodeS_ok n x2 x117 hc118) (And.intro (And.intro rfl rfl) (trivial)) rfl ?_
          refine WO_sub [0, 1, 2, 3, 4, 5, 6] [0, 1, 6, 7, 8, 9, 45, 47] (st' := ⟨[(0, .one (.e (.sl 0 0 x1.length))), (1, .one (.e (.sl 1 0 x2.length))), (6, .one (.e (.sl 2 0 x99.length))), (7, .one (.e (.sl 3 0 x101.length))), (8, .one (.e (.sl 4 0 x103.length))), (9, .one (.e (.sl 5 0 x105.length))), (45, .one (.e (.sl 4 0 x103.length))), (47, .one (.e (.sl 6 0 x117.length)))], [.row .nod x1 false, .row .nod x2 false, .row .edt x99 true, .row .nod x101 true, .row .nod x103 true, .row .edt x105 true, .row .nod x117 true]⟩) (by kernel_rfl) ?_
          refine bindO_e h (fun b119 hc120 h => ?_)
          refine WO_call [.ro 4, .ro 6] Try.f11 rfl rfl rfl (by kernel_rfl) Try.func11 rfl (by kernel_rfl) (laws_eqNodeS_ok n x103 x117 b119 hc120) (And.intro (And.intro rfl rfl) (And.intro (And.intro rfl rfl) (trivial))) rfl ?_
          refine WO_step 1 [0, 1, 2, 3, 4, 5] [0, 1, 6, 7, 8, 9, 49] True ⟨[(0, .one (.e (.sl 0 0 x1.length))), (1, .one (.e (.sl 1 0 x2.length))), (6, .one (.e (.sl 2 0 x99.length))), (7, .one (.e (.sl 3 0 x101.length))), (8, .one (.e (.sl 4 0 x103.length))), (9, .one (.e (.sl 5 0 x105.length))), (49, B (!b119))], [.row .nod x1 false, .row .nod x2 false, .row .edt x99 true, .row .nod x101 true, .row .nod x103 true, .row .edt x105 true]⟩ (by kernel_rfl) trivial ?_
          refine WO_nil rfl ?_
          refine thenS_n ?_
          refine iteO_e h (fun hb122 h => W_true rfl hb122 ?_) (fun hb122 h => W_false rfl hb122 ?_)
          · refine W_seq ?_
            refine W_region ?_
            refine WO_step 1 [0, 1] [4] True ⟨[(4, B false)], [.row .nod x1 false, .row .nod x2 false]⟩ (by kernel_rfl) trivial ?_
            refine WO_nil rfl ?_
            refine thenS_n ?_
            refine W_ret ?_
            refine thenS_r ?_
            cases h
            exact ⟨[0, 1], True, by kernel_rfl, trivial⟩
          · refine W_sub [0, 1, 2, 3, 4, 5] [0, 1, 6, 7, 8, 9] (st' := ⟨[(0, .one (.e (.sl 0 0 x1.length))), (1, .one (.e (.sl 1 0 x2.length))), (6, .one (.e (.sl 2 0 x99.length))), (7, .one (.e (.sl 3 0 x101.length))), (8, .one (.e (.sl 4 0 x103.length))), (9, .one (.e (.sl 5 0 x105.length)))], [.row .nod x1 false, .row .nod x2 false, .row .edt x99 true, .row .nod x101 true, .row .nod x103 true, .row .edt x105 true]⟩) (by kernel_rfl) ?_
            refine W_skip ?_
            refine thenS_n ?_
            refine W_seq ?_
            refine W_region ?_
            refine WO_step 1 [0, 1, 2, 3, 4, 5] [0, 1, 6, 7, 8, 9, 10] True ⟨[(0, .one (.e (.sl 0 0 x1.length))), (1, .one (.e (.sl 1 0 x2.length))), (6, .one (.e (.sl 2 0 x99.length))), (7, .one (.e (.sl 3 0 x101.length))), (8, .one (.e (.sl 4 0 x103.length))), (9, .one (.e (.sl 5 0 x105.length))), (10, I 1)], [.row .nod x1 false, .row .nod x2 false, .row .edt x99 true, .row .nod x101 true, .row .nod x103 true, .row .edt x105 true]⟩ (by kernel_rfl) trivial ?_
            refine WO_nil rfl ?_
            refine thenS_n ?_
            refine W_seq ?_
            refine W_region ?_
            refine WO_step 2 [0, 1, 2, 4, 5, 3] [0, 1, 6, 8, 9, 50, 51] True ⟨[(0, .one (.e (.sl 0 0 x1.length))), (1, .one (.e (.sl 1 0 x2.length))), (6, .one (.e (.sl 2 0 x99.length))), (8, .one (.e (.sl 3 0 x103.length))), (9, .one (.e (.sl 4 0 x105.length))), (50, .one (.e (.sl 5 0 x101.length))), (51, I 1)], [.row .nod x1 false, .row .nod x2 false, .row .edt x99 true, .row .nod x103 true, .row .edt x105 true, .row .nod x101 true]⟩ (by kernel_rfl) trivial ?_
            refine bindO_e h (fun v169 hc125 h => ?_)
            obtain ⟨x123, i124⟩ := v169
            refine guardO_e h (fun hl126 h => ?_)
            refine WO_call [.own 5] Try.f12 rfl rfl rfl (by kernel_rfl) Try.func12 rfl (by kernel_rfl) (laws_markNodeS_ok n x101 x101.length 1 x123 i124 hc125) (And.intro (And.intro rfl (And.intro rfl hl126)) (trivial)) rfl ?_
            refine WO_sub [0, 1, 2, 3, 4, 5] [0, 1, 6, 8, 9, 50, 51, 52] (st' := ⟨[(0, .one (.e (.sl 0 0 x1.length))), (1, .one (.e (.sl 1 0 x2.length))), (6, .one (.e (.sl 2 0 x99.length))), (8, .one (.e (.sl 3 0 x103.length))), (9, .one (.e (.sl 4 0 x105.length))), (50, .one (.e (.sl 5 0 x101.length))), (51, I 1), (52, I i124)], [.row .nod x1 false, .row .nod x2 false, .row .edt x99 true, .row .nod x103 true, .row .edt x105 true, .row .nod x123 true]⟩) (by kernel_rfl) ?_
            refine WO_eq (st' := ⟨[(0, .one (.e (.sl 0 0 x1.length))), (1, .one (.e (.sl 1 0 x2.length))), (6, .one (.e (.sl 2 0 x99.length))), (8, .one (.e (.sl 3 0 x103.length))), (9, .one (.e (.sl 4 0 x105.length))), (50, .one (.e (.sl 5 0 x123.length))), (51, I 1), (52, I i124)], [.row .nod x1 false, .row .nod x2 false, .row .edt x99 true, .row .nod x103 true, .row .edt x105 true, .row .nod x123 true]⟩) (by simp only [hl126]) ?_
            refine WO_step 1 [0, 1, 2, 3, 4] [0, 1, 6, 8, 9, 10] True ⟨[(0, .one (.e (.sl 0 0 x1.length))), (1, .one (.e (.sl 1 0 x2.length))), (6, .one (.e (.sl 2 0 x99.length))), (8, .one (.e (.sl 3 0 x103.length))), (9, .one (.e (.sl 4 0 x105.length))), (10, I i124)], [.row .nod x1 false, .row .nod x2 false, .row .edt x99 true, .row .nod x103 true, .row .edt x105 true]⟩ (by kernel_rfl) trivial ?_
            refine WO_nil rfl ?_
            refine thenS_n ?_
            refine W_seq ?_
            refine W_region ?_
            refine WO_step 2 [0, 1, 2, 4, 3] [0, 1, 6, 9, 53, 54] True ⟨[(0, .one (.e (.sl 0 0 x1.length))), (1, .one (.e (.sl 1 0 x2.length))), (6, .one (.e (.sl 2 0 x99.length))), (9, .one (.e (.sl 3 0 x105.length))), (53, .one (.e (.sl 4 0 x103.length))), (54, I i124)], [.row .nod x1 false, .row .nod x2 false, .row .edt x99 true, .row .edt x105 true, .row .nod x103 true]⟩ (by kernel_rfl) trivial ?_
            refine bindO_e h (fun v168 hc129 h => ?_)
            obtain ⟨x127, i128⟩ := v168
            refine guardO_e h (fun hl130 h => ?_)
            refine WO_call [.own 4] Try.f12 rfl rfl rfl (by kernel_rfl) Try.func12 rfl (by kernel_rfl) (laws_markNodeS_ok n x103 x103.length i124 x127 i128 hc129) (And.intro (And.intro rfl (And.intro rfl hl130)) (trivial)) rfl ?_
            refine WO_sub [0, 1, 2, 3, 4] [0, 1, 6, 9, 53, 54, 55] (st' := ⟨[(0, .one (.e (.sl 0 0 x1.length))), (1, .one (.e (.sl 1 0 x2.length))), (6, .one (.e (.sl 2 0 x99.length))), (9, .one (.e (.sl 3 0 x105.length))), (53, .one (.e (.sl 4 0 x103.length))), (54, I i124), (55, I i128)], [.row .nod x1 false, .row .nod x2 false, .row .edt x99 true, .row .edt x105 true, .row .nod x127 true]⟩) (by kernel_rfl) ?_
            refine WO_eq (st' := ⟨[(0, .one (.e (.sl 0 0 x1.length))), (1, .one (.e (.sl 1 0 x2.length))), (6, .one (.e (.sl 2 0 x99.length))), (9, .one (.e (.sl 3 0 x105.length))), (53, .one (.e (.sl 4 0 x127.length))), (54, I i124), (55, I i128)], [.row .nod x1 false, .row .nod x2 false, .row .edt x99 true, .row .edt x105 true, .row .nod x127 true]⟩) (by simp only [hl130]) ?_
            refine WO_step 1 [0, 1, 2, 3] [0, 1, 6, 9, 10] True ⟨[(0, .one (.e (.sl 0 0 x1.length))), (1, .one (.e (.sl 1 0 x2.length))), (6, .one (.e (.sl 2 0 x99.length))), (9, .one (.e (.sl 3 0 x105.length))), (10, I i128)], [.row .nod x1 false, .row .nod x2 false, .row .edt x99 true, .row .edt x105 true]⟩ (by kernel_rfl) trivial ?_
            refine WO_nil rfl ?_
            refine thenS_n ?_
            refine W_seq ?_
            refine W_seq ?_
            refine W_region ?_
            refine WO_step 3 [0, 1, 2, 3] [0, 1, 6, 9, 58] (True ∧ True) ⟨[(0, .one (.e (.sl 0 0 x1.length))), (1, .one (.e (.sl 1 0 x2.length))), (6, .one (.e (.sl 2 0 x99.length))), (9, .one (.e (.sl 3 0 x105.length))), (58, B (decide (i128 < 0)))], [.row .nod x1 false, .row .nod x2 false, .row .edt x99 true, .row .edt x105 true]⟩ (by kernel_rfl) ⟨trivial, trivial⟩ ?_
            refine bindO_e h (fun b134 hv135 h => ?_)
            refine WO_thru ⟨[(0, .one (.e (.sl 0 0 x1.length))), (1, .one (.e (.sl 1 0 x2.length))), (6, .one (.e (.sl 2 0 x99.length))), (9, .one (.e (.sl 3 0 x105.length))), (63, B b134)], [.row .nod x1 false, .row .nod x2 false, .row .edt x99 true, .row .edt x105 true]⟩ ?_ ?_
            · refine iteO_e hv135 (fun hb136 hv135 => WO_known 58 true rfl hb136 ?_) (fun hb136 hv135 => WO_known 58 false rfl hb136 ?_)
              · refine WO_step 5 [0, 1, 2, 3] [0, 1, 6, 9, 63] True ⟨[(0, .one (.e (.sl 0 0 x1.length))), (1, .one (.e (.sl 1 0 x2.length))), (6, .one (.e (.sl 2 0 x99.length))), (9, .one (.e (.sl 3 0 x105.length))), (63, B true)], [.row .nod x1 false, .row .nod x2 false, .row .edt x99 true, .row .edt x105 true]⟩ (by kernel_rfl) trivial ?_
                cases hv135
                exact WO_nil rfl ⟨rfl, rfl⟩
              · refine WO_step 2 [0, 1, 2, 3] [0, 1, 6, 9, 58, 59, 60] True ⟨[(0, .one (.e (.sl 0 0 x1.length))), (1, .one (.e (.sl 1 0 x2.length))), (6, .one (.e (.sl 2 0 x99.length))), (9, .one (.e (.sl 3 0 x105.length))), (58, B false), (59, .one (.e (.sl 3 0 x105.length))), (60, .one (.e (.sl 2 0 x99.length)))], [.row .nod x1 false, .row .nod x2 false, .row .edt x99 true, .row .edt x105 true]⟩ (by kernel_rfl) trivial ?_
                refine bindO_e hv135 (fun b137 hc138 hv135 => ?_)
                refine WO_call [.ro 3, .ro 2] Try.f10 rfl rfl rfl (by kernel_rfl) Try.func10 rfl (by kernel_rfl) (laws_eqEditS_ok n x105 x99 b137 hc138) (And.intro (And.intro rfl rfl) (And.intro (And.intro rfl rfl) (trivial))) rfl ?_
                refine WO_step 2 [0, 1, 2, 3] [0, 1, 6, 9, 63] True ⟨[(0, .one (.e (.sl 0 0 x1.length))), (1, .one (.e (.sl 1 0 x2.length))), (6, .one (.e (.sl 2 0 x99.length))), (9, .one (.e (.sl 3 0 x105.length))), (63, B (!b137))], [.row .nod x1 false, .row .nod x2 false, .row .edt x99 true, .row .edt x105 true]⟩ (by kernel_rfl) trivial ?_
                cases hv135
                exact WO_nil rfl ⟨rfl, rfl⟩
            · refine thenS_n ?_
              refine iteO_e h (fun hb140 h => W_true rfl hb140 ?_) (fun hb140 h => W_false rfl hb140 ?_)
              · refine W_seq ?_
                refine W_region ?_
                refine WO_step 1 [0, 1] [4] True ⟨[(4, B false)], [.row .nod x1 false, .row .nod x2 false]⟩ (by kernel_rfl) trivial ?_
                refine WO_nil rfl ?_
                refine thenS_n ?_
                refine W_ret ?_
                refine thenS_r ?_
                cases h
                exact ⟨[0, 1], True, by kernel_rfl, trivial⟩
              · refine W_sub [0, 1, 2, 3] [0, 1, 6, 9] (st' := ⟨[(0, .one (.e (.sl 0 0 x1.length))), (1, .one (.e (.sl 1 0 x2.length))), (6, .one (.e (.sl 2 0 x99.length))), (9, .one (.e (.sl 3 0 x105.length)))], [.row .nod x1 false, .row .nod x2 false, .row .edt x99 true, .row .edt x105 true]⟩) (by kernel_rfl) ?_
                refine W_skip ?_
                refine thenS_n ?_
                refine W_seq ?_
                refine W_region ?_
                refine WO_step 1 [0, 1, 2, 3] [0, 1, 6, 9, 11] True ⟨[(0, .one (.e (.sl 0 0 x1.length))), (1, .one (.e (.sl 1 0 x2.length))), (6, .one (.e (.sl 2 0 x99.length))), (9, .one (.e (.sl 3 0 x105.length))), (11, I 1)], [.row .nod x1 false, .row .nod x2 false, .row .edt x99 true, .row .edt x105 true]⟩ (by kernel_rfl) trivial ?_
                refine WO_nil rfl ?_
                refine thenS_n ?_
                refine W_seq ?_
                refine W_region ?_
                refine WO_step 2 [0, 1, 2, 3] [0, 1, 6, 9, 64, 65] True ⟨[(0, .one (.e (.sl 0 0 x1.length))), (1, .one (.e (.sl 1 0 x2.length))), (6, .one (.e (.sl 2 0 x99.length))), (9, .one (.e (.sl 3 0 x105.length))), (64, .one (.e (.sl 3 0 x105.length))), (65, I 1)], [.row .nod x1 false, .row .nod x2 false, .row .edt x99 true, .row .edt x105 true]⟩ (by kernel_rfl) trivial ?_
                refine bindO_e h (fun v167 hc143 h => ?_)
                obtain ⟨x141, i142⟩ := v167
                refine guardO_e h (fun hl144 h => ?_)
                refine WO_call [.own 3] Try.f13 rfl rfl rfl (by kernel_rfl) Try.func13 rfl (by kernel_rfl) (laws_markEditS_ok n x105 x105.length 1 x141 i142 hc143) (And.intro (And.intro rfl (And.intro rfl hl144)) (trivial)) rfl ?_
                refine WO_sub [0, 1, 2, 3] [0, 1, 6, 9, 64, 65, 66] (st' := ⟨[(0, .one (.e (.sl 0 0 x1.length))), (1, .one (.e (.sl 1 0 x2.length))), (6, .one (.e (.sl 2 0 x99.length))), (9, .one (.e (.sl 3 0 x105.length))), (64, .one (.e (.sl 3 0 x105.length))), (65, I 1), (66, I i142)], [.row .nod x1 false, .row .nod x2 false, .row .edt x99 true, .row .edt x141 true]⟩) (by kernel_rfl) ?_
                refine WO_eq (st' := ⟨[(0, .one (.e (.sl 0 0 x1.length))), (1, .one (.e (.sl 1 0 x2.length))), (6, .one (.e (.sl 2 0 x99.length))), (9, .one (.e (.sl 3 0 x141.length))), (64, .one (.e (.sl 3 0 x141.length))), (65, I 1), (66, I i142)], [.row .nod x1 false, .row .nod x2 false, .row .edt x99 true, .row .edt x141 true]⟩) (by simp only [hl144]) ?_
                refine WO_step 1 [0, 1, 2, 3] [0, 1, 6, 9, 11] True ⟨[(0, .one (.e (.sl 0 0 x1.length))), (1, .one (.e (.sl 1 0 x2.length))), (6, .one (.e (.sl 2 0 x99.length))), (9, .one (.e (.sl 3 0 x141.length))), (11, I i142)], [.row .nod x1 false, .row .nod x2 false, .row .edt x99 true, .row .edt x141 true]⟩ (by kernel_rfl) trivial ?_
                refine WO_nil rfl ?_
                refine thenS_n ?_
                refine W_seq ?_
                refine W_region ?_
                refine WO_step 1 [0, 1, 2, 3] [0, 1, 6, 9, 11, 12] True ⟨[(0, .one (.e (.sl 0 0 x1.length))), (1, .one (.e (.sl 1 0 x2.length))), (6, .one (.e (.sl 2 0 x99.length))), (9, .one (.e (.sl 3 0 x141.length))), (11, I i142), (12, I 1)], [.row .nod x1 false, .row .nod x2 false, .row .edt x99 true, .row .edt x141 true]⟩ (by kernel_rfl) trivial ?_
                refine WO_nil rfl ?_
                refine thenS_n ?_
                refine W_seq ?_
                refine W_region ?_
                refine WO_step 2 [0, 1, 2, 3] [0, 1, 6, 9, 11, 67, 68] True ⟨[(0, .one (.e (.sl 0 0 x1.length))), (1, .one (.e (.sl 1 0 x2.length))), (6, .one (.e (.sl 2 0 x99.length))), (9, .one (.e (.sl 3 0 x141.length))), (11, I i142), (67, .one (.e (.sl 3 0 x141.length))), (68, I 1)], [.row .nod x1 false, .row .nod x2 false, .row .edt x99 true, .row .edt x141 true]⟩ (by kernel_rfl) trivial ?_
                refine bindO_e h (fun i145 hc146 h => ?_)
                refine WO_call [.ro 3] Try.f14 rfl rfl rfl (by kernel_rfl) Try.func14 rfl (by kernel_rfl) (laws_heldEditS_ok n x141 1 i145 hc146) (And.intro (And.intro rfl rfl) (trivial)) rfl ?_
                refine WO_step 1 [0, 1, 2, 3] [0, 1, 6, 9, 11, 12] True ⟨[(0, .one (.e (.sl 0 0 x1.length))), (1, .one (.e (.sl 1 0 x2.length))), (6, .one (.e (.sl 2 0 x99.length))), (9, .one (.e (.sl 3 0 x141.length))), (11, I i142), (12, I i145)], [.row .nod x1 false, .row .nod x2 false, .row .edt x99 true, .row .edt x141 true]⟩ (by kernel_rfl) trivial ?_
                refine WO_nil rfl ?_
                refine thenS_n ?_
                refine W_seq ?_
                refine W_seq ?_
                refine W_region ?_
                refine WO_step 2 [0, 1, 2, 3] [0, 1, 6, 9, 11, 12, 71] (True ∧ True) ⟨[(0, .one (.e (.sl 0 0 x1.length))), (1, .one (.e (.sl 1 0 x2.length))), (6, .one (.e (.sl 2 0 x99.length))), (9, .one (.e (.sl 3 0 x141.length))), (11, I i142), (12, I i145), (71, B (decide (i145 < 0)))], [.row .nod x1 false, .row .nod x2 false, .row .edt x99 true, .row .edt x141 true]⟩ (by kernel_rfl) ⟨trivial, trivial⟩ ?_
                refine WO_nil rfl ?_
                refine thenS_n ?_
                refine iteO_e h (fun hb148 h => W_true rfl hb148 ?_) (fun hb148 h => W_false rfl hb148 ?_)
                · refine W_seq ?_
                  refine W_region ?_
                  refine WO_step 1 [0, 1] [4] True ⟨[(4, B false)], [.row .nod x1 false, .row .nod x2 false]⟩ (by kernel_rfl) trivial ?_
                  refine WO_nil rfl ?_
                  refine thenS_n ?_
                  refine W_ret ?_
                  refine thenS_r ?_
                  cases h
                  exact ⟨[0, 1], True, by kernel_rfl, trivial⟩
                · refine W_sub [0, 1, 2, 3] [0, 1, 6, 9, 11, 12] (st' := ⟨[(0, .one (.e (.sl 0 0 x1.length))), (1, .one (.e (.sl 1 0 x2.length))), (6, .one (.e (.sl 2 0 x99.length))), (9, .one (.e (.sl 3 0 x141.length))), (11, I i142), (12, I i145)], [.row .nod x1 false, .row .nod x2 false, .row .edt x99 true, .row .edt x141 true]⟩) (by kernel_rfl) ?_
                  refine W_skip ?_
                  refine thenS_n ?_
                  refine W_seq ?_
                  refine W_seq ?_
                  refine W_region ?_
                  refine WO_step 3 [0, 1, 2, 3] [0, 1, 6, 9, 11, 74] (True ∧ True) ⟨[(0, .one (.e (.sl 0 0 x1.length))), (1, .one (.e (.sl 1 0 x2.length))), (6, .one (.e (.sl 2 0 x99.length))), (9, .one (.e (.sl 3 0 x141.length))), (11, I i142), (74, B (!decide (i145 = i142)))], [.row .nod x1 false, .row .nod x2 false, .row .edt x99 true, .row .edt x141 true]⟩ (by kernel_rfl) ⟨trivial, trivial⟩ ?_
                  refine WO_nil rfl ?_
                  refine thenS_n ?_
                  refine iteO_e h (fun hb150 h => W_true rfl hb150 ?_) (fun hb150 h => W_false rfl hb150 ?_)
                  · refine W_seq ?_
                    refine W_region ?_
                    refine WO_step 1 [0, 1] [4] True ⟨[(4, B false)], [.row .nod x1 false, .row .nod x2 false]⟩ (by kernel_rfl) trivial ?_
                    refine WO_nil rfl ?_
                    refine thenS_n ?_
                    refine W_ret ?_
                    refine thenS_r ?_
                    cases h
                    exact ⟨[0, 1], True, by kernel_rfl, trivial⟩
                  · refine W_sub [0, 1, 2, 3] [0, 1, 6, 9, 11] (st' := ⟨[(0, .one (.e (.sl 0 0 x1.length))), (1, .one (.e (.sl 1 0 x2.length))), (6, .one (.e (.sl 2 0 x99.length))), (9, .one (.e (.sl 3 0 x141.length))), (11, I i142)], [.row .nod x1 false, .row .nod x2 false, .row .edt x99 true, .row .edt x141 true]⟩) (by kernel_rfl) ?_
                    refine W_skip ?_
                    refine thenS_n ?_
                    refine W_seq ?_
                    refine W_region ?_
                    refine WO_step 1 [0, 1, 2, 3] [1, 6, 9, 11, 75] True ⟨[(1, .one (.e (.sl 1 0 x2.length))), (6, .one (.e (.sl 2 0 x99.length))), (9, .one (.e (.sl 3 0 x141.length))), (11, I i142), (75, .one (.e (.sl 0 0 x1.length)))], [.row .nod x1 false, .row .nod x2 false, .row .edt x99 true, .row .edt x141 true]⟩ (by kernel_rfl) trivial ?_
                    refine bindO_e h (fun x151 hc152 h => ?_)
                    refine WO_call [.ro 0] Try.f8 rfl rfl rfl (by kernel_rfl) Try.func8 rfl (by kernel_rfl) (laws_toNodeS_ok n x1 x151 hc152) (And.intro (And.intro rfl rfl) (trivial)) rfl ?_
                    refine WO_step 1 [0, 1, 2, 3, 4] [6, 9, 11, 76, 77] True ⟨[(6, .one (.e (.sl 2 0 x99.length))), (9, .one (.e (.sl 3 0 x141.length))), (11, I i142), (76, .one (.e (.sl 4 0 x151.length))), (77, .one (.e (.sl 1 0 x2.length)))], [.row .nod x1 false, .row .nod x2 false, .row .edt x99 true, .row .edt x141 true, .row .nod x151 true]⟩ (by kernel_rfl) trivial ?_
                    refine bindO_e h (fun x153 hc154 h => ?_)
                    refine WO_call [.ro 1] Try.f8 rfl rfl rfl (by kernel_rfl) Try.func8 rfl (by kernel_rfl) (laws_toNodeS_ok n x2 x153 hc154) (And.intro (And.intro rfl rfl) (trivial)) rfl ?_
                    refine WO_sub [0, 1, 2, 3, 4, 5] [6, 9, 11, 76, 78] (st' := ⟨[(6, .one (.e (.sl 2 0 x99.length))), (9, .one (.e (.sl 3 0 x141.length))), (11, I i142), (76, .one (.e (.sl 4 0 x151.length))), (78, .one (.e (.sl 5 0 x153.length)))], [.row .nod x1 false, .row .nod x2 false, .row .edt x99 true, .row .edt x141 true, .row .nod x151 true, .row .nod x153 true]⟩) (by kernel_rfl) ?_
                    refine bindO_e h (fun x155 hc156 h => ?_)
                    refine WO_call [.ro 4, .ro 5] Try.f9 rfl rfl rfl (by kernel_rfl) Try.func9 rfl (by kernel_rfl) (impl_EditsBetween_ok n x151 x153 x155 hc156) (And.intro (And.intro rfl rfl) (And.intro (And.intro rfl rfl) (trivial))) rfl ?_
                    refine WO_step 1 [0, 1, 2, 3, 6] [6, 9, 11, 13] True ⟨[(6, .one (.e (.sl 2 0 x99.length))), (9, .one (.e (.sl 3 0 x141.length))), (11, I i142), (13, .one (.e (.sl 4 0 x155.length)))], [.row .nod x1 false, .row .nod x2 false, .row .edt x99 true, .row .edt x141 true, .row .edt x155 true]⟩ (by kernel_rfl) trivial ?_
                    refine WO_nil rfl ?_
                    refine thenS_n ?_
                    refine W_seq ?_
                    refine W_seq ?_
                    refine W_region ?_
                    refine WO_step 2 [0, 1, 3, 4, 2] [9, 11, 80, 81] True ⟨[(9, .one (.e (.sl 2 0 x141.length))), (11, I i142), (80, .one (.e (.sl 3 0 x155.length))), (81, .one (.e (.sl 4 0 x99.length)))], [.row .nod x1 false, .row .nod x2 false, .row .edt x141 true, .row .edt x155 true, .row .edt x99 true]⟩ (by kernel_rfl) trivial ?_
                    refine bindO_e h (fun b157 hc158 h => ?_)
                    refine WO_call [.ro 3, .ro 4] Try.f10 rfl rfl rfl (by kernel_rfl) Try.func10 rfl (by kernel_rfl) (laws_eqEditS_ok n x155 x99 b157 hc158) (And.intro (And.intro rfl rfl) (And.intro (And.intro rfl rfl) (trivial))) rfl ?_
                    refine WO_step 1 [0, 1, 2] [9, 11, 83] True ⟨[(9, .one (.e (.sl 2 0 x141.length))), (11, I i142), (83, B (!b157))], [.row .nod x1 false, .row .nod x2 false, .row .edt x141 true]⟩ (by kernel_rfl) trivial ?_
                    refine WO_nil rfl ?_
                    refine thenS_n ?_
                    refine iteO_e h (fun hb160 h => W_true rfl hb160 ?_) (fun hb160 h => W_false rfl hb160 ?_)
                    · refine W_seq ?_
                      refine W_region ?_
                      refine WO_step 1 [0, 1] [4] True ⟨[(4, B false)], [.row .nod x1 false, .row .nod x2 false]⟩ (by kernel_rfl) trivial ?_
                      refine WO_nil rfl ?_
                      refine thenS_n ?_
                      refine W_ret ?_
                      refine thenS_r ?_
                      cases h
                      exact ⟨[0, 1], True, by kernel_rfl, trivial⟩
                    · refine W_sub [0, 1, 2] [9, 11] (st' := ⟨[(9, .one (.e (.sl 2 0 x141.length))), (11, I i142)], [.row .nod x1 false, .row .nod x2 false, .row .edt x141 true]⟩) (by kernel_rfl) ?_
                      refine W_skip ?_
                      refine thenS_n ?_
                      refine W_seq ?_
                      refine W_region ?_
                      refine WO_step 1 [0, 1, 2] [9, 11, 12] True ⟨[(9, .one (.e (.sl 2 0 x141.length))), (11, I i142), (12, I 1)], [.row .nod x1 false, .row .nod x2 false, .row .edt x141 true]⟩ (by kernel_rfl) trivial ?_
                      refine WO_nil rfl ?_
                      refine thenS_n ?_
                      refine W_seq ?_
                      refine W_region ?_
                      refine WO_step 2 [0, 1, 2] [11, 84, 85] True ⟨[(11, I i142), (84, .one (.e (.sl 2 0 x141.length))), (85, I 1)], [.row .nod x1 false, .row .nod x2 false, .row .edt x141 true]⟩ (by kernel_rfl) trivial ?_
                      refine bindO_e h (fun i161 hc162 h => ?_)
                      refine WO_call [.ro 2] Try.f14 rfl rfl rfl (by kernel_rfl) Try.func14 rfl (by kernel_rfl) (laws_heldEditS_ok n x141 1 i161 hc162) (And.intro (And.intro rfl rfl) (trivial)) rfl ?_
                      refine WO_step 1 [0, 1] [11, 12] True ⟨[(11, I i142), (12, I i161)], [.row .nod x1 false, .row .nod x2 false]⟩ (by kernel_rfl) trivial ?_
                      refine WO_nil rfl ?_
                      refine thenS_n ?_
                      refine W_seq ?_
                      refine W_seq ?_
                      refine W_region ?_
                      refine WO_step 2 [0, 1] [11, 12, 88] (True ∧ True) ⟨[(11, I i142), (12, I i161), (88, B (decide (i161 < 0)))], [.row .nod x1 false, .row .nod x2 false]⟩ (by kernel_rfl) ⟨trivial, trivial⟩ ?_
                      refine WO_nil rfl ?_
                      refine thenS_n ?_
                      refine iteO_e h (fun hb164 h => W_true rfl hb164 ?_) (fun hb164 h => W_false rfl hb164 ?_)
                      · refine W_seq ?_
                        refine W_region ?_
                        refine WO_step 1 [0, 1] [4] True ⟨[(4, B false)], [.row .nod x1 false, .row .nod x2 false]⟩ (by kernel_rfl) trivial ?_
                        refine WO_nil rfl ?_
                        refine thenS_n ?_
                        refine W_ret ?_
                        refine thenS_r ?_
                        cases h
                        exact ⟨[0, 1], True, by kernel_rfl, trivial⟩
                      · refine W_sub [0, 1] [11, 12] (st' := ⟨[(11, I i142), (12, I i161)], [.row .nod x1 false, .row .nod x2 false]⟩) (by kernel_rfl) ?_
                        refine W_skip ?_
                        refine thenS_n ?_
                        refine W_seq ?_
                        refine W_seq ?_
                        refine W_region ?_
                        refine WO_step 3 [0, 1] [91] (True ∧ True) ⟨[(91, B (!decide (i161 = i142)))], [.row .nod x1 false, .row .nod x2 false]⟩ (by kernel_rfl) ⟨trivial, trivial⟩ ?_
                        refine WO_nil rfl ?_
                        refine thenS_n ?_
                        refine iteO_e h (fun hb166 h => W_true rfl hb166 ?_) (fun hb166 h => W_false rfl hb166 ?_)
                        · refine W_seq ?_
                          refine W_region ?_
                          refine WO_step 1 [0, 1] [4] True ⟨[(4, B false)], [.row .nod x1 false, .row .nod x2 false]⟩ (by kernel_rfl) trivial ?_
                          refine WO_nil rfl ?_
                          refine thenS_n ?_
                          refine W_ret ?_
                          refine thenS_r ?_
                          cases h
                          exact ⟨[0, 1], True, by kernel_rfl, trivial⟩
                        · refine W_sub [0, 1] [] (st' := ⟨[], [.row .nod x1 false, .row .nod x2 false]⟩) (by kernel_rfl) ?_
                          refine W_skip ?_
                          refine thenS_n ?_
                          refine W_seq ?_
                          refine W_region ?_
                          refine WO_step 1 [0, 1] [4] True ⟨[(4, B true)], [.row .nod x1 false, .row .nod x2 false]⟩ (by kernel_rfl) trivial ?_
                          refine WO_nil rfl ?_
                          refine thenS_n ?_
                          refine W_ret ?_
                          cases h
                          exact ⟨[0, 1], True, by kernel_rfl, trivial⟩

end Go.Proofs.Ytghdgncfcfdlfaa
