import Derived.Test.YtiboohplkihhnaaTT1
namespace Go.Proofs.Ytiboohplkihhnaa
open Go Go.Shelf Go.Proofs
set_option linter.unusedVariables false
/- impl.SameTree -/
def impl_SameTree_L1 (x1 : List Nod) (x2 : List Nod) : Nat → Int → Option ((Unit) ⊕ (Unit))
| 0, _ => none
| n + 1, i137 =>
 iteO (decide (i137 < ((x1.length : Nat) : Int)))
 (bindO (impl_PathText n x1 i137) fun s177 =>
 bindO (impl_ResolvePath n x2 s177) fun i179 =>
 bindO (iteO (decide (i179 < 0))
 (some true)
 (guardO (0 ≤ i137 ∧ i137 < ((x1.length : Nat) : Int)) <|
 guardO (0 ≤ i179 ∧ i179 < ((x2.length : Nat) : Int)) <|
 some (!decide (((x1.getD i137.toNat dnod).value) = ((x2.getD i179.toNat dnod).value))))) fun b184 =>
 iteO b184
 (some (.inl ()))
 (impl_SameTree_L1 x1 x2 n (w64 (i137 + 1))))
 (some (.inr ()))

theorem impl_SameTree_L1_ok (w : World) (X : Nat → Prop) (θ : List Loc) (x1 : List Nod) (x2 : List Nod) (v : (Unit) ⊕ (Unit)) : ∀ (n : Nat) (i137 : Int), impl_SameTree_L1 x1 x2 n i137 = some v → WL EE ⟨w, X, θ, 48, 2⟩ (subC [1, 1, 0, 1, 4, 4] (bodyC Try.f10)) (fun (e : Exit) (s : St) => (match v with | (.inl _) => e = .ret ∧ s = ⟨[(4, B false)], [.row .nod x1 false, .row .nod x2 false]⟩ | (.inr _) => e = .exit 0 ∧ s = ⟨[], [.row .nod x1 false, .row .nod x2 false]⟩ : Prop)) ⟨[(0, .one (.e (.sl 0 0 x1.length))), (1, .one (.e (.sl 1 0 x2.length))), (23, I ((x1.length : Nat) : Int)), (24, I i137)], [.row .nod x1 false, .row .nod x2 false]⟩ := by
  intro n
  induction n with
  | zero => intro _ h; exact none_e h
  | succ n ih =>
    intro i137 h
    rw [impl_SameTree_L1] at h
    refine WL_round ?_
    refine W_seq ?_
    refine W_region ?_
    refine WO_step 1 [0, 1] [0, 1, 23, 24, 25] (True ∧ True) ⟨[(0, .one (.e (.sl 0 0 x1.length))), (1, .one (.e (.sl 1 0 x2.length))), (23, I ((x1.length : Nat) : Int)), (24, I i137), (25, B (decide (i137 < ((x1.length : Nat) : Int))))], [.row .nod x1 false, .row .nod x2 false]⟩ (by kernel_rfl) ⟨trivial, trivial⟩ ?_
    refine WO_nil rfl ?_
    refine thenS_n ?_
    refine W_seq ?_
    refine iteO_e h (fun hb165 h => W_true rfl hb165 ?_) (fun hb165 h => W_false rfl hb165 ?_)
    · refine W_sub [0, 1] [0, 1, 23, 24] (st' := ⟨[(0, .one (.e (.sl 0 0 x1.length))), (1, .one (.e (.sl 1 0 x2.length))), (23, I ((x1.length : Nat) : Int)), (24, I i137)], [.row .nod x1 false, .row .nod x2 false]⟩) (by kernel_rfl) ?_
      refine W_skip ?_
      refine thenS_n ?_
      refine W_seq ?_
      refine W_block ?_
      refine W_seq ?_
      refine W_region ?_
      refine WO_step 2 [0, 1] [0, 1, 5, 23, 24] True ⟨[(0, .one (.e (.sl 0 0 x1.length))), (1, .one (.e (.sl 1 0 x2.length))), (5, I i137), (23, I ((x1.length : Nat) : Int)), (24, I i137)], [.row .nod x1 false, .row .nod x2 false]⟩ (by kernel_rfl) trivial ?_
      refine WO_nil rfl ?_
      refine thenS_n ?_
      refine W_seq ?_
      refine W_region ?_
      refine WO_step 3 [0, 1] [0, 1, 5, 23, 24, 27, 28, 29] True ⟨[(0, .one (.e (.sl 0 0 x1.length))), (1, .one (.e (.sl 1 0 x2.length))), (5, I i137), (23, I ((x1.length : Nat) : Int)), (24, I i137), (27, .one (.e (.sl 1 0 x2.length))), (28, .one (.e (.sl 0 0 x1.length))), (29, I i137)], [.row .nod x1 false, .row .nod x2 false]⟩ (by kernel_rfl) trivial ?_
      refine bindO_e h (fun s177 hc178 h => ?_)
      refine WO_call [.ro 0] Try.f15 rfl rfl rfl (by kernel_rfl) rfl rfl (by kernel_rfl) (impl_PathText_ok n x1 i137 s177 hc178) (And.intro (And.intro rfl rfl) (trivial)) rfl ?_
      refine WO_sub [0, 1] [0, 1, 5, 23, 24, 27, 30] (st' := ⟨[(0, .one (.e (.sl 0 0 x1.length))), (1, .one (.e (.sl 1 0 x2.length))), (5, I i137), (23, I ((x1.length : Nat) : Int)), (24, I i137), (27, .one (.e (.sl 1 0 x2.length))), (30, S s177)], [.row .nod x1 false, .row .nod x2 false]⟩) (by kernel_rfl) ?_
      refine bindO_e h (fun i179 hc180 h => ?_)
      refine WO_call [.ro 1] Try.f14 rfl rfl rfl (by kernel_rfl) rfl rfl (by kernel_rfl) (impl_ResolvePath_ok n x2 s177 i179 hc180) (And.intro (And.intro rfl rfl) (trivial)) rfl ?_
      refine WO_step 1 [0, 1] [0, 1, 5, 6, 23, 24] True ⟨[(0, .one (.e (.sl 0 0 x1.length))), (1, .one (.e (.sl 1 0 x2.length))), (5, I i137), (6, I i179), (23, I ((x1.length : Nat) : Int)), (24, I i137)], [.row .nod x1 false, .row .nod x2 false]⟩ (by kernel_rfl) trivial ?_
      refine WO_nil rfl ?_
      refine thenS_n ?_
      refine W_seq ?_
      refine bindO_e h (fun b184 hv185 h => ?_)
      refine W_cut (Q' := fun (e : Exit) (s : St) => e = .normal ∧ s = ⟨[(0, .one (.e (.sl 0 0 x1.length))), (1, .one (.e (.sl 1 0 x2.length))), (23, I ((x1.length : Nat) : Int)), (24, I i137), (46, B b184)], [.row .nod x1 false, .row .nod x2 false]⟩) ?_ ?_
      · refine iteO_e hv185 (fun hb181 hv185 => ?_) (fun hb181 hv185 => ?_)
        · refine W_draw [] true (by kernel_rfl) (by kernel_rfl) ?_
          refine WD_takeK [0, 1, 2] [0, 1, 5, 6, 23, 24, 34] [0, 1, 5, 6, 23, 24, 34] (φ := (True ∧ True ∧ True)) (ls' := #[true, true, true, false, false, false, false, false, false, false, false, false, false, false, false]) (Ts' := [(0, .one (.e (.sl 0 0 x1.length))), (1, .one (.e (.sl 1 0 x2.length))), (5, I i137), (6, I i179), (23, I ((x1.length : Nat) : Int)), (24, I i137), (34, B (decide (i179 < 0)))]) (st' := ⟨[(0, .one (.e (.sl 0 0 x1.length))), (1, .one (.e (.sl 1 0 x2.length))), (5, I i137), (6, I i179), (23, I ((x1.length : Nat) : Int)), (24, I i137), (34, B (decide (i179 < 0)))], [.row .nod x1 false, .row .nod x2 false]⟩) (n2 := 12) (by kernel_rfl) ⟨trivial, trivial, trivial⟩ rfl ?_
          refine WD_known 34 true rfl rfl hb181 ?_
          refine WD_takeK [3, 4, 5, 6, 7, 8, 9, 10, 11, 12, 13, 14] [0, 1, 23, 24, 46] [0, 1, 23, 24, 46] (φ := True) (ls' := #[true, true, true, true, true, true, true, true, true, true, true, true, true, true, true]) (Ts' := [(0, .one (.e (.sl 0 0 x1.length))), (1, .one (.e (.sl 1 0 x2.length))), (23, I ((x1.length : Nat) : Int)), (24, I i137), (46, B true)]) (st' := ⟨[(0, .one (.e (.sl 0 0 x1.length))), (1, .one (.e (.sl 1 0 x2.length))), (23, I ((x1.length : Nat) : Int)), (24, I i137), (46, B true)], [.row .nod x1 false, .row .nod x2 false]⟩) (n2 := 0) (by kernel_rfl) trivial rfl ?_
          exact WD_done [0, 1] [0, 1, 23, 24, 46] (st' := ⟨[(0, .one (.e (.sl 0 0 x1.length))), (1, .one (.e (.sl 1 0 x2.length))), (23, I ((x1.length : Nat) : Int)), (24, I i137), (46, B true)], [.row .nod x1 false, .row .nod x2 false]⟩) (by kernel_rfl) (by kernel_rfl) (And.intro rfl (by cases hv185; rfl))
        · refine guardO_e hv185 (fun hg182 hv185 => ?_)
          refine guardO_e hv185 (fun hg183 hv185 => ?_)
          refine W_draw [] true (by kernel_rfl) (by kernel_rfl) ?_
          refine WD_takeK [0, 1, 2] [0, 1, 5, 6, 23, 24, 34] [0, 1, 5, 6, 23, 24, 34] (φ := (True ∧ True ∧ True)) (ls' := #[true, true, true, false, false, false, false, false, false, false, false, false, false, false, false]) (Ts' := [(0, .one (.e (.sl 0 0 x1.length))), (1, .one (.e (.sl 1 0 x2.length))), (5, I i137), (6, I i179), (23, I ((x1.length : Nat) : Int)), (24, I i137), (34, B (decide (i179 < 0)))]) (st' := ⟨[(0, .one (.e (.sl 0 0 x1.length))), (1, .one (.e (.sl 1 0 x2.length))), (5, I i137), (6, I i179), (23, I ((x1.length : Nat) : Int)), (24, I i137), (34, B (decide (i179 < 0)))], [.row .nod x1 false, .row .nod x2 false]⟩) (n2 := 12) (by kernel_rfl) ⟨trivial, trivial, trivial⟩ rfl ?_
          refine WD_known 34 false rfl rfl hb181 ?_
          refine WD_takeK [3, 4, 5, 6, 7, 8, 9, 10, 11, 12, 13, 14] [0, 1, 23, 24, 46] [0, 1, 23, 24, 46] (φ := ((0 ≤ i137 ∧ i137 < ((x1.length : Nat) : Int)) ∧ (0 ≤ i137 ∧ i137 < ((x1.length : Nat) : Int)) ∧ (True ∧ True ∧ ((0 ≤ i179 ∧ i179 < ((x2.length : Nat) : Int)) ∧ (0 ≤ i179 ∧ i179 < ((x2.length : Nat) : Int)) ∧ (True ∧ True ∧ (True ∧ True ∧ True)))))) (ls' := #[true, true, true, true, true, true, true, true, true, true, true, true, true, true, true]) (Ts' := [(0, .one (.e (.sl 0 0 x1.length))), (1, .one (.e (.sl 1 0 x2.length))), (23, I ((x1.length : Nat) : Int)), (24, I i137), (46, B (!decide (((x1.getD i137.toNat dnod).value) = ((x2.getD i179.toNat dnod).value))))]) (st' := ⟨[(0, .one (.e (.sl 0 0 x1.length))), (1, .one (.e (.sl 1 0 x2.length))), (23, I ((x1.length : Nat) : Int)), (24, I i137), (46, B (!decide (((x1.getD i137.toNat dnod).value) = ((x2.getD i179.toNat dnod).value))))], [.row .nod x1 false, .row .nod x2 false]⟩) (n2 := 0) (by kernel_rfl) ⟨hg182, hg182, trivial, trivial, hg183, hg183, trivial, trivial, trivial, trivial, trivial⟩ rfl ?_
          exact WD_done [0, 1] [0, 1, 23, 24, 46] (st' := ⟨[(0, .one (.e (.sl 0 0 x1.length))), (1, .one (.e (.sl 1 0 x2.length))), (23, I ((x1.length : Nat) : Int)), (24, I i137), (46, B (!decide (((x1.getD i137.toNat dnod).value) = ((x2.getD i179.toNat dnod).value))))], [.row .nod x1 false, .row .nod x2 false]⟩) (by kernel_rfl) (by kernel_rfl) (And.intro rfl (by cases hv185; rfl))
      · rintro _ _ ⟨rfl, rfl⟩
        refine thenS_n ?_
        refine iteO_e h (fun hb187 h => W_true rfl hb187 ?_) (fun hb187 h => W_false rfl hb187 ?_)
        · refine W_seq ?_
          refine W_region ?_
          refine WO_step 1 [0, 1] [4] True ⟨[(4, B false)], [.row .nod x1 false, .row .nod x2 false]⟩ (by kernel_rfl) trivial ?_
          refine WO_nil rfl ?_
          refine thenS_n ?_
          refine W_ret ?_
          refine blockS_r ?_
          refine thenS_r ?_
          refine thenS_r ?_
          cases h
          exact And.intro rfl rfl
        · refine W_sub [0, 1] [0, 1, 23, 24] (st' := ⟨[(0, .one (.e (.sl 0 0 x1.length))), (1, .one (.e (.sl 1 0 x2.length))), (23, I ((x1.length : Nat) : Int)), (24, I i137)], [.row .nod x1 false, .row .nod x2 false]⟩) (by kernel_rfl) ?_
          refine W_skip ?_
          refine blockS_n ?_
          refine thenS_n ?_
          refine W_region ?_
          refine WO_step 2 [0, 1] [0, 1, 23, 24] (True ∧ True) ⟨[(0, .one (.e (.sl 0 0 x1.length))), (1, .one (.e (.sl 1 0 x2.length))), (23, I ((x1.length : Nat) : Int)), (24, I (w64 (i137 + 1)))], [.row .nod x1 false, .row .nod x2 false]⟩ (by kernel_rfl) ⟨trivial, trivial⟩ ?_
          refine WO_nil rfl ?_
          refine thenS_n ?_
          exact ih _ h
    · refine W_sub [0, 1] [] (st' := ⟨[], [.row .nod x1 false, .row .nod x2 false]⟩) (by kernel_rfl) ?_
      refine W_exit ?_
      refine thenS_e ?_
      refine thenS_e ?_
      cases h
      exact And.intro rfl rfl

def impl_SameTree (n : Nat) (x1 : List Nod) (x2 : List Nod) : Option (Bool) :=
 bindO (impl_ValidTree n x1) fun b96 =>
 bindO (iteO (!b96)
 (some true)
 (bindO (impl_ValidTree n x2) fun b105 =>
 iteO (!b105)
 (some true)
 (some (!decide (((x1.length : Nat) : Int) = ((x2.length : Nat) : Int)))))) fun b102 =>
 iteO b102
 (some false)
 (bindO (impl_SameTree_L1 x1 x2 n 0) fun v188 =>
 match v188 with
 | (.inl _) => (some false)
 | (.inr _) => (some true)
)

theorem impl_SameTree_ok (n : Nat) (x1 : List Nod) (x2 : List Nod) (b95 : Bool) (h : impl_SameTree n x1 x2 = some b95) : FOk EE 10 [.one (.e (.sl 0 0 x1.length)), .one (.e (.sl 1 0 x2.length))] [.row .nod x1 false, .row .nod x2 false] (B b95) [.row .nod x1 false, .row .nod x2 false] := by
  unfold impl_SameTree at h
  refine FOk_of_W 48 2 Try.func10 rfl rfl (Nat.le_of_ble_eq_true rfl) rfl (fun w X θ => ?_)
  refine W_seq ?_
  refine W_region ?_
  refine WO_step 1 [0, 1] [0, 1] True ⟨[(0, .one (.e (.sl 0 0 x1.length))), (1, .one (.e (.sl 1 0 x2.length)))], [.row .nod x1 false, .row .nod x2 false]⟩ (by kernel_rfl) trivial ?_
  refine WO_nil rfl ?_
  refine thenS_n ?_
  refine W_seq ?_
  refine W_seq ?_
  refine W_region ?_
  refine WO_step 1 [0, 1] [0, 1, 7] True ⟨[(0, .one (.e (.sl 0 0 x1.length))), (1, .one (.e (.sl 1 0 x2.length))), (7, .one (.e (.sl 0 0 x1.length)))], [.row .nod x1 false, .row .nod x2 false]⟩ (by kernel_rfl) trivial ?_
  refine bindO_e h (fun b96 hc97 h => ?_)
  refine WO_call [.ro 0] Try.f13 rfl rfl rfl (by kernel_rfl) rfl rfl (by kernel_rfl) (impl_ValidTree_ok n x1 b96 hc97) (And.intro (And.intro rfl rfl) (trivial)) rfl ?_
  refine WO_step 2 [0, 1] [0, 1, 10] True ⟨[(0, .one (.e (.sl 0 0 x1.length))), (1, .one (.e (.sl 1 0 x2.length))), (10, B (!b96))], [.row .nod x1 false, .row .nod x2 false]⟩ (by kernel_rfl) trivial ?_
  refine bindO_e h (fun b102 hv103 h => ?_)
  refine WO_thru ⟨[(0, .one (.e (.sl 0 0 x1.length))), (1, .one (.e (.sl 1 0 x2.length))), (21, B b102)], [.row .nod x1 false, .row .nod x2 false]⟩ ?_ ?_
  · refine iteO_e hv103 (fun hb104 hv103 => WO_known 10 true rfl hb104 ?_) (fun hb104 hv103 => WO_known 10 false rfl hb104 ?_)
    · refine WO_step 11 [0, 1] [0, 1, 21] True ⟨[(0, .one (.e (.sl 0 0 x1.length))), (1, .one (.e (.sl 1 0 x2.length))), (21, B true)], [.row .nod x1 false, .row .nod x2 false]⟩ (by kernel_rfl) trivial ?_
      cases hv103
      exact WO_nil rfl ⟨rfl, rfl⟩
    · refine WO_step 1 [0, 1] [0, 1, 10, 11] True ⟨[(0, .one (.e (.sl 0 0 x1.length))), (1, .one (.e (.sl 1 0 x2.length))), (10, B false), (11, .one (.e (.sl 1 0 x2.length)))], [.row .nod x1 false, .row .nod x2 false]⟩ (by kernel_rfl) trivial ?_
      refine bindO_e hv103 (fun b105 hc106 hv103 => ?_)
      refine WO_call [.ro 1] Try.f13 rfl rfl rfl (by kernel_rfl) rfl rfl (by kernel_rfl) (impl_ValidTree_ok n x2 b105 hc106) (And.intro (And.intro rfl rfl) (trivial)) rfl ?_
      refine WO_step 3 [0, 1] [0, 1, 15] True ⟨[(0, .one (.e (.sl 0 0 x1.length))), (1, .one (.e (.sl 1 0 x2.length))), (15, B (!b105))], [.row .nod x1 false, .row .nod x2 false]⟩ (by kernel_rfl) trivial ?_
      refine iteO_e hv103 (fun hb107 hv103 => WO_known 15 true rfl hb107 ?_) (fun hb107 hv103 => WO_known 15 false rfl hb107 ?_)
      · refine WO_step 6 [0, 1] [0, 1, 21] True ⟨[(0, .one (.e (.sl 0 0 x1.length))), (1, .one (.e (.sl 1 0 x2.length))), (21, B true)], [.row .nod x1 false, .row .nod x2 false]⟩ (by kernel_rfl) trivial ?_
        cases hv103
        exact WO_nil rfl ⟨rfl, rfl⟩
      · refine WO_step 6 [0, 1] [0, 1, 21] (True ∧ (True ∧ (True ∧ True))) ⟨[(0, .one (.e (.sl 0 0 x1.length))), (1, .one (.e (.sl 1 0 x2.length))), (21, B (!decide (((x1.length : Nat) : Int) = ((x2.length : Nat) : Int))))], [.row .nod x1 false, .row .nod x2 false]⟩ (by kernel_rfl) ⟨trivial, trivial, trivial, trivial⟩ ?_
        cases hv103
        exact WO_nil rfl ⟨rfl, rfl⟩
  · refine thenS_n ?_
    refine iteO_e h (fun hb109 h => W_true rfl hb109 ?_) (fun hb109 h => W_false rfl hb109 ?_)
    · refine W_seq ?_
      refine W_region ?_
      refine WO_step 1 [0, 1] [4] True ⟨[(4, B false)], [.row .nod x1 false, .row .nod x2 false]⟩ (by kernel_rfl) trivial ?_
      refine WO_nil rfl ?_
      refine thenS_n ?_
      refine W_ret ?_
      refine thenS_r ?_
      cases h
      exact ⟨[0, 1], True, by kernel_rfl, trivial⟩
    · refine W_sub [0, 1] [0, 1] (st' := ⟨[(0, .one (.e (.sl 0 0 x1.length))), (1, .one (.e (.sl 1 0 x2.length)))], [.row .nod x1 false, .row .nod x2 false]⟩) (by kernel_rfl) ?_
      refine W_skip ?_
      refine thenS_n ?_
      refine W_seq ?_
      refine W_seq ?_
      refine W_region ?_
      refine WO_step 3 [0, 1] [0, 1, 23, 24] (True ∧ True) ⟨[(0, .one (.e (.sl 0 0 x1.length))), (1, .one (.e (.sl 1 0 x2.length))), (23, I ((x1.length : Nat) : Int)), (24, I 0)], [.row .nod x1 false, .row .nod x2 false]⟩ (by kernel_rfl) ⟨trivial, trivial⟩ ?_
      refine WO_nil rfl ?_
      refine thenS_n ?_
      refine W_block ?_
      refine W_loop ?_
      refine bindO_e h (fun v188 hv188 h => ?_)
      refine WL_cut (impl_SameTree_L1_ok w X θ x1 x2 v188 n 0 hv188) ?_
      rcases v188 with _ | _
      · rintro _ _ ⟨rfl, rfl⟩
        refine blockS_r ?_
        refine thenS_r ?_
        cases h
        exact ⟨[0, 1], True, by kernel_rfl, trivial⟩
      · rintro _ _ ⟨rfl, rfl⟩
        refine blockS_y ?_
        refine thenS_n ?_
        refine W_seq ?_
        refine W_region ?_
        refine WO_step 1 [0, 1] [4] True ⟨[(4, B true)], [.row .nod x1 false, .row .nod x2 false]⟩ (by kernel_rfl) trivial ?_
        refine WO_nil rfl ?_
        refine thenS_n ?_
        refine W_ret ?_
        cases h
        exact ⟨[0, 1], True, by kernel_rfl, trivial⟩

/- laws.eqNode -/
def laws_eqNode (x1 : Nod) (x2 : Nod) : Option (Bool) :=
 iteO (!decide (x1.parent = x2.parent))
 (some false)
 (iteO (!decide (x1.name = x2.name))
 (some false)
 (iteO (!decide (x1.value = x2.value))
 (some false)
 (some true)))

theorem laws_eqNode_ok (x1 : Nod) (x2 : Nod) (b9 : Bool) (h : laws_eqNode x1 x2 = some b9) : FOk EE 20 [AGG [cI x1.parent, cS x1.name, cI x1.value], AGG [cI x2.parent, cS x2.name, cI x2.value]] [] (B b9) [] := by
  unfold laws_eqNode at h
  refine FOk_of_W 20 0 Try.func20 rfl rfl (Nat.le_of_ble_eq_true rfl) rfl (fun w X θ => ?_)
  refine W_seq ?_
  refine W_region ?_
  refine WO_step 3 [0, 1] [2, 3] (True ∧ (True ∧ True)) ⟨[(2, .one (.e (.p 0 0))), (3, .one (.e (.p 1 0)))], [.cells [cI x1.parent, cS x1.name, cI x1.value], .cells [cI x2.parent, cS x2.name, cI x2.value]]⟩ (by kernel_rfl) ⟨trivial, trivial, trivial⟩ ?_
  refine WO_nil rfl ?_
  refine thenS_n ?_
  refine W_seq ?_
  refine W_seq ?_
  refine W_region ?_
  refine WO_step 5 [0, 1] [2, 3, 9] (True ∧ (True ∧ (True ∧ True))) ⟨[(2, .one (.e (.p 0 0))), (3, .one (.e (.p 1 0))), (9, B (!decide (x1.parent = x2.parent)))], [.cells [cI x1.parent, cS x1.name, cI x1.value], .cells [cI x2.parent, cS x2.name, cI x2.value]]⟩ (by kernel_rfl) ⟨trivial, trivial, trivial, trivial⟩ ?_
  refine WO_nil rfl ?_
  refine thenS_n ?_
  refine iteO_e h (fun hb11 h => W_true rfl hb11 ?_) (fun hb11 h => W_false rfl hb11 ?_)
  · refine W_seq ?_
    refine W_region ?_
    refine WO_step 1 [] [4] True ⟨[(4, B false)], []⟩ (by kernel_rfl) trivial ?_
    refine WO_nil rfl ?_
    refine thenS_n ?_
    refine W_ret ?_
    refine thenS_r ?_
    cases h
    exact ⟨[], True, by kernel_rfl, trivial⟩
  · refine W_sub [0, 1] [2, 3] (st' := ⟨[(2, .one (.e (.p 0 0))), (3, .one (.e (.p 1 0)))], [.cells [cI x1.parent, cS x1.name, cI x1.value], .cells [cI x2.parent, cS x2.name, cI x2.value]]⟩) (by kernel_rfl) ?_
    refine W_skip ?_
    refine thenS_n ?_
    refine W_seq ?_
    refine W_seq ?_
    refine W_region ?_
    refine WO_step 5 [0, 1] [2, 3, 14] (True ∧ (True ∧ (True ∧ True))) ⟨[(2, .one (.e (.p 0 0))), (3, .one (.e (.p 1 0))), (14, B (!decide (x1.name = x2.name)))], [.cells [cI x1.parent, cS x1.name, cI x1.value], .cells [cI x2.parent, cS x2.name, cI x2.value]]⟩ (by kernel_rfl) ⟨trivial, trivial, trivial, trivial⟩ ?_
    refine WO_nil rfl ?_
    refine thenS_n ?_
    refine iteO_e h (fun hb13 h => W_true rfl hb13 ?_) (fun hb13 h => W_false rfl hb13 ?_)
    · refine W_seq ?_
      refine W_region ?_
      refine WO_step 1 [] [4] True ⟨[(4, B false)], []⟩ (by kernel_rfl) trivial ?_
      refine WO_nil rfl ?_
      refine thenS_n ?_
      refine W_ret ?_
      refine thenS_r ?_
      cases h
      exact ⟨[], True, by kernel_rfl, trivial⟩
    · refine W_sub [0, 1] [2, 3] (st' := ⟨[(2, .one (.e (.p 0 0))), (3, .one (.e (.p 1 0)))], [.cells [cI x1.parent, cS x1.name, cI x1.value], .cells [cI x2.parent, cS x2.name, cI x2.value]]⟩) (by kernel_rfl) ?_
      refine W_skip ?_
      refine thenS_n ?_
      refine W_seq ?_
      refine W_seq ?_
      refine W_region ?_
      refine WO_step 5 [] [19] (True ∧ (True ∧ (True ∧ True))) ⟨[(19, B (!decide (x1.value = x2.value)))], []⟩ (by kernel_rfl) ⟨trivial, trivial, trivial, trivial⟩ ?_
      refine WO_nil rfl ?_
      refine thenS_n ?_
      refine iteO_e h (fun hb15 h => W_true rfl hb15 ?_) (fun hb15 h => W_false rfl hb15 ?_)
      · refine W_seq ?_
        refine W_region ?_
        refine WO_step 1 [] [4] True ⟨[(4, B false)], []⟩ (by kernel_rfl) trivial ?_
        refine WO_nil rfl ?_
        refine thenS_n ?_
        refine W_ret ?_
        refine thenS_r ?_
        cases h
        exact ⟨[], True, by kernel_rfl, trivial⟩
      · refine W_sub [] [] (st' := ⟨[], []⟩) (by kernel_rfl) ?_
        refine W_skip ?_
        refine thenS_n ?_
        refine W_seq ?_
        refine W_region ?_
        refine WO_step 1 [] [4] True ⟨[(4, B true)], []⟩ (by kernel_rfl) trivial ?_
        refine WO_nil rfl ?_
        refine thenS_n ?_
        refine W_ret ?_
        cases h
        exact ⟨[], True, by kernel_rfl, trivial⟩

/- laws.eqNodeS -/
def laws_eqNodeS_L1 (x1 : List Nod) (x2 : List Nod) : Nat → Int → Option ((Unit) ⊕ (Unit))
| 0, _ => none
| n + 1, i73 =>
 iteO (decide (i73 < ((x1.length : Nat) : Int)))
 (guardO (0 ≤ i73 ∧ i73 < ((x1.length : Nat) : Int)) <|
 guardO (0 ≤ i73 ∧ i73 < ((x2.length : Nat) : Int)) <|
 bindO (laws_eqNode (x1.getD i73.toNat dnod) (x2.getD i73.toNat dnod)) fun b100 =>
 iteO (!b100)
 (some (.inl ()))
 (laws_eqNodeS_L1 x1 x2 n (w64 (i73 + 1))))
 (some (.inr ()))

theorem laws_eqNodeS_L1_ok (w : World) (X : Nat → Prop) (θ : List Loc) (x1 : List Nod) (x2 : List Nod) (v : (Unit) ⊕ (Unit)) : ∀ (n : Nat) (i73 : Int), laws_eqNodeS_L1 x1 x2 n i73 = some v → WL EE ⟨w, X, θ, 27, 2⟩ (subC [1, 1, 0, 1, 4, 4] (bodyC Try.f11)) (fun (e : Exit) (s : St) => (match v with | (.inl _) => e = .ret ∧ s = ⟨[(4, B false)], [.row .nod x1 false, .row .nod x2 false]⟩ | (.inr _) => e = .exit 0 ∧ s = ⟨[], [.row .nod x1 false, .row .nod x2 false]⟩ : Prop)) ⟨[(0, .one (.e (.sl 0 0 x1.length))), (1, .one (.e (.sl 1 0 x2.length))), (5, I i73)], [.row .nod x1 false, .row .nod x2 false]⟩ := by
  intro n
  induction n with
  | zero => intro _ h; exact none_e h
  | succ n ih =>
    intro i73 h
    rw [laws_eqNodeS_L1] at h
    refine WL_round ?_
    refine W_seq ?_
    refine W_seq ?_
    refine W_region ?_
    refine WO_step 4 [0, 1] [0, 1, 5, 14] (True ∧ (True ∧ True)) ⟨[(0, .one (.e (.sl 0 0 x1.length))), (1, .one (.e (.sl 1 0 x2.length))), (5, I i73), (14, B (decide (i73 < ((x1.length : Nat) : Int))))], [.row .nod x1 false, .row .nod x2 false]⟩ (by kernel_rfl) ⟨trivial, trivial, trivial⟩ ?_
    refine WO_nil rfl ?_
    refine thenS_n ?_
    refine iteO_e h (fun hb91 h => W_true rfl hb91 ?_) (fun hb91 h => W_false rfl hb91 ?_)
    · refine W_sub [0, 1] [0, 1, 5] (st' := ⟨[(0, .one (.e (.sl 0 0 x1.length))), (1, .one (.e (.sl 1 0 x2.length))), (5, I i73)], [.row .nod x1 false, .row .nod x2 false]⟩) (by kernel_rfl) ?_
      refine W_skip ?_
      refine thenS_n ?_
      refine W_seq ?_
      refine W_block ?_
      refine W_seq ?_
      refine guardO_e h (fun hg98 h => ?_)
      refine guardO_e h (fun hg99 h => ?_)
      refine bindO_e h (fun b100 hc101 h => ?_)
      refine W_cut (Q' := fun (e : Exit) (s : St) => e = .normal ∧ s = ⟨[(0, .one (.e (.sl 0 0 x1.length))), (1, .one (.e (.sl 1 0 x2.length))), (5, I i73), (26, B (!b100))], [.row .nod x1 false, .row .nod x2 false]⟩) ?_ ?_
      · refine W_draw [] false (by kernel_rfl) (by kernel_rfl) ?_
        refine WD_takeK [0, 1, 2, 3, 4, 5, 6, 7] [0, 1, 5, 20, 24] [0, 1, 5, 20, 24] (φ := ((0 ≤ i73 ∧ i73 < ((x1.length : Nat) : Int)) ∧ (0 ≤ i73 ∧ i73 < ((x1.length : Nat) : Int)) ∧ (True ∧ True ∧ ((0 ≤ i73 ∧ i73 < ((x2.length : Nat) : Int)) ∧ (0 ≤ i73 ∧ i73 < ((x2.length : Nat) : Int)) ∧ (True ∧ True ∧ True))))) (ls' := #[true, true, true, true, true, true, true, true, false, false]) (Ts' := [(0, .one (.e (.sl 0 0 x1.length))), (1, .one (.e (.sl 1 0 x2.length))), (5, I i73), (20, AGG [cI ((x1.getD i73.toNat dnod).parent), cS ((x1.getD i73.toNat dnod).name), cI ((x1.getD i73.toNat dnod).value)]), (24, AGG [cI ((x2.getD i73.toNat dnod).parent), cS ((x2.getD i73.toNat dnod).name), cI ((x2.getD i73.toNat dnod).value)])]) (st' := ⟨[(0, .one (.e (.sl 0 0 x1.length))), (1, .one (.e (.sl 1 0 x2.length))), (5, I i73), (20, AGG [cI ((x1.getD i73.toNat dnod).parent), cS ((x1.getD i73.toNat dnod).name), cI ((x1.getD i73.toNat dnod).value)]), (24, AGG [cI ((x2.getD i73.toNat dnod).parent), cS ((x2.getD i73.toNat dnod).name), cI ((x2.getD i73.toNat dnod).value)])], [.row .nod x1 false, .row .nod x2 false]⟩) (n2 := 2) (by kernel_rfl) ⟨hg98, hg98, trivial, trivial, hg99, hg99, trivial, trivial, trivial⟩ rfl ?_
        refine WD_all [8] (n := 1) (by kernel_rfl) rfl ?_
        refine WM_call [] Try.f20 rfl rfl (by kernel_rfl) rfl rfl (by kernel_rfl) (laws_eqNode_ok (x1.getD i73.toNat dnod) (x2.getD i73.toNat dnod) b100 hc101) (trivial) rfl (And.intro rfl (And.intro rfl (trivial))) ?_
        refine WD_takeK [9] [0, 1, 5, 26] [0, 1, 5, 26] (φ := True) (ls' := #[true, true, true, true, true, true, true, true, true, true]) (Ts' := [(0, .one (.e (.sl 0 0 x1.length))), (1, .one (.e (.sl 1 0 x2.length))), (5, I i73), (26, B (!b100))]) (st' := ⟨[(0, .one (.e (.sl 0 0 x1.length))), (1, .one (.e (.sl 1 0 x2.length))), (5, I i73), (26, B (!b100))], [.row .nod x1 false, .row .nod x2 false]⟩) (n2 := 0) (by kernel_rfl) trivial rfl ?_
        exact WD_done [0, 1] [0, 1, 5, 26] (st' := ⟨[(0, .one (.e (.sl 0 0 x1.length))), (1, .one (.e (.sl 1 0 x2.length))), (5, I i73), (26, B (!b100))], [.row .nod x1 false, .row .nod x2 false]⟩) (by kernel_rfl) (by kernel_rfl) (And.intro rfl rfl)
      · rintro _ _ ⟨rfl, rfl⟩
        refine thenS_n ?_
        refine iteO_e h (fun hb103 h => W_true rfl hb103 ?_) (fun hb103 h => W_false rfl hb103 ?_)
        · refine W_seq ?_
          refine W_region ?_
          refine WO_step 1 [0, 1] [4] True ⟨[(4, B false)], [.row .nod x1 false, .row .nod x2 false]⟩ (by kernel_rfl) trivial ?_
          refine WO_nil rfl ?_
          refine thenS_n ?_
          refine W_ret ?_
          refine blockS_r ?_
          refine thenS_r ?_
          refine thenS_r ?_
          cases h
          exact And.intro rfl rfl
        · refine W_sub [0, 1] [0, 1, 5] (st' := ⟨[(0, .one (.e (.sl 0 0 x1.length))), (1, .one (.e (.sl 1 0 x2.length))), (5, I i73)], [.row .nod x1 false, .row .nod x2 false]⟩) (by kernel_rfl) ?_
          refine W_skip ?_
          refine blockS_n ?_
          refine thenS_n ?_
          refine W_region ?_
          refine WO_step 3 [0, 1] [0, 1, 5] (True ∧ True) ⟨[(0, .one (.e (.sl 0 0 x1.length))), (1, .one (.e (.sl 1 0 x2.length))), (5, I (w64 (i73 + 1)))], [.row .nod x1 false, .row .nod x2 false]⟩ (by kernel_rfl) ⟨trivial, trivial⟩ ?_
          refine WO_nil rfl ?_
          refine thenS_n ?_
          exact ih _ h
    · refine W_sub [0, 1] [] (st' := ⟨[], [.row .nod x1 false, .row .nod x2 false]⟩) (by kernel_rfl) ?_
      refine W_exit ?_
      refine thenS_e ?_
      refine thenS_e ?_
      cases h
      exact And.intro rfl rfl

def laws_eqNodeS (n : Nat) (x1 : List Nod) (x2 : List Nod) : Option (Bool) :=
 iteO (!decide (((x1.length : Nat) : Int) = ((x2.length : Nat) : Int)))
 (some false)
 (bindO (laws_eqNodeS_L1 x1 x2 n 0) fun v104 =>
 match v104 with
 | (.inl _) => (some false)
 | (.inr _) => (some true)
)

theorem laws_eqNodeS_ok (n : Nat) (x1 : List Nod) (x2 : List Nod) (b53 : Bool) (h : laws_eqNodeS n x1 x2 = some b53) : FOk EE 11 [.one (.e (.sl 0 0 x1.length)), .one (.e (.sl 1 0 x2.length))] [.row .nod x1 false, .row .nod x2 false] (B b53) [.row .nod x1 false, .row .nod x2 false] := by
  unfold laws_eqNodeS at h
  refine FOk_of_W 27 2 Try.func11 rfl rfl (Nat.le_of_ble_eq_true rfl) rfl (fun w X θ => ?_)
  refine W_seq ?_
  refine W_region ?_
  refine WO_step 1 [0, 1] [0, 1] True ⟨[(0, .one (.e (.sl 0 0 x1.length))), (1, .one (.e (.sl 1 0 x2.length)))], [.row .nod x1 false, .row .nod x2 false]⟩ (by kernel_rfl) trivial ?_
  refine WO_nil rfl ?_
  refine thenS_n ?_
  refine W_seq ?_
  refine W_seq ?_
  refine W_region ?_
  refine WO_step 5 [0, 1] [0, 1, 10] (True ∧ (True ∧ (True ∧ True))) ⟨[(0, .one (.e (.sl 0 0 x1.length))), (1, .one (.e (.sl 1 0 x2.length))), (10, B (!decide (((x1.length : Nat) : Int) = ((x2.length : Nat) : Int))))], [.row .nod x1 false, .row .nod x2 false]⟩ (by kernel_rfl) ⟨trivial, trivial, trivial, trivial⟩ ?_
  refine WO_nil rfl ?_
  refine thenS_n ?_
  refine iteO_e h (fun hb55 h => W_true rfl hb55 ?_) (fun hb55 h => W_false rfl hb55 ?_)
  · refine W_seq ?_
    refine W_region ?_
    refine WO_step 1 [0, 1] [4] True ⟨[(4, B false)], [.row .nod x1 false, .row .nod x2 false]⟩ (by kernel_rfl) trivial ?_
    refine WO_nil rfl ?_
    refine thenS_n ?_
    refine W_ret ?_
    refine thenS_r ?_
    cases h
    exact ⟨[0, 1], True, by kernel_rfl, trivial⟩
  · refine W_sub [0, 1] [0, 1] (st' := ⟨[(0, .one (.e (.sl 0 0 x1.length))), (1, .one (.e (.sl 1 0 x2.length)))], [.row .nod x1 false, .row .nod x2 false]⟩) (by kernel_rfl) ?_
    refine W_skip ?_
    refine thenS_n ?_
    refine W_seq ?_
    refine W_seq ?_
    refine W_region ?_
    refine WO_step 1 [0, 1] [0, 1, 5] True ⟨[(0, .one (.e (.sl 0 0 x1.length))), (1, .one (.e (.sl 1 0 x2.length))), (5, I 0)], [.row .nod x1 false, .row .nod x2 false]⟩ (by kernel_rfl) trivial ?_
    refine WO_nil rfl ?_
    refine thenS_n ?_
    refine W_block ?_
    refine W_loop ?_
    refine bindO_e h (fun v104 hv104 h => ?_)
    refine WL_cut (laws_eqNodeS_L1_ok w X θ x1 x2 v104 n 0 hv104) ?_
    rcases v104 with _ | _
    · rintro _ _ ⟨rfl, rfl⟩
      refine blockS_r ?_
      refine thenS_r ?_
      cases h
      exact ⟨[0, 1], True, by kernel_rfl, trivial⟩
    · rintro _ _ ⟨rfl, rfl⟩
      refine blockS_y ?_
      refine thenS_n ?_
      refine W_seq ?_
      refine W_region ?_
      refine WO_step 1 [0, 1] [4] True ⟨[(4, B true)], [.row .nod x1 false, .row .nod x2 false]⟩ (by kernel_rfl) trivial ?_
      refine WO_nil rfl ?_
      refine thenS_n ?_
      refine W_ret ?_
      cases h
      exact ⟨[0, 1], True, by kernel_rfl, trivial⟩

/- laws.FnExactSameTree -/
def laws_FnExactSameTree (n : Nat) (x1 : List Nod) (x2 : List Nod) : Option (Bool) :=
 bindO (laws_szNodeS n x1 1048576) fun i38 =>
 iteO (decide (i38 < 0))
 (some true)
 (bindO (laws_szNodeS n x2 i38) fun i42 =>
 iteO (decide (i42 < 0))
 (some true)
 (bindO (laws_toNodeS n x1) fun x46 =>
 bindO (laws_toNodeS n x2) fun x48 =>
 bindO (spec_SameTree n x46 x48) fun b50 =>
 bindO (laws_toNodeS n x1) fun x52 =>
 bindO (laws_toNodeS n x2) fun x54 =>
 bindO (impl_SameTree n x52 x54) fun b56 =>
 iteO (!(b56 == b50))
 (some false)
 (bindO (laws_toNodeS n x1) fun x60 =>
 bindO (laws_eqNodeS n x52 x60) fun b62 =>
 iteO (!b62)
 (some false)
 (bindO (laws_toNodeS n x2) fun x66 =>
 bindO (laws_eqNodeS n x54 x66) fun b68 =>
 iteO (!b68)
 (some false)
 (some true)))))

theorem laws_FnExactSameTree_ok (n : Nat) (x1 : List Nod) (x2 : List Nod) (b37 : Bool) (h : laws_FnExactSameTree n x1 x2 = some b37) : FOk EE 3 [.one (.e (.sl 0 0 x1.length)), .one (.e (.sl 1 0 x2.length))] [.row .nod x1 false, .row .nod x2 false] (B b37) [.row .nod x1 false, .row .nod x2 false] := by
  unfold laws_FnExactSameTree at h
  refine FOk_of_W 45 2 Try.func3 rfl rfl (Nat.le_of_ble_eq_true rfl) rfl (fun w X θ => ?_)
  refine W_seq ?_
  refine W_region ?_
  refine WO_step 1 [0, 1] [0, 1] True ⟨[(0, .one (.e (.sl 0 0 x1.length))), (1, .one (.e (.sl 1 0 x2.length)))], [.row .nod x1 false, .row .nod x2 false]⟩ (by kernel_rfl) trivial ?_
  refine WO_nil rfl ?_
  refine thenS_n ?_
  refine W_seq ?_
  refine W_region ?_
  refine WO_step 1 [0, 1] [0, 1, 5] True ⟨[(0, .one (.e (.sl 0 0 x1.length))), (1, .one (.e (.sl 1 0 x2.length))), (5, I 1048576)], [.row .nod x1 false, .row .nod x2 false]⟩ (by kernel_rfl) trivial ?_
  refine WO_nil rfl ?_
  refine thenS_n ?_
  refine W_seq ?_
  refine W_region ?_
  refine WO_step 2 [0, 1] [0, 1, 10, 11] True ⟨[(0, .one (.e (.sl 0 0 x1.length))), (1, .one (.e (.sl 1 0 x2.length))), (10, .one (.e (.sl 0 0 x1.length))), (11, I 1048576)], [.row .nod x1 false, .row .nod x2 false]⟩ (by kernel_rfl) trivial ?_
  refine bindO_e h (fun i38 hc39 h => ?_)
  refine WO_call [.ro 0] Try.f7 rfl rfl rfl (by kernel_rfl) rfl rfl (by kernel_rfl) (laws_szNodeS_ok n x1 1048576 i38 hc39) (And.intro (And.intro rfl rfl) (trivial)) rfl ?_
  refine WO_step 1 [0, 1] [0, 1, 5] True ⟨[(0, .one (.e (.sl 0 0 x1.length))), (1, .one (.e (.sl 1 0 x2.length))), (5, I i38)], [.row .nod x1 false, .row .nod x2 false]⟩ (by kernel_rfl) trivial ?_
  refine WO_nil rfl ?_
  refine thenS_n ?_
  refine W_seq ?_
  refine W_seq ?_
  refine W_region ?_
  refine WO_step 2 [0, 1] [0, 1, 5, 14] (True ∧ True) ⟨[(0, .one (.e (.sl 0 0 x1.length))), (1, .one (.e (.sl 1 0 x2.length))), (5, I i38), (14, B (decide (i38 < 0)))], [.row .nod x1 false, .row .nod x2 false]⟩ (by kernel_rfl) ⟨trivial, trivial⟩ ?_
  refine WO_nil rfl ?_
  refine thenS_n ?_
  refine iteO_e h (fun hb41 h => W_true rfl hb41 ?_) (fun hb41 h => W_false rfl hb41 ?_)
  · refine W_seq ?_
    refine W_region ?_
    refine WO_step 1 [0, 1] [4] True ⟨[(4, B true)], [.row .nod x1 false, .row .nod x2 false]⟩ (by kernel_rfl) trivial ?_
    refine WO_nil rfl ?_
    refine thenS_n ?_
    refine W_ret ?_
    refine thenS_r ?_
    cases h
    exact ⟨[0, 1], True, by kernel_rfl, trivial⟩
  · refine W_sub [0, 1] [0, 1, 5] (st' := ⟨[(0, .one (.e (.sl 0 0 x1.length))), (1, .one (.e (.sl 1 0 x2.length))), (5, I i38)], [.row .nod x1 false, .row .nod x2 false]⟩) (by kernel_rfl) ?_
    refine W_skip ?_
    refine thenS_n ?_
    refine W_seq ?_
    refine W_region ?_
    refine WO_step 2 [0, 1] [0, 1, 15, 16] True ⟨[(0, .one (.e (.sl 0 0 x1.length))), (1, .one (.e (.sl 1 0 x2.length))), (15, .one (.e (.sl 1 0 x2.length))), (16, I i38)], [.row .nod x1 false, .row .nod x2 false]⟩ (by kernel_rfl) trivial ?_
    refine bindO_e h (fun i42 hc43 h => ?_)
    refine WO_call [.ro 1] Try.f7 rfl rfl rfl (by kernel_rfl) rfl rfl (by kernel_rfl) (laws_szNodeS_ok n x2 i38 i42 hc43) (And.intro (And.intro rfl rfl) (trivial)) rfl ?_
    refine WO_step 1 [0, 1] [0, 1, 5] True ⟨[(0, .one (.e (.sl 0 0 x1.length))), (1, .one (.e (.sl 1 0 x2.length))), (5, I i42)], [.row .nod x1 false, .row .nod x2 false]⟩ (by kernel_rfl) trivial ?_
    refine WO_nil rfl ?_
    refine thenS_n ?_
    refine W_seq ?_
    refine W_seq ?_
    refine W_region ?_
    refine WO_step 2 [0, 1] [0, 1, 19] (True ∧ True) ⟨[(0, .one (.e (.sl 0 0 x1.length))), (1, .one (.e (.sl 1 0 x2.length))), (19, B (decide (i42 < 0)))], [.row .nod x1 false, .row .nod x2 false]⟩ (by kernel_rfl) ⟨trivial, trivial⟩ ?_
    refine WO_nil rfl ?_
    refine thenS_n ?_
    refine iteO_e h (fun hb45 h => W_true rfl hb45 ?_) (fun hb45 h => W_false rfl hb45 ?_)
    · refine W_seq ?_
      refine W_region ?_
      refine WO_step 1 [0, 1] [4] True ⟨[(4, B true)], [.row .nod x1 false, .row .nod x2 false]⟩ (by kernel_rfl) trivial ?_
      refine WO_nil rfl ?_
      refine thenS_n ?_
      refine W_ret ?_
      refine thenS_r ?_
      cases h
      exact ⟨[0, 1], True, by kernel_rfl, trivial⟩
    · refine W_sub [0, 1] [0, 1] (st' := ⟨[(0, .one (.e (.sl 0 0 x1.length))), (1, .one (.e (.sl 1 0 x2.length)))], [.row .nod x1 false, .row .nod x2 false]⟩) (by kernel_rfl) ?_
      refine W_skip ?_
      refine thenS_n ?_
      refine W_seq ?_
      refine W_region ?_
      refine WO_step 1 [0, 1] [0, 1, 20] True ⟨[(0, .one (.e (.sl 0 0 x1.length))), (1, .one (.e (.sl 1 0 x2.length))), (20, .one (.e (.sl 0 0 x1.length)))], [.row .nod x1 false, .row .nod x2 false]⟩ (by kernel_rfl) trivial ?_
      refine bindO_e h (fun x46 hc47 h => ?_)
      refine WO_call [.ro 0] Try.f9 rfl rfl rfl (by kernel_rfl) rfl rfl (by kernel_rfl) (laws_toNodeS_ok n x1 x46 hc47) (And.intro (And.intro rfl rfl) (trivial)) rfl ?_
      refine WO_step 1 [0, 1, 2] [0, 1, 21, 22] True ⟨[(0, .one (.e (.sl 0 0 x1.length))), (1, .one (.e (.sl 1 0 x2.length))), (21, .one (.e (.sl 2 0 x46.length))), (22, .one (.e (.sl 1 0 x2.length)))], [.row .nod x1 false, .row .nod x2 false, .row .nod x46 true]⟩ (by kernel_rfl) trivial ?_
      refine bindO_e h (fun x48 hc49 h => ?_)
      refine WO_call [.ro 1] Try.f9 rfl rfl rfl (by kernel_rfl) rfl rfl (by kernel_rfl) (laws_toNodeS_ok n x2 x48 hc49) (And.intro (And.intro rfl rfl) (trivial)) rfl ?_
      refine WO_sub [0, 1, 2, 3] [0, 1, 21, 23] (st' := ⟨[(0, .one (.e (.sl 0 0 x1.length))), (1, .one (.e (.sl 1 0 x2.length))), (21, .one (.e (.sl 2 0 x46.length))), (23, .one (.e (.sl 3 0 x48.length)))], [.row .nod x1 false, .row .nod x2 false, .row .nod x46 true, .row .nod x48 true]⟩) (by kernel_rfl) ?_
      refine bindO_e h (fun b50 hc51 h => ?_)
      refine WO_call [.ro 2, .ro 3] Try.f8 rfl rfl rfl (by kernel_rfl) rfl rfl (by kernel_rfl) (spec_SameTree_ok n x46 x48 b50 hc51) (And.intro (And.intro rfl rfl) (And.intro (And.intro rfl rfl) (trivial))) rfl ?_
      refine WO_step 1 [0, 1] [0, 1, 6] True ⟨[(0, .one (.e (.sl 0 0 x1.length))), (1, .one (.e (.sl 1 0 x2.length))), (6, B b50)], [.row .nod x1 false, .row .nod x2 false]⟩ (by kernel_rfl) trivial ?_
      refine WO_nil rfl ?_
      refine thenS_n ?_
      refine W_seq ?_
      refine W_region ?_
      refine WO_step 1 [0, 1] [0, 1, 6, 25] True ⟨[(0, .one (.e (.sl 0 0 x1.length))), (1, .one (.e (.sl 1 0 x2.length))), (6, B b50), (25, .one (.e (.sl 0 0 x1.length)))], [.row .nod x1 false, .row .nod x2 false]⟩ (by kernel_rfl) trivial ?_
      refine bindO_e h (fun x52 hc53 h => ?_)
      refine WO_call [.ro 0] Try.f9 rfl rfl rfl (by kernel_rfl) rfl rfl (by kernel_rfl) (laws_toNodeS_ok n x1 x52 hc53) (And.intro (And.intro rfl rfl) (trivial)) rfl ?_
      refine WO_step 1 [0, 1, 2] [0, 1, 6, 7] True ⟨[(0, .one (.e (.sl 0 0 x1.length))), (1, .one (.e (.sl 1 0 x2.length))), (6, B b50), (7, .one (.e (.sl 2 0 x52.length)))], [.row .nod x1 false, .row .nod x2 false, .row .nod x52 true]⟩ (by kernel_rfl) trivial ?_
      refine WO_nil rfl ?_
      refine thenS_n ?_
      refine W_seq ?_
      refine W_region ?_
      refine WO_step 1 [0, 1, 2] [0, 1, 6, 7, 27] True ⟨[(0, .one (.e (.sl 0 0 x1.length))), (1, .one (.e (.sl 1 0 x2.length))), (6, B b50), (7, .one (.e (.sl 2 0 x52.length))), (27, .one (.e (.sl 1 0 x2.length)))], [.row .nod x1 false, .row .nod x2 false, .row .nod x52 true]⟩ (by kernel_rfl) trivial ?_
      refine bindO_e h (fun x54 hc55 h => ?_)
      refine WO_call [.ro 1] Try.f9 rfl rfl rfl (by kernel_rfl) rfl rfl (by kernel_rfl) (laws_toNodeS_ok n x2 x54 hc55) (And.intro (And.intro rfl rfl) (trivial)) rfl ?_
      refine WO_step 1 [0, 1, 2, 3] [0, 1, 6, 7, 8] True ⟨[(0, .one (.e (.sl 0 0 x1.length))), (1, .one (.e (.sl 1 0 x2.length))), (6, B b50), (7, .one (.e (.sl 2 0 x52.length))), (8, .one (.e (.sl 3 0 x54.length)))], [.row .nod x1 false, .row .nod x2 false, .row .nod x52 true, .row .nod x54 true]⟩ (by kernel_rfl) trivial ?_
      refine WO_nil rfl ?_
      refine thenS_n ?_
      refine W_seq ?_
      refine W_region ?_
      refine WO_step 2 [0, 1, 2, 3] [0, 1, 6, 7, 8, 29, 30] True ⟨[(0, .one (.e (.sl 0 0 x1.length))), (1, .one (.e (.sl 1 0 x2.length))), (6, B b50), (7, .one (.e (.sl 2 0 x52.length))), (8, .one (.e (.sl 3 0 x54.length))), (29, .one (.e (.sl 2 0 x52.length))), (30, .one (.e (.sl 3 0 x54.length)))], [.row .nod x1 false, .row .nod x2 false, .row .nod x52 true, .row .nod x54 true]⟩ (by kernel_rfl) trivial ?_
      refine bindO_e h (fun b56 hc57 h => ?_)
      refine WO_call [.ro 2, .ro 3] Try.f10 rfl rfl rfl (by kernel_rfl) rfl rfl (by kernel_rfl) (impl_SameTree_ok n x52 x54 b56 hc57) (And.intro (And.intro rfl rfl) (And.intro (And.intro rfl rfl) (trivial))) rfl ?_
      refine WO_step 1 [0, 1, 2, 3] [0, 1, 6, 7, 8, 9] True ⟨[(0, .one (.e (.sl 0 0 x1.length))), (1, .one (.e (.sl 1 0 x2.length))), (6, B b50), (7, .one (.e (.sl 2 0 x52.length))), (8, .one (.e (.sl 3 0 x54.length))), (9, B b56)], [.row .nod x1 false, .row .nod x2 false, .row .nod x52 true, .row .nod x54 true]⟩ (by kernel_rfl) trivial ?_
      refine WO_nil rfl ?_
      refine thenS_n ?_
      refine W_seq ?_
      refine W_seq ?_
      refine W_region ?_
      refine WO_step 3 [0, 1, 2, 3] [0, 1, 7, 8, 34] (True ∧ True) ⟨[(0, .one (.e (.sl 0 0 x1.length))), (1, .one (.e (.sl 1 0 x2.length))), (7, .one (.e (.sl 2 0 x52.length))), (8, .one (.e (.sl 3 0 x54.length))), (34, B (!(b56 == b50)))], [.row .nod x1 false, .row .nod x2 false, .row .nod x52 true, .row .nod x54 true]⟩ (by kernel_rfl) ⟨trivial, trivial⟩ ?_
      refine WO_nil rfl ?_
      refine thenS_n ?_
      refine iteO_e h (fun hb59 h => W_true rfl hb59 ?_) (fun hb59 h => W_false rfl hb59 ?_)
      · refine W_seq ?_
        refine W_region ?_
        refine WO_step 1 [0, 1] [4] True ⟨[(4, B false)], [.row .nod x1 false, .row .nod x2 false]⟩ (by kernel_rfl) trivial ?_
        refine WO_nil rfl ?_
        refine thenS_n ?_
        refine W_ret ?_
        refine thenS_r ?_
        cases h
        exact ⟨[0, 1], True, by kernel_rfl, trivial⟩
      · refine W_sub [0, 1, 2, 3] [0, 1, 7, 8] (st' := ⟨[(0, .one (.e (.sl 0 0 x1.length))), (1, .one (.e (.sl 1 0 x2.length))), (7, .one (.e (.sl 2 0 x52.length))), (8, .one (.e (.sl 3 0 x54.length)))], [.row .nod x1 false, .row .nod x2 false, .row .nod x52 true, .row .nod x54 true]⟩) (by kernel_rfl) ?_
        refine W_skip ?_
        refine thenS_n ?_
        refine W_seq ?_
        refine W_seq ?_
        refine W_region ?_
        refine WO_step 2 [0, 1, 3, 2] [1, 8, 35, 36] True ⟨[(1, .one (.e (.sl 1 0 x2.length))), (8, .one (.e (.sl 2 0 x54.length))), (35, .one (.e (.sl 3 0 x52.length))), (36, .one (.e (.sl 0 0 x1.length)))], [.row .nod x1 false, .row .nod x2 false, .row .nod x54 true, .row .nod x52 true]⟩ (by kernel_rfl) trivial ?_
        refine bindO_e h (fun x60 hc61 h => ?_)
        refine WO_call [.ro 0] Try.f9 rfl rfl rfl (by kernel_rfl) rfl rfl (by kernel_rfl) (laws_toNodeS_ok n x1 x60 hc61) (And.intro (And.intro rfl rfl) (trivial)) rfl ?_
        refine WO_sub [0, 1, 2, 3, 4] [1, 8, 35, 37] (st' := ⟨[(1, .one (.e (.sl 1 0 x2.length))), (8, .one (.e (.sl 2 0 x54.length))), (35, .one (.e (.sl 3 0 x52.length))), (37, .one (.e (.sl 4 0 x60.length)))], [.row .nod x1 false, .row .nod x2 false, .row .nod x54 true, .row .nod x52 true, .row .nod x60 true]⟩) (by kernel_rfl) ?_
        refine bindO_e h (fun b62 hc63 h => ?_)
        refine WO_call [.ro 3, .ro 4] Try.f11 rfl rfl rfl (by kernel_rfl) rfl rfl (by kernel_rfl) (laws_eqNodeS_ok n x52 x60 b62 hc63) (And.intro (And.intro rfl rfl) (And.intro (And.intro rfl rfl) (trivial))) rfl ?_
        refine WO_step 1 [0, 1, 2] [1, 8, 39] True ⟨[(1, .one (.e (.sl 1 0 x2.length))), (8, .one (.e (.sl 2 0 x54.length))), (39, B (!b62))], [.row .nod x1 false, .row .nod x2 false, .row .nod x54 true]⟩ (by kernel_rfl) trivial ?_
        refine WO_nil rfl ?_
        refine thenS_n ?_
        refine iteO_e h (fun hb65 h => W_true rfl hb65 ?_) (fun hb65 h => W_false rfl hb65 ?_)
        · refine W_seq ?_
          refine W_region ?_
          refine WO_step 1 [0, 1] [4] True ⟨[(4, B false)], [.row .nod x1 false, .row .nod x2 false]⟩ (by kernel_rfl) trivial ?_
          refine WO_nil rfl ?_
          refine thenS_n ?_
          refine W_ret ?_
          refine thenS_r ?_
          cases h
          exact ⟨[0, 1], True, by kernel_rfl, trivial⟩
        · refine W_sub [0, 1, 2] [1, 8] (st' := ⟨[(1, .one (.e (.sl 1 0 x2.length))), (8, .one (.e (.sl 2 0 x54.length)))], [.row .nod x1 false, .row .nod x2 false, .row .nod x54 true]⟩) (by kernel_rfl) ?_
          refine W_skip ?_
          refine thenS_n ?_
          refine W_seq ?_
          refine W_seq ?_
          refine W_region ?_
          refine WO_step 2 [0, 1, 2] [40, 41] True ⟨[(40, .one (.e (.sl 2 0 x54.length))), (41, .one (.e (.sl 1 0 x2.length)))], [.row .nod x1 false, .row .nod x2 false, .row .nod x54 true]⟩ (by kernel_rfl) trivial ?_
          refine bindO_e h (fun x66 hc67 h => ?_)
          refine WO_call [.ro 1] Try.f9 rfl rfl rfl (by kernel_rfl) rfl rfl (by kernel_rfl) (laws_toNodeS_ok n x2 x66 hc67) (And.intro (And.intro rfl rfl) (trivial)) rfl ?_
          refine WO_sub [0, 1, 2, 3] [40, 42] (st' := ⟨[(40, .one (.e (.sl 2 0 x54.length))), (42, .one (.e (.sl 3 0 x66.length)))], [.row .nod x1 false, .row .nod x2 false, .row .nod x54 true, .row .nod x66 true]⟩) (by kernel_rfl) ?_
          refine bindO_e h (fun b68 hc69 h => ?_)
          refine WO_call [.ro 2, .ro 3] Try.f11 rfl rfl rfl (by kernel_rfl) rfl rfl (by kernel_rfl) (laws_eqNodeS_ok n x54 x66 b68 hc69) (And.intro (And.intro rfl rfl) (And.intro (And.intro rfl rfl) (trivial))) rfl ?_
          refine WO_step 1 [0, 1] [44] True ⟨[(44, B (!b68))], [.row .nod x1 false, .row .nod x2 false]⟩ (by kernel_rfl) trivial ?_
          refine WO_nil rfl ?_
          refine thenS_n ?_
          refine iteO_e h (fun hb71 h => W_true rfl hb71 ?_) (fun hb71 h => W_false rfl hb71 ?_)
          · refine W_seq ?_
            refine W_region ?_
            refine WO_step 1 [0, 1] [4] True ⟨[(4, B false)], [.row .nod x1 false, .row .nod x2 false]⟩ (by kernel_rfl) trivial ?_
            refine WO_nil rfl ?_
            refine thenS_n ?_
            refine W_ret ?_
            refine thenS_r ?_
            cases h
            exact ⟨[0, 1], True, by kernel_rfl, trivial⟩
          · refine W_sub [0, 1] [] (st' := ⟨[], [.row .nod x1 false, .row .nod x2 false]⟩) (by kernel_rfl) ?_
            refine W_skip ?_
            refine thenS_n ?_
            refine W_seq ?_
            refine W_region ?_
            refine WO_step 1 [0, 1] [4] True ⟨[(4, B true)], [.row .nod x1 false, .row .nod x2 false]⟩ (by kernel_rfl) trivial ?_
            refine WO_nil rfl ?_
            refine thenS_n ?_
            refine W_ret ?_
            cases h
            exact ⟨[0, 1], True, by kernel_rfl, trivial⟩

/- spec.resolve -/
def spec_resolve_L1 (x1 : List Nod) (s2 : Str) : Nat → Int → Option ((Int) ⊕ (Unit))
| 0, _ => none
| n + 1, i56 =>
 iteO (decide (i56 < ((x1.length : Nat) : Int)))
 (bindO (spec_pathText n x1 i56) fun s76 =>
 iteO (decide (s76 = s2))
 (some (.inl i56))
 (spec_resolve_L1 x1 s2 n (w64 (i56 + 1))))
 (some (.inr ()))

theorem spec_resolve_L1_ok (w : World) (X : Nat → Prop) (θ : List Loc) (x1 : List Nod) (s2 : Str) (v : (Int) ⊕ (Unit)) : ∀ (n : Nat) (i56 : Int), spec_resolve_L1 x1 s2 n i56 = some v → WL EE ⟨w, X, θ, 18, 1⟩ (subC [1, 0, 1, 4, 4] (bodyC Try.f43)) (fun (e : Exit) (s : St) => (match v with | (.inl i68) => e = .ret ∧ s = ⟨[(4, I i68)], [.row .nod x1 false]⟩ | (.inr _) => e = .exit 0 ∧ s = ⟨[], [.row .nod x1 false]⟩ : Prop)) ⟨[(0, .one (.e (.sl 0 0 x1.length))), (1, S s2), (5, I i56)], [.row .nod x1 false]⟩ := by
  intro n
  induction n with
  | zero => intro _ h; exact none_e h
  | succ n ih =>
    intro i56 h
    rw [spec_resolve_L1] at h
    refine WL_round ?_
    refine W_seq ?_
    refine W_seq ?_
    refine W_region ?_
    refine WO_step 4 [0] [0, 1, 5, 9] (True ∧ (True ∧ True)) ⟨[(0, .one (.e (.sl 0 0 x1.length))), (1, S s2), (5, I i56), (9, B (decide (i56 < ((x1.length : Nat) : Int))))], [.row .nod x1 false]⟩ (by kernel_rfl) ⟨trivial, trivial, trivial⟩ ?_
    refine WO_nil rfl ?_
    refine thenS_n ?_
    refine iteO_e h (fun hb71 h => W_true rfl hb71 ?_) (fun hb71 h => W_false rfl hb71 ?_)
    · refine W_sub [0] [0, 1, 5] (st' := ⟨[(0, .one (.e (.sl 0 0 x1.length))), (1, S s2), (5, I i56)], [.row .nod x1 false]⟩) (by kernel_rfl) ?_
      refine W_skip ?_
      refine thenS_n ?_
      refine W_seq ?_
      refine W_block ?_
      refine W_seq ?_
      refine W_region ?_
      refine WO_step 2 [0] [0, 1, 5, 12, 13] True ⟨[(0, .one (.e (.sl 0 0 x1.length))), (1, S s2), (5, I i56), (12, .one (.e (.sl 0 0 x1.length))), (13, I i56)], [.row .nod x1 false]⟩ (by kernel_rfl) trivial ?_
      refine bindO_e h (fun s76 hc77 h => ?_)
      refine WO_call [.ro 0] Try.f38 rfl rfl rfl (by kernel_rfl) rfl rfl (by kernel_rfl) (spec_pathText_ok n x1 i56 s76 hc77) (And.intro (And.intro rfl rfl) (trivial)) rfl ?_
      refine WO_step 2 [0] [0, 1, 5, 16] (True ∧ True) ⟨[(0, .one (.e (.sl 0 0 x1.length))), (1, S s2), (5, I i56), (16, B (decide (s76 = s2)))], [.row .nod x1 false]⟩ (by kernel_rfl) ⟨trivial, trivial⟩ ?_
      refine WO_nil rfl ?_
      refine thenS_n ?_
      refine iteO_e h (fun hb79 h => W_true rfl hb79 ?_) (fun hb79 h => W_false rfl hb79 ?_)
      · refine W_seq ?_
        refine W_region ?_
        refine WO_step 2 [0] [4] True ⟨[(4, I i56)], [.row .nod x1 false]⟩ (by kernel_rfl) trivial ?_
        refine WO_nil rfl ?_
        refine thenS_n ?_
        refine W_ret ?_
        refine blockS_r ?_
        refine thenS_r ?_
        refine thenS_r ?_
        cases h
        exact And.intro rfl rfl
      · refine W_sub [0] [0, 1, 5] (st' := ⟨[(0, .one (.e (.sl 0 0 x1.length))), (1, S s2), (5, I i56)], [.row .nod x1 false]⟩) (by kernel_rfl) ?_
        refine W_skip ?_
        refine blockS_n ?_
        refine thenS_n ?_
        refine W_region ?_
        refine WO_step 3 [0] [0, 1, 5] (True ∧ True) ⟨[(0, .one (.e (.sl 0 0 x1.length))), (1, S s2), (5, I (w64 (i56 + 1)))], [.row .nod x1 false]⟩ (by kernel_rfl) ⟨trivial, trivial⟩ ?_
        refine WO_nil rfl ?_
        refine thenS_n ?_
        exact ih _ h
    · refine W_sub [0] [] (st' := ⟨[], [.row .nod x1 false]⟩) (by kernel_rfl) ?_
      refine W_exit ?_
      refine thenS_e ?_
      refine thenS_e ?_
      cases h
      exact And.intro rfl rfl

def spec_resolve (n : Nat) (x1 : List Nod) (s2 : Str) : Option (Int) :=
 bindO (spec_resolve_L1 x1 s2 n 0) fun v80 =>
 match v80 with
 | (.inl i68) => (some i68)
 | (.inr _) => (some (-1))


theorem spec_resolve_ok (n : Nat) (x1 : List Nod) (s2 : Str) (i41 : Int) (h : spec_resolve n x1 s2 = some i41) : FOk EE 43 [.one (.e (.sl 0 0 x1.length)), S s2] [.row .nod x1 false] (I i41) [.row .nod x1 false] := by
  unfold spec_resolve at h
  refine FOk_of_W 18 1 Try.func43 rfl rfl (Nat.le_of_ble_eq_true rfl) rfl (fun w X θ => ?_)
  refine W_seq ?_
  refine W_region ?_
  refine WO_step 1 [0] [0, 1] True ⟨[(0, .one (.e (.sl 0 0 x1.length))), (1, S s2)], [.row .nod x1 false]⟩ (by kernel_rfl) trivial ?_
  refine WO_nil rfl ?_
  refine thenS_n ?_
  refine W_seq ?_
  refine W_seq ?_
  refine W_region ?_
  refine WO_step 1 [0] [0, 1, 5] True ⟨[(0, .one (.e (.sl 0 0 x1.length))), (1, S s2), (5, I 0)], [.row .nod x1 false]⟩ (by kernel_rfl) trivial ?_
  refine WO_nil rfl ?_
  refine thenS_n ?_
  refine W_block ?_
  refine W_loop ?_
  refine bindO_e h (fun v80 hv80 h => ?_)
  refine WL_cut (spec_resolve_L1_ok w X θ x1 s2 v80 n 0 hv80) ?_
  rcases v80 with i68 | _
  · rintro _ _ ⟨rfl, rfl⟩
    refine blockS_r ?_
    refine thenS_r ?_
    cases h
    exact ⟨[0], True, by kernel_rfl, trivial⟩
  · rintro _ _ ⟨rfl, rfl⟩
    refine blockS_y ?_
    refine thenS_n ?_
    refine W_seq ?_
    refine W_region ?_
    refine WO_step 1 [0] [4] True ⟨[(4, I (-1))], [.row .nod x1 false]⟩ (by kernel_rfl) trivial ?_
    refine WO_nil rfl ?_
    refine thenS_n ?_
    refine W_ret ?_
    cases h
    exact ⟨[0], True, by kernel_rfl, trivial⟩

end Go.Proofs.Ytiboohplkihhnaa
