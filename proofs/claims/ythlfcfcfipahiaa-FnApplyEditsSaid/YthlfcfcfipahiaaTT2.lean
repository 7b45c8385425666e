import Derived.Test.YthlfcfcfipahiaaTT1
namespace Go.Proofs.Ythlfcfcfipahiaa
open Go Go.Shelf Go.Proofs
set_option linter.unusedVariables false
/- impl.ValidTree -/
def impl_ValidTree_L1 (x1 : List Nod) : Nat → (List Int) → Int → Option ((Unit) ⊕ (Unit))
| 0, _, _ => none
| n + 1, x164, i165 =>
 iteO (decide (i165 < ((x1.length : Nat) : Int)))
 (bindO (guardO (0 ≤ i165 ∧ i165 < ((x1.length : Nat) : Int)) <|
 iteO (!(impl_within ((x1.getD i165.toNat dnod).value) (-1000) 1000))
 (some (.inl ()))
 (iteO (decide (i165 = 0))
 (some (.inr x164))
 (bindO (iteO (!(impl_within ((x1.getD i165.toNat dnod).parent) 0 (w64 (i165 - 1))))
 (some true)
 (bindO (impl_isName n ((x1.getD i165.toNat dnod).name)) fun b238 =>
 some (!b238))) fun b235 =>
 iteO b235
 (some (.inl ()))
 (guardO (0 ≤ i165 ∧ i165 ≤ ((x1.length : Nat) : Int)) <|
 bindO (impl_kidIn n ((x1.drop 0).take i165.toNat) ((x1.getD i165.toNat dnod).parent) ((x1.getD i165.toNat dnod).name)) fun i243 =>
 iteO (decide (0 ≤ i243))
 (some (.inl ()))
 (guardO (0 ≤ (x1.getD i165.toNat dnod).parent ∧ (x1.getD i165.toNat dnod).parent < ((x164.length : Nat) : Int)) <|
 guardO (0 ≤ i165 ∧ i165 < ((x164.length : Nat) : Int)) <|
 guardO (0 ≤ i165 ∧ i165 < (((x164.set i165.toNat (w64 ((x164.getD (((x1.getD i165.toNat dnod).parent).toNat) 0) + 1))).length : Nat) : Int)) <|
 iteO (decide (4 < ((x164.set i165.toNat (w64 ((x164.getD (((x1.getD i165.toNat dnod).parent).toNat) 0) + 1))).getD i165.toNat 0)))
 (some (.inl ()))
 (some (.inr (x164.set i165.toNat (w64 ((x164.getD (((x1.getD i165.toNat dnod).parent).toNat) 0) + 1))))))))) : Option ((Unit) ⊕ ((List Int)))) fun v226 =>
 match v226 with
 | (.inl _) => (some (.inl ()))
 | (.inr x225) => (impl_ValidTree_L1 x1 n x225 (w64 (i165 + 1)))
)
 (some (.inr ()))

theorem impl_ValidTree_L1_ok (w : World) (X : Nat → Prop) (θ : List Loc) (x1 : List Nod) (v : (Unit) ⊕ (Unit)) : ∀ (n : Nat) (x164 : List Int) (i165 : Int), impl_ValidTree_L1 x1 n x164 i165 = some v → WL EE ⟨w, X, θ, 78, 1⟩ (subC [1, 1, 1, 1, 0, 1, 4, 4] (bodyC Try.f13)) (fun (e : Exit) (s : St) => (match v with | (.inl _) => e = .ret ∧ s = ⟨[(2, B false)], [.row .nod x1 false]⟩ | (.inr _) => e = .exit 0 ∧ s = ⟨[], [.row .nod x1 false]⟩ : Prop)) ⟨[(0, .one (.e (.sl 0 0 x1.length))), (3, .one (.e (.sl 1 0 x164.length))), (29, .one (.e (.sl 0 0 x1.length))), (30, I ((x1.length : Nat) : Int)), (31, I i165)], [.row .nod x1 false, .row .int x164 true]⟩ := by
  intro n
  induction n with
  | zero => intro _ _ h; exact none_e h
  | succ n ih =>
    intro x164 i165 h
    rw [impl_ValidTree_L1] at h
    refine WL_round ?_
    refine W_seq ?_
    refine W_region ?_
    refine WO_step 1 [0, 1] [0, 3, 29, 30, 31, 32] (True ∧ True) ⟨[(0, .one (.e (.sl 0 0 x1.length))), (3, .one (.e (.sl 1 0 x164.length))), (29, .one (.e (.sl 0 0 x1.length))), (30, I ((x1.length : Nat) : Int)), (31, I i165), (32, B (decide (i165 < ((x1.length : Nat) : Int))))], [.row .nod x1 false, .row .int x164 true]⟩ (by kernel_rfl) ⟨trivial, trivial⟩ ?_
    refine WO_nil rfl ?_
    refine thenS_n ?_
    refine W_seq ?_
    refine iteO_e h (fun hb199 h => W_true rfl hb199 ?_) (fun hb199 h => W_false rfl hb199 ?_)
    · refine W_sub [0, 1] [0, 3, 29, 30, 31] (st' := ⟨[(0, .one (.e (.sl 0 0 x1.length))), (3, .one (.e (.sl 1 0 x164.length))), (29, .one (.e (.sl 0 0 x1.length))), (30, I ((x1.length : Nat) : Int)), (31, I i165)], [.row .nod x1 false, .row .int x164 true]⟩) (by kernel_rfl) ?_
      refine W_skip ?_
      refine thenS_n ?_
      refine W_seq ?_
      refine bindO_e h (fun v226 hv226 h => ?_)
      refine W_cut (Q' := fun (e : Exit) (s : St) => (match v226 with | (.inl _) => e = .ret ∧ s = ⟨[(2, B false)], [.row .nod x1 false]⟩ | (.inr x225) => e = .normal ∧ s = ⟨[(0, .one (.e (.sl 0 0 x1.length))), (3, .one (.e (.sl 1 0 x225.length))), (29, .one (.e (.sl 0 0 x1.length))), (30, I ((x1.length : Nat) : Int)), (31, I i165)], [.row .nod x1 false, .row .int x225 true]⟩ : Prop)) ?_ ?_
      · refine W_block ?_
        refine W_seq ?_
        refine W_region ?_
        refine guardO_e hv226 (fun hg227 hv226 => ?_)
        refine WO_step 6 [0, 1, 2] [0, 3, 4, 5, 29, 30, 31] ((0 ≤ i165 ∧ i165 < ((x1.length : Nat) : Int)) ∧ (True ∧ (True ∧ (True ∧ True)))) ⟨[(0, .one (.e (.sl 0 0 x1.length))), (3, .one (.e (.sl 1 0 x164.length))), (4, I i165), (5, .one (.e (.p 2 0))), (29, .one (.e (.sl 0 0 x1.length))), (30, I ((x1.length : Nat) : Int)), (31, I i165)], [.row .nod x1 false, .row .int x164 true, .cells [cI ((x1.getD i165.toNat dnod).parent), cS ((x1.getD i165.toNat dnod).name), cI ((x1.getD i165.toNat dnod).value)]]⟩ (by kernel_rfl) ⟨hg227, trivial, trivial, trivial, trivial⟩ ?_
        refine WO_nil rfl ?_
        refine thenS_n ?_
        refine W_seq ?_
        refine W_seq ?_
        refine W_region ?_
        refine WO_step 2 [0, 1, 2] [0, 3, 4, 5, 29, 30, 31, 37] (True ∧ True) ⟨[(0, .one (.e (.sl 0 0 x1.length))), (3, .one (.e (.sl 1 0 x164.length))), (4, I i165), (5, .one (.e (.p 2 0))), (29, .one (.e (.sl 0 0 x1.length))), (30, I ((x1.length : Nat) : Int)), (31, I i165), (37, I ((x1.getD i165.toNat dnod).value))], [.row .nod x1 false, .row .int x164 true, .cells [cI ((x1.getD i165.toNat dnod).parent), cS ((x1.getD i165.toNat dnod).name), cI ((x1.getD i165.toNat dnod).value)]]⟩ (by kernel_rfl) ⟨trivial, trivial⟩ ?_
        refine WO_call [] Try.f39 rfl rfl rfl (by kernel_rfl) Try.func39 rfl (by kernel_rfl) (impl_within_ok ((x1.getD i165.toNat dnod).value) (-1000) 1000) (trivial) rfl ?_
        refine WO_step 1 [0, 1, 2] [0, 3, 4, 5, 29, 30, 31, 39] True ⟨[(0, .one (.e (.sl 0 0 x1.length))), (3, .one (.e (.sl 1 0 x164.length))), (4, I i165), (5, .one (.e (.p 2 0))), (29, .one (.e (.sl 0 0 x1.length))), (30, I ((x1.length : Nat) : Int)), (31, I i165), (39, B (!(impl_within ((x1.getD i165.toNat dnod).value) (-1000) 1000)))], [.row .nod x1 false, .row .int x164 true, .cells [cI ((x1.getD i165.toNat dnod).parent), cS ((x1.getD i165.toNat dnod).name), cI ((x1.getD i165.toNat dnod).value)]]⟩ (by kernel_rfl) trivial ?_
        refine WO_nil rfl ?_
        refine thenS_n ?_
        refine iteO_e hv226 (fun hb229 hv226 => W_true rfl hb229 ?_) (fun hb229 hv226 => W_false rfl hb229 ?_)
        · refine W_seq ?_
          refine W_region ?_
          refine WO_step 1 [0] [2] True ⟨[(2, B false)], [.row .nod x1 false]⟩ (by kernel_rfl) trivial ?_
          refine WO_nil rfl ?_
          refine thenS_n ?_
          refine W_ret ?_
          refine thenS_r ?_
          refine blockS_r ?_
          cases hv226
          exact And.intro rfl rfl
        · refine W_sub [0, 1, 2] [0, 3, 4, 5, 29, 30, 31] (st' := ⟨[(0, .one (.e (.sl 0 0 x1.length))), (3, .one (.e (.sl 1 0 x164.length))), (4, I i165), (5, .one (.e (.p 2 0))), (29, .one (.e (.sl 0 0 x1.length))), (30, I ((x1.length : Nat) : Int)), (31, I i165)], [.row .nod x1 false, .row .int x164 true, .cells [cI ((x1.getD i165.toNat dnod).parent), cS ((x1.getD i165.toNat dnod).name), cI ((x1.getD i165.toNat dnod).value)]]⟩) (by kernel_rfl) ?_
          refine W_skip ?_
          refine thenS_n ?_
          refine W_seq ?_
          refine W_seq ?_
          refine W_region ?_
          refine WO_step 2 [0, 1, 2] [0, 3, 4, 5, 29, 30, 31, 41] (True ∧ True) ⟨[(0, .one (.e (.sl 0 0 x1.length))), (3, .one (.e (.sl 1 0 x164.length))), (4, I i165), (5, .one (.e (.p 2 0))), (29, .one (.e (.sl 0 0 x1.length))), (30, I ((x1.length : Nat) : Int)), (31, I i165), (41, B (decide (i165 = 0)))], [.row .nod x1 false, .row .int x164 true, .cells [cI ((x1.getD i165.toNat dnod).parent), cS ((x1.getD i165.toNat dnod).name), cI ((x1.getD i165.toNat dnod).value)]]⟩ (by kernel_rfl) ⟨trivial, trivial⟩ ?_
          refine WO_nil rfl ?_
          refine thenS_n ?_
          refine iteO_e hv226 (fun hb231 hv226 => W_true rfl hb231 ?_) (fun hb231 hv226 => W_false rfl hb231 ?_)
          · refine W_sub [0, 1] [0, 3, 29, 30, 31] (st' := ⟨[(0, .one (.e (.sl 0 0 x1.length))), (3, .one (.e (.sl 1 0 x164.length))), (29, .one (.e (.sl 0 0 x1.length))), (30, I ((x1.length : Nat) : Int)), (31, I i165)], [.row .nod x1 false, .row .int x164 true]⟩) (by kernel_rfl) ?_
            refine W_exit ?_
            refine thenS_e ?_
            refine blockS_y ?_
            cases hv226
            exact And.intro rfl rfl
          · refine W_sub [0, 1, 2] [0, 3, 4, 5, 29, 30, 31] (st' := ⟨[(0, .one (.e (.sl 0 0 x1.length))), (3, .one (.e (.sl 1 0 x164.length))), (4, I i165), (5, .one (.e (.p 2 0))), (29, .one (.e (.sl 0 0 x1.length))), (30, I ((x1.length : Nat) : Int)), (31, I i165)], [.row .nod x1 false, .row .int x164 true, .cells [cI ((x1.getD i165.toNat dnod).parent), cS ((x1.getD i165.toNat dnod).name), cI ((x1.getD i165.toNat dnod).value)]]⟩) (by kernel_rfl) ?_
            refine W_skip ?_
            refine thenS_n ?_
            refine W_seq ?_
            refine W_seq ?_
            refine W_region ?_
            refine WO_step 4 [0, 1, 2] [0, 3, 4, 5, 29, 30, 31, 43, 45] (True ∧ (True ∧ True)) ⟨[(0, .one (.e (.sl 0 0 x1.length))), (3, .one (.e (.sl 1 0 x164.length))), (4, I i165), (5, .one (.e (.p 2 0))), (29, .one (.e (.sl 0 0 x1.length))), (30, I ((x1.length : Nat) : Int)), (31, I i165), (43, I ((x1.getD i165.toNat dnod).parent)), (45, I (w64 (i165 - 1)))], [.row .nod x1 false, .row .int x164 true, .cells [cI ((x1.getD i165.toNat dnod).parent), cS ((x1.getD i165.toNat dnod).name), cI ((x1.getD i165.toNat dnod).value)]]⟩ (by kernel_rfl) ⟨trivial, trivial, trivial⟩ ?_
            refine WO_call [] Try.f39 rfl rfl rfl (by kernel_rfl) Try.func39 rfl (by kernel_rfl) (impl_within_ok ((x1.getD i165.toNat dnod).parent) 0 (w64 (i165 - 1))) (trivial) rfl ?_
            refine WO_step 2 [0, 1, 2] [0, 3, 4, 5, 29, 30, 31, 48] True ⟨[(0, .one (.e (.sl 0 0 x1.length))), (3, .one (.e (.sl 1 0 x164.length))), (4, I i165), (5, .one (.e (.p 2 0))), (29, .one (.e (.sl 0 0 x1.length))), (30, I ((x1.length : Nat) : Int)), (31, I i165), (48, B (!(impl_within ((x1.getD i165.toNat dnod).parent) 0 (w64 (i165 - 1)))))], [.row .nod x1 false, .row .int x164 true, .cells [cI ((x1.getD i165.toNat dnod).parent), cS ((x1.getD i165.toNat dnod).name), cI ((x1.getD i165.toNat dnod).value)]]⟩ (by kernel_rfl) trivial ?_
            refine bindO_e hv226 (fun b235 hv236 hv226 => ?_)
            refine WO_thru ⟨[(0, .one (.e (.sl 0 0 x1.length))), (3, .one (.e (.sl 1 0 x164.length))), (4, I i165), (5, .one (.e (.p 2 0))), (29, .one (.e (.sl 0 0 x1.length))), (30, I ((x1.length : Nat) : Int)), (31, I i165), (53, B b235)], [.row .nod x1 false, .row .int x164 true, .cells [cI ((x1.getD i165.toNat dnod).parent), cS ((x1.getD i165.toNat dnod).name), cI ((x1.getD i165.toNat dnod).value)]]⟩ ?_ ?_
            · refine iteO_e hv236 (fun hb237 hv236 => WO_known 48 true rfl hb237 ?_) (fun hb237 hv236 => WO_known 48 false rfl hb237 ?_)
              · refine WO_step 5 [0, 1, 2] [0, 3, 4, 5, 29, 30, 31, 53] True ⟨[(0, .one (.e (.sl 0 0 x1.length))), (3, .one (.e (.sl 1 0 x164.length))), (4, I i165), (5, .one (.e (.p 2 0))), (29, .one (.e (.sl 0 0 x1.length))), (30, I ((x1.length : Nat) : Int)), (31, I i165), (53, B true)], [.row .nod x1 false, .row .int x164 true, .cells [cI ((x1.getD i165.toNat dnod).parent), cS ((x1.getD i165.toNat dnod).name), cI ((x1.getD i165.toNat dnod).value)]]⟩ (by kernel_rfl) trivial ?_
                cases hv236
                exact WO_nil rfl ⟨rfl, rfl⟩
              · refine WO_step 2 [0, 1, 2] [0, 3, 4, 5, 29, 30, 31, 48, 50] (True ∧ True) ⟨[(0, .one (.e (.sl 0 0 x1.length))), (3, .one (.e (.sl 1 0 x164.length))), (4, I i165), (5, .one (.e (.p 2 0))), (29, .one (.e (.sl 0 0 x1.length))), (30, I ((x1.length : Nat) : Int)), (31, I i165), (48, B false), (50, S ((x1.getD i165.toNat dnod).name))], [.row .nod x1 false, .row .int x164 true, .cells [cI ((x1.getD i165.toNat dnod).parent), cS ((x1.getD i165.toNat dnod).name), cI ((x1.getD i165.toNat dnod).value)]]⟩ (by kernel_rfl) ⟨trivial, trivial⟩ ?_
                refine bindO_e hv236 (fun b238 hc239 hv236 => ?_)
                refine WO_call [] Try.f40 rfl rfl rfl (by kernel_rfl) Try.func40 rfl (by kernel_rfl) (impl_isName_ok n ((x1.getD i165.toNat dnod).name) b238 hc239) (trivial) rfl ?_
                refine WO_step 2 [0, 1, 2] [0, 3, 4, 5, 29, 30, 31, 53] True ⟨[(0, .one (.e (.sl 0 0 x1.length))), (3, .one (.e (.sl 1 0 x164.length))), (4, I i165), (5, .one (.e (.p 2 0))), (29, .one (.e (.sl 0 0 x1.length))), (30, I ((x1.length : Nat) : Int)), (31, I i165), (53, B (!b238))], [.row .nod x1 false, .row .int x164 true, .cells [cI ((x1.getD i165.toNat dnod).parent), cS ((x1.getD i165.toNat dnod).name), cI ((x1.getD i165.toNat dnod).value)]]⟩ (by kernel_rfl) trivial ?_
                cases hv236
                exact WO_nil rfl ⟨rfl, rfl⟩
            · refine thenS_n ?_
              refine iteO_e hv226 (fun hb241 hv226 => W_true rfl hb241 ?_) (fun hb241 hv226 => W_false rfl hb241 ?_)
              · refine W_seq ?_
                refine W_region ?_
                refine WO_step 1 [0] [2] True ⟨[(2, B false)], [.row .nod x1 false]⟩ (by kernel_rfl) trivial ?_
                refine WO_nil rfl ?_
                refine thenS_n ?_
                refine W_ret ?_
                refine thenS_r ?_
                refine blockS_r ?_
                cases hv226
                exact And.intro rfl rfl
              · refine W_sub [0, 1, 2] [0, 3, 4, 5, 29, 30, 31] (st' := ⟨[(0, .one (.e (.sl 0 0 x1.length))), (3, .one (.e (.sl 1 0 x164.length))), (4, I i165), (5, .one (.e (.p 2 0))), (29, .one (.e (.sl 0 0 x1.length))), (30, I ((x1.length : Nat) : Int)), (31, I i165)], [.row .nod x1 false, .row .int x164 true, .cells [cI ((x1.getD i165.toNat dnod).parent), cS ((x1.getD i165.toNat dnod).name), cI ((x1.getD i165.toNat dnod).value)]]⟩) (by kernel_rfl) ?_
                refine W_skip ?_
                refine thenS_n ?_
                refine W_seq ?_
                refine W_seq ?_
                refine guardO_e hv226 (fun hg242 hv226 => ?_)
                refine bindO_e hv226 (fun i243 hc244 hv226 => ?_)
                refine W_cut (Q' := fun (e : Exit) (s : St) => e = .normal ∧ s = ⟨[(0, .one (.e (.sl 0 0 x1.length))), (3, .one (.e (.sl 1 0 x164.length))), (4, I i165), (5, .one (.e (.p 2 0))), (29, .one (.e (.sl 0 0 x1.length))), (30, I ((x1.length : Nat) : Int)), (31, I i165), (62, B (decide (0 ≤ i243)))], [.row .nod x1 false, .row .int x164 true, .cells [cI ((x1.getD i165.toNat dnod).parent), cS ((x1.getD i165.toNat dnod).name), cI ((x1.getD i165.toNat dnod).value)]]⟩) ?_ ?_
                · refine W_draw [] false (by kernel_rfl) (by kernel_rfl) ?_
                  refine WD_takeK [0, 1, 3, 4, 5, 6] [0, 3, 4, 5, 29, 30, 31, 54, 55, 58, 60] [0, 3, 4, 5, 29, 30, 31, 54, 55, 58, 60] (φ := (True ∧ True ∧ (True ∧ True ∧ True))) (ls' := #[true, true, false, true, true, true, true, false, false]) (Ts' := [(0, .one (.e (.sl 0 0 x1.length))), (3, .one (.e (.sl 1 0 x164.length))), (4, I i165), (5, .one (.e (.p 2 0))), (29, .one (.e (.sl 0 0 x1.length))), (30, I ((x1.length : Nat) : Int)), (31, I i165), (54, .one (.e (.sl 0 0 x1.length))), (55, I i165), (58, I ((x1.getD i165.toNat dnod).parent)), (60, S ((x1.getD i165.toNat dnod).name))]) (st' := ⟨[(0, .one (.e (.sl 0 0 x1.length))), (3, .one (.e (.sl 1 0 x164.length))), (4, I i165), (5, .one (.e (.p 2 0))), (29, .one (.e (.sl 0 0 x1.length))), (30, I ((x1.length : Nat) : Int)), (31, I i165), (54, .one (.e (.sl 0 0 x1.length))), (55, I i165), (58, I ((x1.getD i165.toNat dnod).parent)), (60, S ((x1.getD i165.toNat dnod).name))], [.row .nod x1 false, .row .int x164 true, .cells [cI ((x1.getD i165.toNat dnod).parent), cS ((x1.getD i165.toNat dnod).name), cI ((x1.getD i165.toNat dnod).value)]]⟩) (n2 := 3) (by kernel_rfl) ⟨trivial, trivial, trivial, trivial, trivial⟩ rfl ?_
                  refine WD_all [2] (n := 2) (by kernel_rfl) rfl ?_
                  refine WM_op (φ := 0 ≤ i165 ∧ i165 ≤ ((x1.length : Nat) : Int)) (v := .one (.e (.sl 0 0 i165.toNat))) (H' := [.row .nod x1 false, .row .int x164 true, .cells [cI ((x1.getD i165.toNat dnod).parent), cS ((x1.getD i165.toNat dnod).name), cI ((x1.getD i165.toNat dnod).value)]]) rfl rfl (by kernel_rfl) hg242 rfl (And.intro rfl (And.intro rfl (And.intro (And.intro rfl rfl) (trivial)))) ?_
                  refine WD_all [7] (n := 1) (by kernel_rfl) rfl ?_
                  refine WM_call [.view 0] Try.f41 rfl rfl (by kernel_rfl) Try.func41 rfl (by kernel_rfl) (impl_kidIn_ok n ((x1.drop 0).take i165.toNat) ((x1.getD i165.toNat dnod).parent) ((x1.getD i165.toNat dnod).name) i243 hc244) (trivial) rfl (And.intro rfl (And.intro rfl (And.intro (And.intro rfl rfl) (trivial)))) ?_
                  refine WD_takeK [8] [0, 3, 4, 5, 29, 30, 31, 62] [0, 3, 4, 5, 29, 30, 31, 62] (φ := (True ∧ True ∧ True)) (ls' := #[true, true, true, true, true, true, true, true, true]) (Ts' := [(0, .one (.e (.sl 0 0 x1.length))), (3, .one (.e (.sl 1 0 x164.length))), (4, I i165), (5, .one (.e (.p 2 0))), (29, .one (.e (.sl 0 0 x1.length))), (30, I ((x1.length : Nat) : Int)), (31, I i165), (62, B (decide (0 ≤ i243)))]) (st' := ⟨[(0, .one (.e (.sl 0 0 x1.length))), (3, .one (.e (.sl 1 0 x164.length))), (4, I i165), (5, .one (.e (.p 2 0))), (29, .one (.e (.sl 0 0 x1.length))), (30, I ((x1.length : Nat) : Int)), (31, I i165), (62, B (decide (0 ≤ i243)))], [.row .nod x1 false, .row .int x164 true, .cells [cI ((x1.getD i165.toNat dnod).parent), cS ((x1.getD i165.toNat dnod).name), cI ((x1.getD i165.toNat dnod).value)]]⟩) (n2 := 0) (by kernel_rfl) ⟨trivial, trivial, trivial⟩ rfl ?_
                  exact WD_done [0, 1, 2] [0, 3, 4, 5, 29, 30, 31, 62] (st' := ⟨[(0, .one (.e (.sl 0 0 x1.length))), (3, .one (.e (.sl 1 0 x164.length))), (4, I i165), (5, .one (.e (.p 2 0))), (29, .one (.e (.sl 0 0 x1.length))), (30, I ((x1.length : Nat) : Int)), (31, I i165), (62, B (decide (0 ≤ i243)))], [.row .nod x1 false, .row .int x164 true, .cells [cI ((x1.getD i165.toNat dnod).parent), cS ((x1.getD i165.toNat dnod).name), cI ((x1.getD i165.toNat dnod).value)]]⟩) (by kernel_rfl) (by kernel_rfl) (And.intro rfl rfl)
                · rintro _ _ ⟨rfl, rfl⟩
                  refine thenS_n ?_
                  refine iteO_e hv226 (fun hb246 hv226 => W_true rfl hb246 ?_) (fun hb246 hv226 => W_false rfl hb246 ?_)
                  · refine W_seq ?_
                    refine W_region ?_
                    refine WO_step 1 [0] [2] True ⟨[(2, B false)], [.row .nod x1 false]⟩ (by kernel_rfl) trivial ?_
                    refine WO_nil rfl ?_
                    refine thenS_n ?_
                    refine W_ret ?_
                    refine thenS_r ?_
                    refine blockS_r ?_
                    cases hv226
                    exact And.intro rfl rfl
                  · refine W_sub [0, 1, 2] [0, 3, 4, 5, 29, 30, 31] (st' := ⟨[(0, .one (.e (.sl 0 0 x1.length))), (3, .one (.e (.sl 1 0 x164.length))), (4, I i165), (5, .one (.e (.p 2 0))), (29, .one (.e (.sl 0 0 x1.length))), (30, I ((x1.length : Nat) : Int)), (31, I i165)], [.row .nod x1 false, .row .int x164 true, .cells [cI ((x1.getD i165.toNat dnod).parent), cS ((x1.getD i165.toNat dnod).name), cI ((x1.getD i165.toNat dnod).value)]]⟩) (by kernel_rfl) ?_
                    refine W_skip ?_
                    refine thenS_n ?_
                    refine W_seq ?_
                    refine W_region ?_
                    refine guardO_e hv226 (fun hg247 hv226 => ?_)
                    refine guardO_e hv226 (fun hg248 hv226 => ?_)
                    refine WO_step 10 [0, 1] [0, 3, 4, 29, 30, 31] (True ∧ ((0 ≤ (x1.getD i165.toNat dnod).parent ∧ (x1.getD i165.toNat dnod).parent < ((x164.length : Nat) : Int)) ∧ (True ∧ (True ∧ ((0 ≤ i165 ∧ i165 < ((x164.length : Nat) : Int)) ∧ (True ∧ True)))))) ⟨[(0, .one (.e (.sl 0 0 x1.length))), (3, .one (.e (.sl 1 0 x164.length))), (4, I i165), (29, .one (.e (.sl 0 0 x1.length))), (30, I ((x1.length : Nat) : Int)), (31, I i165)], [.row .nod x1 false, .row .int (x164.set i165.toNat (w64 ((x164.getD (((x1.getD i165.toNat dnod).parent).toNat) 0) + 1))) true]⟩ (by kernel_rfl) ⟨trivial, hg247, trivial, trivial, hg248, trivial, trivial⟩ ?_
                    refine WO_eq (st' := ⟨[(0, .one (.e (.sl 0 0 x1.length))), (3, .one (.e (.sl 1 0 ((x164.set i165.toNat (w64 ((x164.getD (((x1.getD i165.toNat dnod).parent).toNat) 0) + 1))).length)))), (4, I i165), (29, .one (.e (.sl 0 0 x1.length))), (30, I ((x1.length : Nat) : Int)), (31, I i165)], [.row .nod x1 false, .row .int (x164.set i165.toNat (w64 ((x164.getD (((x1.getD i165.toNat dnod).parent).toNat) 0) + 1))) true]⟩) (by simp only [List.length_set]) ?_
                    refine WO_nil rfl ?_
                    refine thenS_n ?_
                    refine W_seq ?_
                    refine W_region ?_
                    refine guardO_e hv226 (fun hg249 hv226 => ?_)
                    refine WO_step 5 [0, 1] [0, 3, 29, 30, 31, 76] ((0 ≤ i165 ∧ i165 < (((x164.set i165.toNat (w64 ((x164.getD (((x1.getD i165.toNat dnod).parent).toNat) 0) + 1))).length : Nat) : Int)) ∧ (True ∧ (True ∧ True))) ⟨[(0, .one (.e (.sl 0 0 x1.length))), (3, .one (.e (.sl 1 0 ((x164.set i165.toNat (w64 ((x164.getD (((x1.getD i165.toNat dnod).parent).toNat) 0) + 1))).length)))), (29, .one (.e (.sl 0 0 x1.length))), (30, I ((x1.length : Nat) : Int)), (31, I i165), (76, B (decide (4 < ((x164.set i165.toNat (w64 ((x164.getD (((x1.getD i165.toNat dnod).parent).toNat) 0) + 1))).getD i165.toNat 0))))], [.row .nod x1 false, .row .int (x164.set i165.toNat (w64 ((x164.getD (((x1.getD i165.toNat dnod).parent).toNat) 0) + 1))) true]⟩ (by kernel_rfl) ⟨hg249, trivial, trivial, trivial⟩ ?_
                    refine WO_nil rfl ?_
                    refine thenS_n ?_
                    refine iteO_e hv226 (fun hb251 hv226 => W_true rfl hb251 ?_) (fun hb251 hv226 => W_false rfl hb251 ?_)
                    · refine W_seq ?_
                      refine W_region ?_
                      refine WO_step 1 [0] [2] True ⟨[(2, B false)], [.row .nod x1 false]⟩ (by kernel_rfl) trivial ?_
                      refine WO_nil rfl ?_
                      refine thenS_n ?_
                      refine W_ret ?_
                      refine blockS_r ?_
                      cases hv226
                      exact And.intro rfl rfl
                    · refine W_sub [0, 1] [0, 3, 29, 30, 31] (st' := ⟨[(0, .one (.e (.sl 0 0 x1.length))), (3, .one (.e (.sl 1 0 ((x164.set i165.toNat (w64 ((x164.getD (((x1.getD i165.toNat dnod).parent).toNat) 0) + 1))).length)))), (29, .one (.e (.sl 0 0 x1.length))), (30, I ((x1.length : Nat) : Int)), (31, I i165)], [.row .nod x1 false, .row .int (x164.set i165.toNat (w64 ((x164.getD (((x1.getD i165.toNat dnod).parent).toNat) 0) + 1))) true]⟩) (by kernel_rfl) ?_
                      refine W_skip ?_
                      refine blockS_n ?_
                      cases hv226
                      exact And.intro rfl rfl
      · rcases v226 with _ | x225
        · rintro _ _ ⟨rfl, rfl⟩
          refine thenS_r ?_
          refine thenS_r ?_
          cases h
          exact And.intro rfl rfl
        · rintro _ _ ⟨rfl, rfl⟩
          refine thenS_n ?_
          refine W_region ?_
          refine WO_step 2 [0, 1] [0, 3, 29, 30, 31] (True ∧ True) ⟨[(0, .one (.e (.sl 0 0 x1.length))), (3, .one (.e (.sl 1 0 x225.length))), (29, .one (.e (.sl 0 0 x1.length))), (30, I ((x1.length : Nat) : Int)), (31, I (w64 (i165 + 1)))], [.row .nod x1 false, .row .int x225 true]⟩ (by kernel_rfl) ⟨trivial, trivial⟩ ?_
          refine WO_nil rfl ?_
          refine thenS_n ?_
          exact ih _ _ h
    · refine W_sub [0] [] (st' := ⟨[], [.row .nod x1 false]⟩) (by kernel_rfl) ?_
      refine W_exit ?_
      refine thenS_e ?_
      refine thenS_e ?_
      cases h
      exact And.intro rfl rfl

def impl_ValidTree (n : Nat) (x1 : List Nod) : Option (Bool) :=
 iteO ((decide (((x1.length : Nat) : Int) < 1)) || (decide (12 < ((x1.length : Nat) : Int))))
 (some false)
 (guardO (0 ≤ (0 : Int) ∧ (0 : Int) < ((x1.length : Nat) : Int)) <|
 bindO (iteO (!decide (((x1.getD 0 dnod).parent) = (-1)))
 (some true)
 (guardO (0 ≤ (0 : Int) ∧ (0 : Int) < ((x1.length : Nat) : Int)) <|
 some (!decide (((x1.getD 0 dnod).name) = [])))) fun b123 =>
 iteO b123
 (some false)
 (guardO ((((x1.length : Nat) : Int) : Int) = ((x1.length : Nat) : Int) ∧ 0 ≤ ((x1.length : Nat) : Int) ∧ ((x1.length : Nat) : Int) ≤ 1099511627776) <|
 bindO (impl_ValidTree_L1 x1 n (List.replicate (((x1.length : Nat) : Int).toNat) (0 : Int)) 0) fun v252 =>
 match v252 with
 | (.inl _) => (some false)
 | (.inr _) => (some true)
))

theorem impl_ValidTree_ok (n : Nat) (x1 : List Nod) (b114 : Bool) (h : impl_ValidTree n x1 = some b114) : FOk EE 13 [.one (.e (.sl 0 0 x1.length))] [.row .nod x1 false] (B b114) [.row .nod x1 false] := by
  unfold impl_ValidTree at h
  refine FOk_of_W 78 1 Try.func13 rfl rfl (Nat.le_of_ble_eq_true rfl) rfl (fun w X θ => ?_)
  refine W_seq ?_
  refine W_region ?_
  refine WO_step 1 [0] [0] True ⟨[(0, .one (.e (.sl 0 0 x1.length)))], [.row .nod x1 false]⟩ (by kernel_rfl) trivial ?_
  refine WO_nil rfl ?_
  refine thenS_n ?_
  refine W_seq ?_
  refine W_seq ?_
  refine W_region ?_
  refine WO_step 4 [0] [0, 9] (True ∧ (True ∧ True)) ⟨[(0, .one (.e (.sl 0 0 x1.length))), (9, B (decide (((x1.length : Nat) : Int) < 1)))], [.row .nod x1 false]⟩ (by kernel_rfl) ⟨trivial, trivial, trivial⟩ ?_
  refine WO_thru ⟨[(0, .one (.e (.sl 0 0 x1.length))), (13, B ((decide (((x1.length : Nat) : Int) < 1)) || (decide (12 < ((x1.length : Nat) : Int)))))], [.row .nod x1 false]⟩ ?_ ?_
  · refine WO_if 9 rfl (fun hb117 => ?_) (fun hb117 => ?_)
    · refine WO_step 4 [0] [0, 13] True ⟨[(0, .one (.e (.sl 0 0 x1.length))), (13, B true)], [.row .nod x1 false]⟩ (by kernel_rfl) trivial ?_
      exact WO_nil rfl ⟨rfl, by first | rfl | (rw [hb117]; first | done | rfl)⟩
    · refine WO_step 4 [0] [0, 13] (True ∧ (True ∧ True)) ⟨[(0, .one (.e (.sl 0 0 x1.length))), (13, B (decide (12 < ((x1.length : Nat) : Int))))], [.row .nod x1 false]⟩ (by kernel_rfl) ⟨trivial, trivial, trivial⟩ ?_
      exact WO_nil rfl ⟨rfl, by first | rfl | (rw [hb117]; first | done | rfl)⟩
  · refine thenS_n ?_
    refine iteO_e h (fun hb119 h => W_true rfl hb119 ?_) (fun hb119 h => W_false rfl hb119 ?_)
    · refine W_seq ?_
      refine W_region ?_
      refine WO_step 1 [0] [2] True ⟨[(2, B false)], [.row .nod x1 false]⟩ (by kernel_rfl) trivial ?_
      refine WO_nil rfl ?_
      refine thenS_n ?_
      refine W_ret ?_
      refine thenS_r ?_
      cases h
      exact ⟨[0], True, by kernel_rfl, trivial⟩
    · refine W_sub [0] [0] (st' := ⟨[(0, .one (.e (.sl 0 0 x1.length)))], [.row .nod x1 false]⟩) (by kernel_rfl) ?_
      refine W_skip ?_
      refine thenS_n ?_
      refine W_seq ?_
      refine W_seq ?_
      refine W_region ?_
      refine guardO_e h (fun hg120 h => ?_)
      refine WO_step 6 [0] [0, 19] ((0 ≤ (0 : Int) ∧ (0 : Int) < ((x1.length : Nat) : Int)) ∧ (True ∧ (True ∧ True))) ⟨[(0, .one (.e (.sl 0 0 x1.length))), (19, B (!decide (((x1.getD 0 dnod).parent) = (-1))))], [.row .nod x1 false]⟩ (by kernel_rfl) ⟨hg120, trivial, trivial, trivial⟩ ?_
      refine bindO_e h (fun b123 hv124 h => ?_)
      refine WO_thru ⟨[(0, .one (.e (.sl 0 0 x1.length))), (25, B b123)], [.row .nod x1 false]⟩ ?_ ?_
      · refine iteO_e hv124 (fun hb125 hv124 => WO_known 19 true rfl hb125 ?_) (fun hb125 hv124 => WO_known 19 false rfl hb125 ?_)
        · refine WO_step 6 [0] [0, 25] True ⟨[(0, .one (.e (.sl 0 0 x1.length))), (25, B true)], [.row .nod x1 false]⟩ (by kernel_rfl) trivial ?_
          cases hv124
          exact WO_nil rfl ⟨rfl, rfl⟩
        · refine guardO_e hv124 (fun hg126 hv124 => ?_)
          refine WO_step 6 [0] [0, 25] ((0 ≤ (0 : Int) ∧ (0 : Int) < ((x1.length : Nat) : Int)) ∧ (True ∧ (True ∧ True))) ⟨[(0, .one (.e (.sl 0 0 x1.length))), (25, B (!decide (((x1.getD 0 dnod).name) = [])))], [.row .nod x1 false]⟩ (by kernel_rfl) ⟨hg126, trivial, trivial, trivial⟩ ?_
          cases hv124
          exact WO_nil rfl ⟨rfl, rfl⟩
      · refine thenS_n ?_
        refine iteO_e h (fun hb128 h => W_true rfl hb128 ?_) (fun hb128 h => W_false rfl hb128 ?_)
        · refine W_seq ?_
          refine W_region ?_
          refine WO_step 1 [0] [2] True ⟨[(2, B false)], [.row .nod x1 false]⟩ (by kernel_rfl) trivial ?_
          refine WO_nil rfl ?_
          refine thenS_n ?_
          refine W_ret ?_
          refine thenS_r ?_
          cases h
          exact ⟨[0], True, by kernel_rfl, trivial⟩
        · refine W_sub [0] [0] (st' := ⟨[(0, .one (.e (.sl 0 0 x1.length)))], [.row .nod x1 false]⟩) (by kernel_rfl) ?_
          refine W_skip ?_
          refine thenS_n ?_
          refine W_seq ?_
          refine W_region ?_
          refine guardO_e h (fun hg129 h => ?_)
          refine WO_step 4 [0, 1] [0, 3] (True ∧ (((((x1.length : Nat) : Int) : Int) = ((x1.length : Nat) : Int) ∧ 0 ≤ ((x1.length : Nat) : Int) ∧ ((x1.length : Nat) : Int) ≤ 1099511627776) ∧ True)) ⟨[(0, .one (.e (.sl 0 0 x1.length))), (3, .one (.e (.sl 1 0 ((List.replicate (((x1.length : Nat) : Int).toNat) (0 : Int)).length))))], [.row .nod x1 false, .row .int (List.replicate (((x1.length : Nat) : Int).toNat) (0 : Int)) true]⟩ (by kernel_rfl) ⟨trivial, hg129, trivial⟩ ?_
          refine WO_nil rfl ?_
          refine thenS_n ?_
          refine W_seq ?_
          refine W_seq ?_
          refine W_region ?_
          refine WO_step 3 [0, 1] [0, 3, 29, 30, 31] (True ∧ True) ⟨[(0, .one (.e (.sl 0 0 x1.length))), (3, .one (.e (.sl 1 0 ((List.replicate (((x1.length : Nat) : Int).toNat) (0 : Int)).length)))), (29, .one (.e (.sl 0 0 x1.length))), (30, I ((x1.length : Nat) : Int)), (31, I 0)], [.row .nod x1 false, .row .int (List.replicate (((x1.length : Nat) : Int).toNat) (0 : Int)) true]⟩ (by kernel_rfl) ⟨trivial, trivial⟩ ?_
          refine WO_nil rfl ?_
          refine thenS_n ?_
          refine W_block ?_
          refine W_loop ?_
          refine bindO_e h (fun v252 hv252 h => ?_)
          refine WL_cut (impl_ValidTree_L1_ok w X θ x1 v252 n (List.replicate (((x1.length : Nat) : Int).toNat) (0 : Int)) 0 hv252) ?_
          rcases v252 with _ | _
          · rintro _ _ ⟨rfl, rfl⟩
            refine blockS_r ?_
            refine thenS_r ?_
            cases h
            exact ⟨[0], True, by kernel_rfl, trivial⟩
          · rintro _ _ ⟨rfl, rfl⟩
            refine blockS_y ?_
            refine thenS_n ?_
            refine W_seq ?_
            refine W_region ?_
            refine WO_step 1 [0] [2] True ⟨[(2, B true)], [.row .nod x1 false]⟩ (by kernel_rfl) trivial ?_
            refine WO_nil rfl ?_
            refine thenS_n ?_
            refine W_ret ?_
            cases h
            exact ⟨[0], True, by kernel_rfl, trivial⟩

/- impl.Node] -/
def slices_Clone_Node (x1 : List Nod) : Option (List Nod) :=
 guardO (x1.length ≤ 1099511627776) <|
 some x1

theorem slices_Clone_Node_ok (x1 x2 : List Nod) (h : slices_Clone_Node x1 = some x2) : FOk EE 35 [.one (.e (.sl 0 0 x1.length))] [.row .nod x1 false] (.one (.e (.sl 1 0 x2.length))) [.row .nod x1 false, .row .nod x2 true] := by
  unfold slices_Clone_Node at h
  refine guardO_e h (fun hg h => ?_)
  cases h
  refine FOk_of_W 8 1 Try.func35 rfl rfl (Nat.le_of_ble_eq_true rfl) rfl (fun w X θ => ?_)
  refine W_seq ?_
  refine W_region ?_
  refine WO_step 1 [0] [0] True ⟨[(0, .one (.e (.sl 0 0 x1.length)))], [.row .nod x1 false]⟩ (by kernel_rfl) trivial ?_
  refine WO_nil rfl ?_
  refine thenS_n ?_
  refine W_seq ?_
  refine W_seq ?_
  refine W_region ?_
  refine WO_step 1 [0] [0, 3] True ⟨[(0, .one (.e (.sl 0 0 x1.length))), (3, .one (.e (.sl 0 0 x1.length)))], [.row .nod x1 false]⟩ (by kernel_rfl) trivial ?_
  refine WO_isnil (R := .nod) (xs := x1) (own := false) rfl rfl rfl rfl Try.underlying23 rfl rfl rfl (fun b hb => ?_)
  refine WO_nil rfl ?_
  refine thenS_n ?_
  cases b with
  | true =>
    have e : x1 = [] := List.eq_nil_of_length_eq_zero (hb rfl)
    subst e
    refine W_true rfl rfl ?_
    refine W_seq ?_
    refine W_region ?_
    refine WO_step 1 [0] [2] True ⟨[(2, .one (.e .nsl))], [.row .nod [] false]⟩ (by kernel_rfl) trivial ?_
    refine WO_nil rfl ?_
    refine thenS_n ?_
    refine W_nil 2 .nod rfl ?_
    refine W_ret ?_
    refine thenS_r ?_
    exact ⟨[0, 1], True, by kernel_rfl, trivial⟩
  | false =>
    refine W_false rfl rfl ?_
    refine W_sub [0] [0] (st' := ⟨[(0, .one (.e (.sl 0 0 x1.length)))], [.row .nod x1 false]⟩) (by kernel_rfl) ?_
    refine W_skip ?_
    refine thenS_n ?_
    refine W_seq ?_
    refine W_region ?_
    refine WO_step 4 [0, 2] [2] ((0 = 0 ∧ 0 = ([] : List Nod).length ∧ ([] : List Nod).length + ((x1.drop 0).take x1.length).length ≤ 1099511627776) ∧ True) ⟨[(2, .one (.e (.sl 1 0 (([] : List Nod) ++ ((x1.drop 0).take x1.length)).length)))], [.row .nod x1 false, .row .nod (([] : List Nod) ++ ((x1.drop 0).take x1.length)) true]⟩ (by kernel_rfl) ⟨⟨rfl, rfl, by simpa using hg⟩, trivial⟩ ?_
    refine WO_eq (st' := ⟨[(2, .one (.e (.sl 1 0 x1.length)))], [.row .nod x1 false, .row .nod x1 true]⟩) (by simp only [List.drop_zero, List.take_length, List.nil_append]) ?_
    refine WO_nil rfl ?_
    refine thenS_n ?_
    refine W_ret ?_
    exact ⟨[0, 1], True, by kernel_rfl, trivial⟩

/- stringslite.HasPrefix -/
def stringslite_HasPrefix (s1 : Str) (s2 : Str) : Option (Bool) :=
 bindO (iteO (decide (((s2.length : Nat) : Int) ≤ ((s1.length : Nat) : Int)))
 (guardO (0 ≤ ((s2.length : Nat) : Int) ∧ ((s2.length : Nat) : Int) ≤ ((s1.length : Nat) : Int)) <|
 some (decide ((s1.take (((s2.length : Nat) : Int).toNat)) = s2)))
 (some false)) fun b12 =>
 some b12

theorem stringslite_HasPrefix_ok (s1 : Str) (s2 : Str) (b9 : Bool) (h : stringslite_HasPrefix s1 s2 = some b9) : FOk EE 87 [S s1, S s2] [] (B b9) [] := by
  unfold stringslite_HasPrefix at h
  refine FOk_of_W 18 0 Try.func87 rfl rfl (Nat.le_of_ble_eq_true rfl) rfl (fun w X θ => ?_)
  refine W_seq ?_
  refine W_region ?_
  refine WO_step 1 [] [0, 1] True ⟨[(0, S s1), (1, S s2)], []⟩ (by kernel_rfl) trivial ?_
  refine WO_nil rfl ?_
  refine thenS_n ?_
  refine W_seq ?_
  refine W_region ?_
  refine WO_step 6 [] [0, 1, 10] (True ∧ (True ∧ (True ∧ True))) ⟨[(0, S s1), (1, S s2), (10, B (decide (((s2.length : Nat) : Int) ≤ ((s1.length : Nat) : Int))))], []⟩ (by kernel_rfl) ⟨trivial, trivial, trivial, trivial⟩ ?_
  refine bindO_e h (fun b12 hv13 h => ?_)
  refine WO_thru ⟨[(4, B b12)], []⟩ ?_ ?_
  · refine iteO_e hv13 (fun hb14 hv13 => WO_known 10 true rfl hb14 ?_) (fun hb14 hv13 => WO_known 10 false rfl hb14 ?_)
    · refine guardO_e hv13 (fun hg15 hv13 => ?_)
      refine WO_step 8 [] [4] (True ∧ ((0 ≤ ((s2.length : Nat) : Int) ∧ ((s2.length : Nat) : Int) ≤ ((s1.length : Nat) : Int)) ∧ (True ∧ True))) ⟨[(4, B (decide ((s1.take (((s2.length : Nat) : Int).toNat)) = s2)))], []⟩ (by kernel_rfl) ⟨trivial, hg15, trivial, trivial⟩ ?_
      cases hv13
      exact WO_nil rfl ⟨rfl, rfl⟩
    · refine WO_step 8 [] [4] True ⟨[(4, B false)], []⟩ (by kernel_rfl) trivial ?_
      cases hv13
      exact WO_nil rfl ⟨rfl, rfl⟩
  · refine thenS_n ?_
    refine W_ret ?_
    cases h
    exact ⟨[], True, by kernel_rfl, trivial⟩

/- stringslite.CutPrefix -/
def stringslite_CutPrefix (s1 : Str) (s2 : Str) : Option (Str × Bool) :=
 bindO (stringslite_HasPrefix s1 s2) fun b10 =>
 iteO (!b10)
 (some (s1, false))
 (guardO (0 ≤ ((s2.length : Nat) : Int) ∧ ((s2.length : Nat) : Int) ≤ ((s1.length : Nat) : Int)) <|
 some ((s1.drop (((s2.length : Nat) : Int).toNat)), true))

theorem stringslite_CutPrefix_ok (s1 : Str) (s2 : Str) (s8 : Str) (b9 : Bool) (h : stringslite_CutPrefix s1 s2 = some (s8, b9)) : FOk EE 69 [S s1, S s2] [] (.tup [.e (cS s8), .e (cB b9)]) [] := by
  unfold stringslite_CutPrefix at h
  refine FOk_of_W 15 0 Try.func69 rfl rfl (Nat.le_of_ble_eq_true rfl) rfl (fun w X θ => ?_)
  refine W_seq ?_
  refine W_region ?_
  refine WO_step 2 [] [0, 1] True ⟨[(0, S s1), (1, S s2)], []⟩ (by kernel_rfl) trivial ?_
  refine WO_nil rfl ?_
  refine thenS_n ?_
  refine W_seq ?_
  refine W_seq ?_
  refine W_region ?_
  refine WO_step 2 [] [0, 1, 6, 7] True ⟨[(0, S s1), (1, S s2), (6, S s1), (7, S s2)], []⟩ (by kernel_rfl) trivial ?_
  refine bindO_e h (fun b10 hc11 h => ?_)
  refine WO_call [] Try.f87 rfl rfl rfl (by kernel_rfl) Try.func87 rfl (by kernel_rfl) (stringslite_HasPrefix_ok s1 s2 b10 hc11) (trivial) rfl ?_
  refine WO_step 1 [] [0, 1, 9] True ⟨[(0, S s1), (1, S s2), (9, B (!b10))], []⟩ (by kernel_rfl) trivial ?_
  refine WO_nil rfl ?_
  refine thenS_n ?_
  refine iteO_e h (fun hb13 h => W_true rfl hb13 ?_) (fun hb13 h => W_false rfl hb13 ?_)
  · refine W_seq ?_
    refine W_region ?_
    refine WO_step 3 [] [4, 5] True ⟨[(4, S s1), (5, B false)], []⟩ (by kernel_rfl) trivial ?_
    refine WO_nil rfl ?_
    refine thenS_n ?_
    refine W_ret ?_
    refine thenS_r ?_
    cases h
    exact ⟨[], True, by kernel_rfl, trivial⟩
  · refine W_sub [] [0, 1] (st' := ⟨[(0, S s1), (1, S s2)], []⟩) (by kernel_rfl) ?_
    refine W_skip ?_
    refine thenS_n ?_
    refine W_seq ?_
    refine W_region ?_
    refine guardO_e h (fun hg14 h => ?_)
    refine WO_step 6 [] [4, 5] (True ∧ ((0 ≤ ((s2.length : Nat) : Int) ∧ ((s2.length : Nat) : Int) ≤ ((s1.length : Nat) : Int)) ∧ True)) ⟨[(4, S (s1.drop (((s2.length : Nat) : Int).toNat))), (5, B true)], []⟩ (by kernel_rfl) ⟨trivial, hg14, trivial⟩ ?_
    refine WO_nil rfl ?_
    refine thenS_n ?_
    refine W_ret ?_
    cases h
    exact ⟨[], True, by kernel_rfl, trivial⟩

/- strings.CutPrefix -/
def strings_CutPrefix (s1 : Str) (s2 : Str) : Option (Str × Bool) :=
 bindO (stringslite_CutPrefix s1 s2) fun (s9, b10) =>
 some (s9, b10)

theorem strings_CutPrefix_ok (s1 : Str) (s2 : Str) (s7 : Str) (b8 : Bool) (h : strings_CutPrefix s1 s2 = some (s7, b8)) : FOk EE 42 [S s1, S s2] [] (.tup [.e (cS s7), .e (cB b8)]) [] := by
  unfold strings_CutPrefix at h
  refine FOk_of_W 11 0 Try.func42 rfl rfl (Nat.le_of_ble_eq_true rfl) rfl (fun w X θ => ?_)
  refine W_seq ?_
  refine W_region ?_
  refine WO_step 2 [] [0, 1] True ⟨[(0, S s1), (1, S s2)], []⟩ (by kernel_rfl) trivial ?_
  refine WO_nil rfl ?_
  refine thenS_n ?_
  refine W_seq ?_
  refine W_region ?_
  refine WO_step 2 [] [6, 7] True ⟨[(6, S s1), (7, S s2)], []⟩ (by kernel_rfl) trivial ?_
  refine bindO_e h (fun v12 hc11 h => ?_)
  obtain ⟨s9, b10⟩ := v12
  refine WO_call [] Try.f69 rfl rfl rfl (by kernel_rfl) Try.func69 rfl (by kernel_rfl) (stringslite_CutPrefix_ok s1 s2 s9 b10 hc11) (trivial) rfl ?_
  refine WO_step 4 [] [4, 5] True ⟨[(4, S s9), (5, B b10)], []⟩ (by kernel_rfl) trivial ?_
  refine WO_nil rfl ?_
  refine thenS_n ?_
  refine W_ret ?_
  cases h
  exact ⟨[], True, by kernel_rfl, trivial⟩

/- stringslite.IndexByte -/
def lays217R : Shelf.Ren := ⟨fun n => match n with | 217 => 96 | 266 => 104 | _ => 0, fun n => match n with | 3 => 3 | 5 => 5 | 9 => 9 | _ => 0, fun n => n⟩
set_option maxRecDepth 100000 in
theorem lays217 : Lays.n217 Try.prog lays217R := {
  mixed := by kernel_rfl
  f217 := by kernel_rfl
  f266 := by kernel_rfl
  t3 := Try.underlying3
  a3 := Try.isAgg3
  z3 := Try.sizeOf3
  v3 := Try.zeroValue3
  t5 := Try.underlying5
  a5 := Try.isAgg5
  z5 := Try.sizeOf5
  v5 := Try.zeroValue5
  t9 := Try.underlying9
  a9 := Try.isAgg9
  z9 := Try.sizeOf9
  v9 := Try.zeroValue9 }
def stringslite_IndexByte (s1 : Str) (i2 : Int) : Int := Lib.indexByte s1 (UInt8.ofNat i2.toNat)
theorem stringslite_IndexByte_ok (s1 : Str) (i2 : Int) : FOk EE 96 [S s1, U i2] [] (I (stringslite_IndexByte s1 i2)) [] :=
  FOk_pure (args := [.str s1, .int .u8 i2]) (r := .int .i64 (Lib.indexByte s1 (UInt8.ofNat i2.toNat))) (fun w => Any.stringslite_IndexByte lays217 ⟨⟨s1⟩⟩ i2 w)

/- stringslite.Index -/
def stringslite_Index (s1 : Str) (s2 : Str) : Option (Int) :=
 iteO ((decide (((s2.length : Nat) : Int) = 0)) || (decide (s2 = s1)))
 (some 0)
 (iteO (decide (((s2.length : Nat) : Int) = 1))
 (guardO (0 ≤ (0 : Int) ∧ (0 : Int) < ((s2.length : Nat) : Int)) <|
 some (stringslite_IndexByte s1 ((s2.getD ((0 : Int).toNat) 0).toNat : Int)))
 (iteO (decide (((s1.length : Nat) : Int) ≤ ((s2.length : Nat) : Int)))
 (some (-1))
 (none)))

theorem stringslite_Index_ok (s1 : Str) (s2 : Str) (i45 : Int) (h : stringslite_Index s1 s2 = some i45) : FOk EE 88 [S s1, S s2] [] (I i45) [] := by
  unfold stringslite_Index at h
  refine FOk_of_W 143 0 Try.func88 rfl rfl (Nat.le_of_ble_eq_true rfl) rfl (fun w X θ => ?_)
  refine W_seq ?_
  refine W_region ?_
  refine WO_step 1 [] [0, 1] True ⟨[(0, S s1), (1, S s2)], []⟩ (by kernel_rfl) trivial ?_
  refine WO_nil rfl ?_
  refine thenS_n ?_
  refine W_seq ?_
  refine W_region ?_
  refine WO_step 3 [] [0, 1, 5] (True ∧ True) ⟨[(0, S s1), (1, S s2), (5, I ((s2.length : Nat) : Int))], []⟩ (by kernel_rfl) ⟨trivial, trivial⟩ ?_
  refine WO_nil rfl ?_
  refine thenS_n ?_
  refine W_seq ?_
  refine W_block ?_
  refine W_seq ?_
  refine W_region ?_
  refine WO_step 3 [] [0, 1, 5, 19] (True ∧ True) ⟨[(0, S s1), (1, S s2), (5, I ((s2.length : Nat) : Int)), (19, B (decide (((s2.length : Nat) : Int) = 0)))], []⟩ (by kernel_rfl) ⟨trivial, trivial⟩ ?_
  refine WO_thru ⟨[(0, S s1), (1, S s2), (5, I ((s2.length : Nat) : Int)), (16, B ((decide (((s2.length : Nat) : Int) = 0)) || (decide (s2 = s1))))], []⟩ ?_ ?_
  · refine WO_if 19 rfl (fun hb69 => ?_) (fun hb69 => ?_)
    · refine WO_step 5 [] [0, 1, 5, 16] True ⟨[(0, S s1), (1, S s2), (5, I ((s2.length : Nat) : Int)), (16, B true)], []⟩ (by kernel_rfl) trivial ?_
      exact WO_nil rfl ⟨rfl, by first | rfl | (rw [hb69]; first | done | rfl)⟩
    · refine WO_step 5 [] [0, 1, 5, 16] (True ∧ True) ⟨[(0, S s1), (1, S s2), (5, I ((s2.length : Nat) : Int)), (16, B (decide (s2 = s1)))], []⟩ (by kernel_rfl) ⟨trivial, trivial⟩ ?_
      exact WO_nil rfl ⟨rfl, by first | rfl | (rw [hb69]; first | done | rfl)⟩
  · refine thenS_n ?_
    refine iteO_e h (fun hb79 h => W_true rfl hb79 ?_) (fun hb79 h => W_false rfl hb79 ?_)
    · refine W_seq ?_
      refine W_region ?_
      refine WO_step 1 [] [4] True ⟨[(4, I 0)], []⟩ (by kernel_rfl) trivial ?_
      refine WO_nil rfl ?_
      refine thenS_n ?_
      refine W_ret ?_
      refine blockS_r ?_
      refine thenS_r ?_
      cases h
      exact ⟨[], True, by kernel_rfl, trivial⟩
    · refine W_seq ?_
      refine W_region ?_
      refine WO_step 3 [] [0, 1, 5, 24] (True ∧ True) ⟨[(0, S s1), (1, S s2), (5, I ((s2.length : Nat) : Int)), (24, B (decide (((s2.length : Nat) : Int) = 1)))], []⟩ (by kernel_rfl) ⟨trivial, trivial⟩ ?_
      refine WO_nil rfl ?_
      refine thenS_n ?_
      refine iteO_e h (fun hb84 h => W_true rfl hb84 ?_) (fun hb84 h => W_false rfl hb84 ?_)
      · refine W_seq ?_
        refine W_region ?_
        refine guardO_e h (fun hg85 h => ?_)
        refine WO_step 3 [] [27, 29] ((0 ≤ (0 : Int) ∧ (0 : Int) < ((s2.length : Nat) : Int)) ∧ True) ⟨[(27, S s1), (29, U ((s2.getD ((0 : Int).toNat) 0).toNat : Int))], []⟩ (by kernel_rfl) ⟨hg85, trivial⟩ ?_
        refine WO_call [] Try.f96 rfl rfl rfl (by kernel_rfl) Try.func96 rfl (by kernel_rfl) (stringslite_IndexByte_ok s1 ((s2.getD ((0 : Int).toNat) 0).toNat : Int)) (trivial) rfl ?_
        refine WO_step 1 [] [4] True ⟨[(4, I (stringslite_IndexByte s1 ((s2.getD ((0 : Int).toNat) 0).toNat : Int)))], []⟩ (by kernel_rfl) trivial ?_
        refine WO_nil rfl ?_
        refine thenS_n ?_
        refine W_ret ?_
        refine blockS_r ?_
        refine thenS_r ?_
        cases h
        exact ⟨[], True, by kernel_rfl, trivial⟩
      · refine W_seq ?_
        refine W_region ?_
        refine WO_step 5 [] [0, 1, 5, 31] (True ∧ (True ∧ True)) ⟨[(0, S s1), (1, S s2), (5, I ((s2.length : Nat) : Int)), (31, B (decide (((s1.length : Nat) : Int) ≤ ((s2.length : Nat) : Int))))], []⟩ (by kernel_rfl) ⟨trivial, trivial, trivial⟩ ?_
        refine WO_nil rfl ?_
        refine thenS_n ?_
        refine iteO_e h (fun hb87 h => W_true rfl hb87 ?_) (fun hb87 h => W_false rfl hb87 ?_)
        · refine W_seq ?_
          refine W_region ?_
          refine WO_step 1 [] [4] True ⟨[(4, I (-1))], []⟩ (by kernel_rfl) trivial ?_
          refine WO_nil rfl ?_
          refine thenS_n ?_
          refine W_ret ?_
          refine blockS_r ?_
          refine thenS_r ?_
          cases h
          exact ⟨[], True, by kernel_rfl, trivial⟩
        · exact none_e h

/- stringslite.Cut -/
def stringslite_Cut (s1 : Str) (s2 : Str) : Option (Str × Str × Bool) :=
 bindO (stringslite_Index s1 s2) fun i14 =>
 iteO (decide (0 ≤ i14))
 (guardO (0 ≤ i14 ∧ i14 ≤ ((s1.length : Nat) : Int)) <|
 guardO (0 ≤ (w64 (i14 + ((s2.length : Nat) : Int))) ∧ (w64 (i14 + ((s2.length : Nat) : Int))) ≤ ((s1.length : Nat) : Int)) <|
 some ((s1.take i14.toNat), (s1.drop ((w64 (i14 + ((s2.length : Nat) : Int))).toNat)), true))
 (some (s1, [], false))

theorem stringslite_Cut_ok (s1 : Str) (s2 : Str) (s11 : Str) (s12 : Str) (b13 : Bool) (h : stringslite_Cut s1 s2 = some (s11, s12, b13)) : FOk EE 70 [S s1, S s2] [] (.tup [.e (cS s11), .e (cS s12), .e (cB b13)]) [] := by
  unfold stringslite_Cut at h
  refine FOk_of_W 23 0 Try.func70 rfl rfl (Nat.le_of_ble_eq_true rfl) rfl (fun w X θ => ?_)
  refine W_seq ?_
  refine W_region ?_
  refine WO_step 3 [] [0, 1] True ⟨[(0, S s1), (1, S s2)], []⟩ (by kernel_rfl) trivial ?_
  refine WO_nil rfl ?_
  refine thenS_n ?_
  refine W_seq ?_
  refine W_seq ?_
  refine W_region ?_
  refine WO_step 2 [] [0, 1, 8, 9] True ⟨[(0, S s1), (1, S s2), (8, S s1), (9, S s2)], []⟩ (by kernel_rfl) trivial ?_
  refine bindO_e h (fun i14 hc15 h => ?_)
  refine WO_call [] Try.f88 rfl rfl rfl (by kernel_rfl) Try.func88 rfl (by kernel_rfl) (stringslite_Index_ok s1 s2 i14 hc15) (trivial) rfl ?_
  refine WO_step 1 [] [0, 1, 7] True ⟨[(0, S s1), (1, S s2), (7, I i14)], []⟩ (by kernel_rfl) trivial ?_
  refine WO_nil rfl ?_
  refine thenS_n ?_
  refine W_seq ?_
  refine W_region ?_
  refine WO_step 2 [] [0, 1, 7, 12] (True ∧ True) ⟨[(0, S s1), (1, S s2), (7, I i14), (12, B (decide (0 ≤ i14)))], []⟩ (by kernel_rfl) ⟨trivial, trivial⟩ ?_
  refine WO_nil rfl ?_
  refine thenS_n ?_
  refine iteO_e h (fun hb19 h => W_true rfl hb19 ?_) (fun hb19 h => W_false rfl hb19 ?_)
  · refine W_seq ?_
    refine guardO_e h (fun hg20 h => ?_)
    refine guardO_e h (fun hg21 h => ?_)
    refine W_cut (Q' := fun (e : Exit) (s : St) => e = .normal ∧ s = ⟨[(4, S (s1.take i14.toNat)), (5, S (s1.drop ((w64 (i14 + ((s2.length : Nat) : Int))).toNat))), (6, B true)], []⟩) ?_ ?_
    · refine W_draw [] true (by kernel_rfl) (by kernel_rfl) ?_
      refine WD_takeK [0, 1, 2, 3, 4, 5, 6, 7, 8, 9, 10, 11] [4, 5, 6] [4, 5, 6] (φ := ((0 ≤ i14 ∧ i14 ≤ ((s1.length : Nat) : Int)) ∧ (0 ≤ i14 ∧ i14 ≤ ((s1.length : Nat) : Int)) ∧ (True ∧ True ∧ (True ∧ True ∧ ((0 ≤ (w64 (i14 + ((s2.length : Nat) : Int))) ∧ (w64 (i14 + ((s2.length : Nat) : Int))) ≤ ((s1.length : Nat) : Int)) ∧ (0 ≤ (w64 (i14 + ((s2.length : Nat) : Int))) ∧ (w64 (i14 + ((s2.length : Nat) : Int))) ≤ ((s1.length : Nat) : Int)) ∧ True))))) (ls' := #[true, true, true, true, true, true, true, true, true, true, true, true]) (Ts' := [(4, S (s1.take i14.toNat)), (5, S (s1.drop ((w64 (i14 + ((s2.length : Nat) : Int))).toNat))), (6, B true)]) (st' := ⟨[(4, S (s1.take i14.toNat)), (5, S (s1.drop ((w64 (i14 + ((s2.length : Nat) : Int))).toNat))), (6, B true)], []⟩) (n2 := 0) (by kernel_rfl) ⟨hg20, hg20, trivial, trivial, trivial, trivial, hg21, hg21, trivial⟩ rfl ?_
      exact WD_done [] [4, 5, 6] (st' := ⟨[(4, S (s1.take i14.toNat)), (5, S (s1.drop ((w64 (i14 + ((s2.length : Nat) : Int))).toNat))), (6, B true)], []⟩) (by kernel_rfl) (by kernel_rfl) (And.intro rfl rfl)
    · rintro _ _ ⟨rfl, rfl⟩
      refine thenS_n ?_
      refine W_ret ?_
      refine thenS_r ?_
      cases h
      exact ⟨[], True, by kernel_rfl, trivial⟩
  · refine W_sub [] [0] (st' := ⟨[(0, S s1)], []⟩) (by kernel_rfl) ?_
    refine W_skip ?_
    refine thenS_n ?_
    refine W_seq ?_
    refine W_region ?_
    refine WO_step 4 [] [4, 5, 6] True ⟨[(4, S s1), (5, S []), (6, B false)], []⟩ (by kernel_rfl) trivial ?_
    refine WO_nil rfl ?_
    refine thenS_n ?_
    refine W_ret ?_
    cases h
    exact ⟨[], True, by kernel_rfl, trivial⟩

/- strings.Cut -/
def strings_Cut (s1 : Str) (s2 : Str) : Option (Str × Str × Bool) :=
 bindO (stringslite_Cut s1 s2) fun (s11, s12, b13) =>
 some (s11, s12, b13)

theorem strings_Cut_ok (s1 : Str) (s2 : Str) (s8 : Str) (s9 : Str) (b10 : Bool) (h : strings_Cut s1 s2 = some (s8, s9, b10)) : FOk EE 43 [S s1, S s2] [] (.tup [.e (cS s8), .e (cS s9), .e (cB b10)]) [] := by
  unfold strings_Cut at h
  refine FOk_of_W 13 0 Try.func43 rfl rfl (Nat.le_of_ble_eq_true rfl) rfl (fun w X θ => ?_)
  refine W_seq ?_
  refine W_region ?_
  refine WO_step 3 [] [0, 1] True ⟨[(0, S s1), (1, S s2)], []⟩ (by kernel_rfl) trivial ?_
  refine WO_nil rfl ?_
  refine thenS_n ?_
  refine W_seq ?_
  refine W_region ?_
  refine WO_step 2 [] [7, 8] True ⟨[(7, S s1), (8, S s2)], []⟩ (by kernel_rfl) trivial ?_
  refine bindO_e h (fun v15 hc14 h => ?_)
  obtain ⟨s11, s12, b13⟩ := v15
  refine WO_call [] Try.f70 rfl rfl rfl (by kernel_rfl) Try.func70 rfl (by kernel_rfl) (stringslite_Cut_ok s1 s2 s11 s12 b13 hc14) (trivial) rfl ?_
  refine WO_step 6 [] [4, 5, 6] True ⟨[(4, S s11), (5, S s12), (6, B b13)], []⟩ (by kernel_rfl) trivial ?_
  refine WO_nil rfl ?_
  refine thenS_n ?_
  refine W_ret ?_
  cases h
  exact ⟨[], True, by kernel_rfl, trivial⟩

/- impl.ResolvePath -/
def impl_ResolvePath_L1 (x1 : List Nod) : Nat → Str → Int → Bool → Option ((Unit) ⊕ (Int))
| 0, _, _, _ => none
| n + 1, s129, i130, b131 =>
 iteO b131
 (bindO (strings_Cut s129 [47]) fun (s168, s169, b170) =>
 bindO (impl_kidIn n x1 i130 s168) fun i172 =>
 iteO (decide (i172 < 0))
 (some (.inl ()))
 (impl_ResolvePath_L1 x1 n s169 i172 b170))
 (some (.inr i130))

theorem impl_ResolvePath_L1_ok (w : World) (X : Nat → Prop) (θ : List Loc) (x1 : List Nod) (v : (Unit) ⊕ (Int)) : ∀ (n : Nat) (s129 : Str) (i130 : Int) (b131 : Bool), impl_ResolvePath_L1 x1 n s129 i130 b131 = some v → WL EE ⟨w, X, θ, 36, 1⟩ (subC [1, 1, 1, 1, 1, 1, 0, 1, 4, 4] (bodyC Try.f14)) (fun (e : Exit) (s : St) => (match v with | (.inl _) => e = .ret ∧ s = ⟨[(4, I (-1))], [.row .nod x1 false]⟩ | (.inr i155) => e = .exit 0 ∧ s = ⟨[(7, I i155)], [.row .nod x1 false]⟩ : Prop)) ⟨[(0, .one (.e (.sl 0 0 x1.length))), (5, S s129), (7, I i130), (8, B b131)], [.row .nod x1 false]⟩ := by
  intro n
  induction n with
  | zero => intro _ _ _ h; exact none_e h
  | succ n ih =>
    intro s129 i130 b131 h
    rw [impl_ResolvePath_L1] at h
    refine WL_round ?_
    refine W_seq ?_
    refine W_seq ?_
    refine W_region ?_
    refine WO_step 1 [0] [0, 5, 7, 22] True ⟨[(0, .one (.e (.sl 0 0 x1.length))), (5, S s129), (7, I i130), (22, B b131)], [.row .nod x1 false]⟩ (by kernel_rfl) trivial ?_
    refine WO_nil rfl ?_
    refine thenS_n ?_
    refine iteO_e h (fun hb158 h => W_true rfl hb158 ?_) (fun hb158 h => W_false rfl hb158 ?_)
    · refine W_sub [0] [0, 5, 7] (st' := ⟨[(0, .one (.e (.sl 0 0 x1.length))), (5, S s129), (7, I i130)], [.row .nod x1 false]⟩) (by kernel_rfl) ?_
      refine W_skip ?_
      refine thenS_n ?_
      refine W_block ?_
      refine W_seq ?_
      refine W_region ?_
      refine WO_step 1 [0] [0, 5, 7] True ⟨[(0, .one (.e (.sl 0 0 x1.length))), (5, S s129), (7, I i130)], [.row .nod x1 false]⟩ (by kernel_rfl) trivial ?_
      refine WO_nil rfl ?_
      refine thenS_n ?_
      refine W_seq ?_
      refine W_region ?_
      refine WO_step 1 [0] [0, 7, 24] True ⟨[(0, .one (.e (.sl 0 0 x1.length))), (7, I i130), (24, S s129)], [.row .nod x1 false]⟩ (by kernel_rfl) trivial ?_
      refine bindO_e h (fun v176 hc171 h => ?_)
      obtain ⟨s168, s169, b170⟩ := v176
      refine WO_call [] Try.f43 rfl rfl rfl (by kernel_rfl) Try.func43 rfl (by kernel_rfl) (strings_Cut_ok s129 [47] s168 s169 b170 hc171) (trivial) rfl ?_
      refine WO_step 7 [0] [0, 5, 7, 8, 9] True ⟨[(0, .one (.e (.sl 0 0 x1.length))), (5, S s169), (7, I i130), (8, B b170), (9, S s168)], [.row .nod x1 false]⟩ (by kernel_rfl) trivial ?_
      refine WO_nil rfl ?_
      refine thenS_n ?_
      refine W_seq ?_
      refine W_region ?_
      refine WO_step 3 [0] [0, 5, 8, 29, 30, 31] True ⟨[(0, .one (.e (.sl 0 0 x1.length))), (5, S s169), (8, B b170), (29, .one (.e (.sl 0 0 x1.length))), (30, I i130), (31, S s168)], [.row .nod x1 false]⟩ (by kernel_rfl) trivial ?_
      refine bindO_e h (fun i172 hc173 h => ?_)
      refine WO_call [.ro 0] Try.f41 rfl rfl rfl (by kernel_rfl) Try.func41 rfl (by kernel_rfl) (impl_kidIn_ok n x1 i130 s168 i172 hc173) (And.intro (And.intro rfl rfl) (trivial)) rfl ?_
      refine WO_step 1 [0] [0, 5, 7, 8] True ⟨[(0, .one (.e (.sl 0 0 x1.length))), (5, S s169), (7, I i172), (8, B b170)], [.row .nod x1 false]⟩ (by kernel_rfl) trivial ?_
      refine WO_nil rfl ?_
      refine thenS_n ?_
      refine W_seq ?_
      refine W_region ?_
      refine WO_step 2 [0] [0, 5, 7, 8, 34] (True ∧ True) ⟨[(0, .one (.e (.sl 0 0 x1.length))), (5, S s169), (7, I i172), (8, B b170), (34, B (decide (i172 < 0)))], [.row .nod x1 false]⟩ (by kernel_rfl) ⟨trivial, trivial⟩ ?_
      refine WO_nil rfl ?_
      refine thenS_n ?_
      refine iteO_e h (fun hb175 h => W_true rfl hb175 ?_) (fun hb175 h => W_false rfl hb175 ?_)
      · refine W_seq ?_
        refine W_region ?_
        refine WO_step 1 [0] [4] True ⟨[(4, I (-1))], [.row .nod x1 false]⟩ (by kernel_rfl) trivial ?_
        refine WO_nil rfl ?_
        refine thenS_n ?_
        refine W_ret ?_
        refine blockS_r ?_
        refine thenS_r ?_
        cases h
        exact And.intro rfl rfl
      · refine W_sub [0] [0, 5, 7, 8] (st' := ⟨[(0, .one (.e (.sl 0 0 x1.length))), (5, S s169), (7, I i172), (8, B b170)], [.row .nod x1 false]⟩) (by kernel_rfl) ?_
        refine W_skip ?_
        refine blockS_n ?_
        refine thenS_n ?_
        exact ih _ _ _ h
    · refine W_sub [0] [7] (st' := ⟨[(7, I i130)], [.row .nod x1 false]⟩) (by kernel_rfl) ?_
      refine W_exit ?_
      refine thenS_e ?_
      refine thenS_e ?_
      cases h
      exact And.intro rfl rfl

def impl_ResolvePath (n : Nat) (x1 : List Nod) (s2 : Str) : Option (Int) :=
 bindO (impl_ValidTree n x1) fun b90 =>
 iteO (!b90)
 (some (-1))
 (bindO (strings_CutPrefix s2 [47]) fun (s94, b95) =>
 iteO (!b95)
 (some (-1))
 (iteO (decide (s94 = []))
 (some 0)
 (bindO (impl_ResolvePath_L1 x1 n s94 0 true) fun v177 =>
 match v177 with
 | (.inl _) => (some (-1))
 | (.inr i155) => (some i155)
)))

theorem impl_ResolvePath_ok (n : Nat) (x1 : List Nod) (s2 : Str) (i89 : Int) (h : impl_ResolvePath n x1 s2 = some i89) : FOk EE 14 [.one (.e (.sl 0 0 x1.length)), S s2] [.row .nod x1 false] (I i89) [.row .nod x1 false] := by
  unfold impl_ResolvePath at h
  refine FOk_of_W 36 1 Try.func14 rfl rfl (Nat.le_of_ble_eq_true rfl) rfl (fun w X θ => ?_)
  refine W_seq ?_
  refine W_region ?_
  refine WO_step 1 [0] [0, 1] True ⟨[(0, .one (.e (.sl 0 0 x1.length))), (1, S s2)], [.row .nod x1 false]⟩ (by kernel_rfl) trivial ?_
  refine WO_nil rfl ?_
  refine thenS_n ?_
  refine W_seq ?_
  refine W_seq ?_
  refine W_region ?_
  refine WO_step 1 [0] [0, 1, 10] True ⟨[(0, .one (.e (.sl 0 0 x1.length))), (1, S s2), (10, .one (.e (.sl 0 0 x1.length)))], [.row .nod x1 false]⟩ (by kernel_rfl) trivial ?_
  refine bindO_e h (fun b90 hc91 h => ?_)
  refine WO_call [.ro 0] Try.f13 rfl rfl rfl (by kernel_rfl) Try.func13 rfl (by kernel_rfl) (impl_ValidTree_ok n x1 b90 hc91) (And.intro (And.intro rfl rfl) (trivial)) rfl ?_
  refine WO_step 1 [0] [0, 1, 12] True ⟨[(0, .one (.e (.sl 0 0 x1.length))), (1, S s2), (12, B (!b90))], [.row .nod x1 false]⟩ (by kernel_rfl) trivial ?_
  refine WO_nil rfl ?_
  refine thenS_n ?_
  refine iteO_e h (fun hb93 h => W_true rfl hb93 ?_) (fun hb93 h => W_false rfl hb93 ?_)
  · refine W_seq ?_
    refine W_region ?_
    refine WO_step 1 [0] [4] True ⟨[(4, I (-1))], [.row .nod x1 false]⟩ (by kernel_rfl) trivial ?_
    refine WO_nil rfl ?_
    refine thenS_n ?_
    refine W_ret ?_
    refine thenS_r ?_
    cases h
    exact ⟨[0], True, by kernel_rfl, trivial⟩
  · refine W_sub [0] [0, 1] (st' := ⟨[(0, .one (.e (.sl 0 0 x1.length))), (1, S s2)], [.row .nod x1 false]⟩) (by kernel_rfl) ?_
    refine W_skip ?_
    refine thenS_n ?_
    refine W_seq ?_
    refine W_region ?_
    refine WO_step 1 [0] [0, 14] True ⟨[(0, .one (.e (.sl 0 0 x1.length))), (14, S s2)], [.row .nod x1 false]⟩ (by kernel_rfl) trivial ?_
    refine bindO_e h (fun v178 hc96 h => ?_)
    obtain ⟨s94, b95⟩ := v178
    refine WO_call [] Try.f42 rfl rfl rfl (by kernel_rfl) Try.func42 rfl (by kernel_rfl) (strings_CutPrefix_ok s2 [47] s94 b95 hc96) (trivial) rfl ?_
    refine WO_step 5 [0] [0, 5, 6] True ⟨[(0, .one (.e (.sl 0 0 x1.length))), (5, S s94), (6, B b95)], [.row .nod x1 false]⟩ (by kernel_rfl) trivial ?_
    refine WO_nil rfl ?_
    refine thenS_n ?_
    refine W_seq ?_
    refine W_seq ?_
    refine W_region ?_
    refine WO_step 2 [0] [0, 5, 19] True ⟨[(0, .one (.e (.sl 0 0 x1.length))), (5, S s94), (19, B (!b95))], [.row .nod x1 false]⟩ (by kernel_rfl) trivial ?_
    refine WO_nil rfl ?_
    refine thenS_n ?_
    refine iteO_e h (fun hb98 h => W_true rfl hb98 ?_) (fun hb98 h => W_false rfl hb98 ?_)
    · refine W_seq ?_
      refine W_region ?_
      refine WO_step 1 [0] [4] True ⟨[(4, I (-1))], [.row .nod x1 false]⟩ (by kernel_rfl) trivial ?_
      refine WO_nil rfl ?_
      refine thenS_n ?_
      refine W_ret ?_
      refine thenS_r ?_
      cases h
      exact ⟨[0], True, by kernel_rfl, trivial⟩
    · refine W_sub [0] [0, 5] (st' := ⟨[(0, .one (.e (.sl 0 0 x1.length))), (5, S s94)], [.row .nod x1 false]⟩) (by kernel_rfl) ?_
      refine W_skip ?_
      refine thenS_n ?_
      refine W_seq ?_
      refine W_seq ?_
      refine W_region ?_
      refine WO_step 2 [0] [0, 5, 21] (True ∧ True) ⟨[(0, .one (.e (.sl 0 0 x1.length))), (5, S s94), (21, B (decide (s94 = [])))], [.row .nod x1 false]⟩ (by kernel_rfl) ⟨trivial, trivial⟩ ?_
      refine WO_nil rfl ?_
      refine thenS_n ?_
      refine iteO_e h (fun hb100 h => W_true rfl hb100 ?_) (fun hb100 h => W_false rfl hb100 ?_)
      · refine W_seq ?_
        refine W_region ?_
        refine WO_step 1 [0] [4] True ⟨[(4, I 0)], [.row .nod x1 false]⟩ (by kernel_rfl) trivial ?_
        refine WO_nil rfl ?_
        refine thenS_n ?_
        refine W_ret ?_
        refine thenS_r ?_
        cases h
        exact ⟨[0], True, by kernel_rfl, trivial⟩
      · refine W_sub [0] [0, 5] (st' := ⟨[(0, .one (.e (.sl 0 0 x1.length))), (5, S s94)], [.row .nod x1 false]⟩) (by kernel_rfl) ?_
        refine W_skip ?_
        refine thenS_n ?_
        refine W_seq ?_
        refine W_region ?_
        refine WO_step 1 [0] [0, 5, 7] True ⟨[(0, .one (.e (.sl 0 0 x1.length))), (5, S s94), (7, I 0)], [.row .nod x1 false]⟩ (by kernel_rfl) trivial ?_
        refine WO_nil rfl ?_
        refine thenS_n ?_
        refine W_seq ?_
        refine W_seq ?_
        refine W_region ?_
        refine WO_step 1 [0] [0, 5, 7, 8] True ⟨[(0, .one (.e (.sl 0 0 x1.length))), (5, S s94), (7, I 0), (8, B true)], [.row .nod x1 false]⟩ (by kernel_rfl) trivial ?_
        refine WO_nil rfl ?_
        refine thenS_n ?_
        refine W_block ?_
        refine W_loop ?_
        refine bindO_e h (fun v177 hv177 h => ?_)
        refine WL_cut (impl_ResolvePath_L1_ok w X θ x1 v177 n s94 0 true hv177) ?_
        rcases v177 with _ | i155
        · rintro _ _ ⟨rfl, rfl⟩
          refine blockS_r ?_
          refine thenS_r ?_
          cases h
          exact ⟨[0], True, by kernel_rfl, trivial⟩
        · rintro _ _ ⟨rfl, rfl⟩
          refine blockS_y ?_
          refine thenS_n ?_
          refine W_seq ?_
          refine W_region ?_
          refine WO_step 2 [0] [4] True ⟨[(4, I i155)], [.row .nod x1 false]⟩ (by kernel_rfl) trivial ?_
          refine WO_nil rfl ?_
          refine thenS_n ?_
          refine W_ret ?_
          cases h
          exact ⟨[0], True, by kernel_rfl, trivial⟩

/- impl.isNode -/
def impl_isNode (n : Nat) (x1 : List Nod) (i2 : Int) : Option (Bool) :=
 bindO (iteO (impl_within i2 0 (w64 (((x1.length : Nat) : Int) - 1)))
 (bindO (impl_ValidTree n x1) fun b18 =>
 some b18)
 (some false)) fun b15 =>
 some b15

theorem impl_isNode_ok (n : Nat) (x1 : List Nod) (i2 : Int) (b11 : Bool) (h : impl_isNode n x1 i2 = some b11) : FOk EE 71 [.one (.e (.sl 0 0 x1.length)), I i2] [.row .nod x1 false] (B b11) [.row .nod x1 false] := by
  unfold impl_isNode at h
  refine FOk_of_W 14 1 Try.func71 rfl rfl (Nat.le_of_ble_eq_true rfl) rfl (fun w X θ => ?_)
  refine W_seq ?_
  refine W_region ?_
  refine WO_step 1 [0] [0, 1] True ⟨[(0, .one (.e (.sl 0 0 x1.length))), (1, I i2)], [.row .nod x1 false]⟩ (by kernel_rfl) trivial ?_
  refine WO_nil rfl ?_
  refine thenS_n ?_
  refine W_seq ?_
  refine W_region ?_
  refine WO_step 4 [0] [0, 5, 8] (True ∧ (True ∧ True)) ⟨[(0, .one (.e (.sl 0 0 x1.length))), (5, I i2), (8, I (w64 (((x1.length : Nat) : Int) - 1)))], [.row .nod x1 false]⟩ (by kernel_rfl) ⟨trivial, trivial, trivial⟩ ?_
  refine WO_call [] Try.f39 rfl rfl rfl (by kernel_rfl) Try.func39 rfl (by kernel_rfl) (impl_within_ok i2 0 (w64 (((x1.length : Nat) : Int) - 1))) (trivial) rfl ?_
  refine WO_step 1 [0] [0, 10] True ⟨[(0, .one (.e (.sl 0 0 x1.length))), (10, B (impl_within i2 0 (w64 (((x1.length : Nat) : Int) - 1))))], [.row .nod x1 false]⟩ (by kernel_rfl) trivial ?_
  refine bindO_e h (fun b15 hv16 h => ?_)
  refine WO_thru ⟨[(4, B b15)], [.row .nod x1 false]⟩ ?_ ?_
  · refine iteO_e hv16 (fun hb17 hv16 => WO_known 10 true rfl hb17 ?_) (fun hb17 hv16 => WO_known 10 false rfl hb17 ?_)
    · refine WO_step 1 [0] [10, 11] True ⟨[(10, B true), (11, .one (.e (.sl 0 0 x1.length)))], [.row .nod x1 false]⟩ (by kernel_rfl) trivial ?_
      refine bindO_e hv16 (fun b18 hc19 hv16 => ?_)
      refine WO_call [.ro 0] Try.f13 rfl rfl rfl (by kernel_rfl) Try.func13 rfl (by kernel_rfl) (impl_ValidTree_ok n x1 b18 hc19) (And.intro (And.intro rfl rfl) (trivial)) rfl ?_
      refine WO_step 2 [0] [4] True ⟨[(4, B b18)], [.row .nod x1 false]⟩ (by kernel_rfl) trivial ?_
      cases hv16
      exact WO_nil rfl ⟨rfl, rfl⟩
    · refine WO_step 4 [0] [4] True ⟨[(4, B false)], [.row .nod x1 false]⟩ (by kernel_rfl) trivial ?_
      cases hv16
      exact WO_nil rfl ⟨rfl, rfl⟩
  · refine thenS_n ?_
    refine W_ret ?_
    cases h
    exact ⟨[0], True, by kernel_rfl, trivial⟩

/- impl.reaches -/
def impl_reaches_L1 (x1 : List Nod) (i2 : Int) : Nat → Int → Option (Int)
| 0, _ => none
| n + 1, i33 =>
 iteO (decide (i2 < i33))
 (guardO (0 ≤ i33 ∧ i33 < ((x1.length : Nat) : Int)) <|
 impl_reaches_L1 x1 i2 n ((x1.getD i33.toNat dnod).parent))
 (some i33)

theorem impl_reaches_L1_ok (w : World) (X : Nat → Prop) (θ : List Loc) (x1 : List Nod) (i2 : Int) (i39 : Int) : ∀ (n : Nat) (i33 : Int), impl_reaches_L1 x1 i2 n i33 = some i39 → WL EE ⟨w, X, θ, 18, 1⟩ (subC [1, 0, 4, 4] (bodyC Try.f79)) (fun (e : Exit) (s : St) => e = .exit 0 ∧ s = ⟨[(1, I i2), (2, I i39)], [.row .nod x1 false]⟩) ⟨[(0, .one (.e (.sl 0 0 x1.length))), (1, I i2), (2, I i33)], [.row .nod x1 false]⟩ := by
  intro n
  induction n with
  | zero => intro _ h; exact none_e h
  | succ n ih =>
    intro i33 h
    rw [impl_reaches_L1] at h
    refine WL_round ?_
    refine W_seq ?_
    refine W_seq ?_
    refine W_region ?_
    refine WO_step 3 [0] [0, 1, 2, 9] (True ∧ True) ⟨[(0, .one (.e (.sl 0 0 x1.length))), (1, I i2), (2, I i33), (9, B (decide (i2 < i33)))], [.row .nod x1 false]⟩ (by kernel_rfl) ⟨trivial, trivial⟩ ?_
    refine WO_nil rfl ?_
    refine thenS_n ?_
    refine iteO_e h (fun hb42 h => W_true rfl hb42 ?_) (fun hb42 h => W_false rfl hb42 ?_)
    · refine W_sub [0] [0, 1, 2] (st' := ⟨[(0, .one (.e (.sl 0 0 x1.length))), (1, I i2), (2, I i33)], [.row .nod x1 false]⟩) (by kernel_rfl) ?_
      refine W_skip ?_
      refine thenS_n ?_
      refine W_block ?_
      refine W_region ?_
      refine guardO_e h (fun hg44 h => ?_)
      refine WO_step 6 [0] [0, 1, 2] ((0 ≤ i33 ∧ i33 < ((x1.length : Nat) : Int)) ∧ (True ∧ True)) ⟨[(0, .one (.e (.sl 0 0 x1.length))), (1, I i2), (2, I ((x1.getD i33.toNat dnod).parent))], [.row .nod x1 false]⟩ (by kernel_rfl) ⟨hg44, trivial, trivial⟩ ?_
      refine WO_nil rfl ?_
      refine blockS_n ?_
      refine thenS_n ?_
      exact ih _ h
    · refine W_sub [0] [1, 2] (st' := ⟨[(1, I i2), (2, I i33)], [.row .nod x1 false]⟩) (by kernel_rfl) ?_
      refine W_exit ?_
      refine thenS_e ?_
      refine thenS_e ?_
      cases h
      exact And.intro rfl rfl

def impl_reaches (n : Nat) (x1 : List Nod) (i2 : Int) (i3 : Int) : Option (Bool) :=
 bindO (impl_reaches_L1 x1 i2 n i3) fun i39 =>
 some (decide (i39 = i2))

theorem impl_reaches_ok (n : Nat) (x1 : List Nod) (i2 : Int) (i3 : Int) (b24 : Bool) (h : impl_reaches n x1 i2 i3 = some b24) : FOk EE 79 [.one (.e (.sl 0 0 x1.length)), I i2, I i3] [.row .nod x1 false] (B b24) [.row .nod x1 false] := by
  unfold impl_reaches at h
  refine FOk_of_W 18 1 Try.func79 rfl rfl (Nat.le_of_ble_eq_true rfl) rfl (fun w X θ => ?_)
  refine W_seq ?_
  refine W_region ?_
  refine WO_step 1 [0] [0, 1, 2] True ⟨[(0, .one (.e (.sl 0 0 x1.length))), (1, I i2), (2, I i3)], [.row .nod x1 false]⟩ (by kernel_rfl) trivial ?_
  refine WO_nil rfl ?_
  refine thenS_n ?_
  refine W_seq ?_
  refine W_block ?_
  refine W_loop ?_
  refine bindO_e h (fun i39 hi39 h => ?_)
  refine WL_cut (impl_reaches_L1_ok w X θ x1 i2 i39 n i3 hi39) ?_
  rintro _ _ ⟨rfl, rfl⟩
  refine blockS_y ?_
  refine thenS_n ?_
  refine W_seq ?_
  refine W_region ?_
  refine WO_step 4 [0] [6] (True ∧ True) ⟨[(6, B (decide (i39 = i2)))], [.row .nod x1 false]⟩ (by kernel_rfl) ⟨trivial, trivial⟩ ?_
  refine WO_nil rfl ?_
  refine thenS_n ?_
  refine W_ret ?_
  cases h
  exact ⟨[0], True, by kernel_rfl, trivial⟩

/- impl.DropNode -/
def impl_DropNode_L1 (x1 : List Nod) (i2 : Int) : Nat → (List Int) → (List Nod) → Int → Option ((List Nod))
| 0, _, _, _ => none
| n + 1, x109, x110, i111 =>
 iteO (decide (i111 < ((x1.length : Nat) : Int)))
 (bindO (guardO (0 ≤ i111 ∧ i111 < ((x1.length : Nat) : Int)) <|
 bindO (impl_reaches n x1 i2 i111) fun b150 =>
 iteO b150
 (some (x109, x110))
 (guardO (0 ≤ i111 ∧ i111 < ((x109.length : Nat) : Int)) <|
 bindO (iteO (decide (0 < i111))
 (guardO (0 ≤ (x1.getD i111.toNat dnod).parent ∧ (x1.getD i111.toNat dnod).parent < (((x109.set i111.toNat ((x110.length : Nat) : Int)).length : Nat) : Int)) <|
 some ((x109.set i111.toNat ((x110.length : Nat) : Int)).getD (((x1.getD i111.toNat dnod).parent).toNat) 0))
 (some ((x1.getD i111.toNat dnod).parent))) fun i157 =>
 guardO (0 = 0 ∧ x110.length = x110.length ∧ x110.length + (([(⟨i157, (x1.getD i111.toNat dnod).name, (x1.getD i111.toNat dnod).value⟩ : Nod)].drop 0).take ([(⟨i157, (x1.getD i111.toNat dnod).name, (x1.getD i111.toNat dnod).value⟩ : Nod)].length)).length ≤ 1099511627776) <|
 some ((x109.set i111.toNat ((x110.length : Nat) : Int)), (x110 ++ (([(⟨i157, (x1.getD i111.toNat dnod).name, (x1.getD i111.toNat dnod).value⟩ : Nod)].drop 0).take ([(⟨i157, (x1.getD i111.toNat dnod).name, (x1.getD i111.toNat dnod).value⟩ : Nod)].length)))))) fun v148 =>
 match v148 with
 | (x146, x147) => (impl_DropNode_L1 x1 i2 n x146 x147 (w64 (i111 + 1)))
)
 (some x110)

theorem impl_DropNode_L1_ok (w : World) (X : Nat → Prop) (θ : List Loc) (x1 : List Nod) (i2 : Int) (x131 : (List Nod)) : ∀ (n : Nat) (x109 : List Int) (x110 : List Nod) (i111 : Int), impl_DropNode_L1 x1 i2 n x109 x110 i111 = some x131 → WL EE ⟨w, X, θ, 51, 1⟩ (subC [1, 1, 1, 1, 0, 1, 4, 4] (bodyC Try.f61)) (fun (e : Exit) (s : St) => e = .exit 0 ∧ s = ⟨[(7, .one (.e (.sl 1 0 x131.length)))], [.row .nod x1 false, .row .nod x131 true]⟩) ⟨[(0, .one (.e (.sl 0 0 x1.length))), (1, I i2), (6, .one (.e (.sl 1 0 x109.length))), (7, .one (.e (.sl 2 0 x110.length))), (21, .one (.e (.sl 0 0 x1.length))), (22, I ((x1.length : Nat) : Int)), (23, I i111)], [.row .nod x1 false, .row .int x109 true, .row .nod x110 true]⟩ := by
  intro n
  induction n with
  | zero => intro _ _ _ h; exact none_e h
  | succ n ih =>
    intro x109 x110 i111 h
    rw [impl_DropNode_L1] at h
    refine WL_round ?_
    refine W_seq ?_
    refine W_region ?_
    refine WO_step 1 [0, 1, 2] [0, 1, 6, 7, 21, 22, 23, 24] (True ∧ True) ⟨[(0, .one (.e (.sl 0 0 x1.length))), (1, I i2), (6, .one (.e (.sl 1 0 x109.length))), (7, .one (.e (.sl 2 0 x110.length))), (21, .one (.e (.sl 0 0 x1.length))), (22, I ((x1.length : Nat) : Int)), (23, I i111), (24, B (decide (i111 < ((x1.length : Nat) : Int))))], [.row .nod x1 false, .row .int x109 true, .row .nod x110 true]⟩ (by kernel_rfl) ⟨trivial, trivial⟩ ?_
    refine WO_nil rfl ?_
    refine thenS_n ?_
    refine W_seq ?_
    refine iteO_e h (fun hb134 h => W_true rfl hb134 ?_) (fun hb134 h => W_false rfl hb134 ?_)
    · refine W_sub [0, 1, 2] [0, 1, 6, 7, 21, 22, 23] (st' := ⟨[(0, .one (.e (.sl 0 0 x1.length))), (1, I i2), (6, .one (.e (.sl 1 0 x109.length))), (7, .one (.e (.sl 2 0 x110.length))), (21, .one (.e (.sl 0 0 x1.length))), (22, I ((x1.length : Nat) : Int)), (23, I i111)], [.row .nod x1 false, .row .int x109 true, .row .nod x110 true]⟩) (by kernel_rfl) ?_
      refine W_skip ?_
      refine thenS_n ?_
      refine W_seq ?_
      refine bindO_e h (fun v148 hv148 h => ?_)
      refine W_cut (Q' := fun (e : Exit) (s : St) => (match v148 with | (x146, x147) => e = .normal ∧ s = ⟨[(0, .one (.e (.sl 0 0 x1.length))), (1, I i2), (6, .one (.e (.sl 1 0 x146.length))), (7, .one (.e (.sl 2 0 x147.length))), (21, .one (.e (.sl 0 0 x1.length))), (22, I ((x1.length : Nat) : Int)), (23, I i111)], [.row .nod x1 false, .row .int x146 true, .row .nod x147 true]⟩ : Prop)) ?_ ?_
      · refine W_block ?_
        refine W_seq ?_
        refine W_region ?_
        refine guardO_e hv148 (fun hg149 hv148 => ?_)
        refine WO_step 6 [0, 1, 2, 3] [0, 1, 6, 7, 8, 9, 21, 22, 23] ((0 ≤ i111 ∧ i111 < ((x1.length : Nat) : Int)) ∧ (True ∧ (True ∧ (True ∧ True)))) ⟨[(0, .one (.e (.sl 0 0 x1.length))), (1, I i2), (6, .one (.e (.sl 1 0 x109.length))), (7, .one (.e (.sl 2 0 x110.length))), (8, I i111), (9, .one (.e (.p 3 0))), (21, .one (.e (.sl 0 0 x1.length))), (22, I ((x1.length : Nat) : Int)), (23, I i111)], [.row .nod x1 false, .row .int x109 true, .row .nod x110 true, .cells [cI ((x1.getD i111.toNat dnod).parent), cS ((x1.getD i111.toNat dnod).name), cI ((x1.getD i111.toNat dnod).value)]]⟩ (by kernel_rfl) ⟨hg149, trivial, trivial, trivial, trivial⟩ ?_
        refine WO_nil rfl ?_
        refine thenS_n ?_
        refine W_seq ?_
        refine W_seq ?_
        refine W_region ?_
        refine WO_step 3 [0, 1, 2, 3] [0, 1, 6, 7, 8, 9, 21, 22, 23, 28, 29, 30] True ⟨[(0, .one (.e (.sl 0 0 x1.length))), (1, I i2), (6, .one (.e (.sl 1 0 x109.length))), (7, .one (.e (.sl 2 0 x110.length))), (8, I i111), (9, .one (.e (.p 3 0))), (21, .one (.e (.sl 0 0 x1.length))), (22, I ((x1.length : Nat) : Int)), (23, I i111), (28, .one (.e (.sl 0 0 x1.length))), (29, I i2), (30, I i111)], [.row .nod x1 false, .row .int x109 true, .row .nod x110 true, .cells [cI ((x1.getD i111.toNat dnod).parent), cS ((x1.getD i111.toNat dnod).name), cI ((x1.getD i111.toNat dnod).value)]]⟩ (by kernel_rfl) trivial ?_
        refine bindO_e hv148 (fun b150 hc151 hv148 => ?_)
        refine WO_call [.ro 0] Try.f79 rfl rfl rfl (by kernel_rfl) Try.func79 rfl (by kernel_rfl) (impl_reaches_ok n x1 i2 i111 b150 hc151) (And.intro (And.intro rfl rfl) (trivial)) rfl ?_
        refine WO_sub [0, 1, 2, 3] [0, 1, 6, 7, 8, 9, 21, 22, 23, 31] (st' := ⟨[(0, .one (.e (.sl 0 0 x1.length))), (1, I i2), (6, .one (.e (.sl 1 0 x109.length))), (7, .one (.e (.sl 2 0 x110.length))), (8, I i111), (9, .one (.e (.p 3 0))), (21, .one (.e (.sl 0 0 x1.length))), (22, I ((x1.length : Nat) : Int)), (23, I i111), (31, B b150)], [.row .nod x1 false, .row .int x109 true, .row .nod x110 true, .cells [cI ((x1.getD i111.toNat dnod).parent), cS ((x1.getD i111.toNat dnod).name), cI ((x1.getD i111.toNat dnod).value)]]⟩) (by kernel_rfl) ?_
        refine WO_nil rfl ?_
        refine thenS_n ?_
        refine iteO_e hv148 (fun hb153 hv148 => W_true rfl hb153 ?_) (fun hb153 hv148 => W_false rfl hb153 ?_)
        · refine W_sub [0, 1, 2] [0, 1, 6, 7, 21, 22, 23] (st' := ⟨[(0, .one (.e (.sl 0 0 x1.length))), (1, I i2), (6, .one (.e (.sl 1 0 x109.length))), (7, .one (.e (.sl 2 0 x110.length))), (21, .one (.e (.sl 0 0 x1.length))), (22, I ((x1.length : Nat) : Int)), (23, I i111)], [.row .nod x1 false, .row .int x109 true, .row .nod x110 true]⟩) (by kernel_rfl) ?_
          refine W_exit ?_
          refine thenS_e ?_
          refine blockS_y ?_
          cases hv148
          exact And.intro rfl rfl
        · refine W_sub [0, 1, 2, 3] [0, 1, 6, 7, 8, 9, 21, 22, 23] (st' := ⟨[(0, .one (.e (.sl 0 0 x1.length))), (1, I i2), (6, .one (.e (.sl 1 0 x109.length))), (7, .one (.e (.sl 2 0 x110.length))), (8, I i111), (9, .one (.e (.p 3 0))), (21, .one (.e (.sl 0 0 x1.length))), (22, I ((x1.length : Nat) : Int)), (23, I i111)], [.row .nod x1 false, .row .int x109 true, .row .nod x110 true, .cells [cI ((x1.getD i111.toNat dnod).parent), cS ((x1.getD i111.toNat dnod).name), cI ((x1.getD i111.toNat dnod).value)]]⟩) (by kernel_rfl) ?_
          refine W_skip ?_
          refine thenS_n ?_
          refine W_seq ?_
          refine W_region ?_
          refine guardO_e hv148 (fun hg154 hv148 => ?_)
          refine WO_step 6 [0, 1, 2, 3] [0, 1, 6, 7, 8, 9, 21, 22, 23] (True ∧ ((0 ≤ i111 ∧ i111 < ((x109.length : Nat) : Int)) ∧ (True ∧ True))) ⟨[(0, .one (.e (.sl 0 0 x1.length))), (1, I i2), (6, .one (.e (.sl 1 0 x109.length))), (7, .one (.e (.sl 2 0 x110.length))), (8, I i111), (9, .one (.e (.p 3 0))), (21, .one (.e (.sl 0 0 x1.length))), (22, I ((x1.length : Nat) : Int)), (23, I i111)], [.row .nod x1 false, .row .int (x109.set i111.toNat ((x110.length : Nat) : Int)) true, .row .nod x110 true, .cells [cI ((x1.getD i111.toNat dnod).parent), cS ((x1.getD i111.toNat dnod).name), cI ((x1.getD i111.toNat dnod).value)]]⟩ (by kernel_rfl) ⟨trivial, hg154, trivial, trivial⟩ ?_
          refine WO_eq (st' := ⟨[(0, .one (.e (.sl 0 0 x1.length))), (1, I i2), (6, .one (.e (.sl 1 0 ((x109.set i111.toNat ((x110.length : Nat) : Int)).length)))), (7, .one (.e (.sl 2 0 x110.length))), (8, I i111), (9, .one (.e (.p 3 0))), (21, .one (.e (.sl 0 0 x1.length))), (22, I ((x1.length : Nat) : Int)), (23, I i111)], [.row .nod x1 false, .row .int (x109.set i111.toNat ((x110.length : Nat) : Int)) true, .row .nod x110 true, .cells [cI ((x1.getD i111.toNat dnod).parent), cS ((x1.getD i111.toNat dnod).name), cI ((x1.getD i111.toNat dnod).value)]]⟩) (by simp only [List.length_set]) ?_
          refine WO_nil rfl ?_
          refine thenS_n ?_
          refine W_seq ?_
          refine W_seq ?_
          refine W_region ?_
          refine WO_step 2 [0, 1, 2, 3] [0, 1, 6, 7, 9, 21, 22, 23, 38] (True ∧ True) ⟨[(0, .one (.e (.sl 0 0 x1.length))), (1, I i2), (6, .one (.e (.sl 1 0 ((x109.set i111.toNat ((x110.length : Nat) : Int)).length)))), (7, .one (.e (.sl 2 0 x110.length))), (9, .one (.e (.p 3 0))), (21, .one (.e (.sl 0 0 x1.length))), (22, I ((x1.length : Nat) : Int)), (23, I i111), (38, B (decide (0 < i111)))], [.row .nod x1 false, .row .int (x109.set i111.toNat ((x110.length : Nat) : Int)) true, .row .nod x110 true, .cells [cI ((x1.getD i111.toNat dnod).parent), cS ((x1.getD i111.toNat dnod).name), cI ((x1.getD i111.toNat dnod).value)]]⟩ (by kernel_rfl) ⟨trivial, trivial⟩ ?_
          refine WO_nil rfl ?_
          refine thenS_n ?_
          refine bindO_e hv148 (fun i157 hi157 hv148 => ?_)
          refine W_cut (Q' := fun (e : Exit) (s : St) => e = .normal ∧ s = ⟨[(0, .one (.e (.sl 0 0 x1.length))), (1, I i2), (6, .one (.e (.sl 1 0 ((x109.set i111.toNat ((x110.length : Nat) : Int)).length)))), (7, .one (.e (.sl 2 0 x110.length))), (9, .one (.e (.p 3 0))), (21, .one (.e (.sl 0 0 x1.length))), (22, I ((x1.length : Nat) : Int)), (23, I i111)], [.row .nod x1 false, .row .int (x109.set i111.toNat ((x110.length : Nat) : Int)) true, .row .nod x110 true, .cells [cI i157, cS ((x1.getD i111.toNat dnod).name), cI ((x1.getD i111.toNat dnod).value)]]⟩) ?_ ?_
          · refine iteO_e hi157 (fun hb159 hi157 => W_true rfl hb159 ?_) (fun hb159 hi157 => W_false rfl hb159 ?_)
            · refine W_region ?_
              refine guardO_e hi157 (fun hg160 hi157 => ?_)
              refine WO_step 7 [0, 1, 2, 3] [0, 1, 6, 7, 9, 21, 22, 23] (True ∧ ((0 ≤ (x1.getD i111.toNat dnod).parent ∧ (x1.getD i111.toNat dnod).parent < (((x109.set i111.toNat ((x110.length : Nat) : Int)).length : Nat) : Int)) ∧ (True ∧ (True ∧ True)))) ⟨[(0, .one (.e (.sl 0 0 x1.length))), (1, I i2), (6, .one (.e (.sl 1 0 ((x109.set i111.toNat ((x110.length : Nat) : Int)).length)))), (7, .one (.e (.sl 2 0 x110.length))), (9, .one (.e (.p 3 0))), (21, .one (.e (.sl 0 0 x1.length))), (22, I ((x1.length : Nat) : Int)), (23, I i111)], [.row .nod x1 false, .row .int (x109.set i111.toNat ((x110.length : Nat) : Int)) true, .row .nod x110 true, .cells [cI ((x109.set i111.toNat ((x110.length : Nat) : Int)).getD (((x1.getD i111.toNat dnod).parent).toNat) 0), cS ((x1.getD i111.toNat dnod).name), cI ((x1.getD i111.toNat dnod).value)]]⟩ (by kernel_rfl) ⟨trivial, hg160, trivial, trivial, trivial⟩ ?_
              refine WO_nil rfl ?_
              cases hi157
              exact And.intro rfl rfl
            · refine W_sub [0, 1, 2, 3] [0, 1, 6, 7, 9, 21, 22, 23] (st' := ⟨[(0, .one (.e (.sl 0 0 x1.length))), (1, I i2), (6, .one (.e (.sl 1 0 ((x109.set i111.toNat ((x110.length : Nat) : Int)).length)))), (7, .one (.e (.sl 2 0 x110.length))), (9, .one (.e (.p 3 0))), (21, .one (.e (.sl 0 0 x1.length))), (22, I ((x1.length : Nat) : Int)), (23, I i111)], [.row .nod x1 false, .row .int (x109.set i111.toNat ((x110.length : Nat) : Int)) true, .row .nod x110 true, .cells [cI ((x1.getD i111.toNat dnod).parent), cS ((x1.getD i111.toNat dnod).name), cI ((x1.getD i111.toNat dnod).value)]]⟩) (by kernel_rfl) ?_
              refine W_skip ?_
              cases hi157
              exact And.intro rfl rfl
          · rintro _ _ ⟨rfl, rfl⟩
            refine thenS_n ?_
            refine W_region ?_
            refine guardO_e hv148 (fun hg161 hv148 => ?_)
            refine WO_step 5 [0, 1, 5] [0, 1, 6, 7, 21, 22, 23] (True ∧ ((0 = 0 ∧ x110.length = x110.length ∧ x110.length + (([(⟨i157, (x1.getD i111.toNat dnod).name, (x1.getD i111.toNat dnod).value⟩ : Nod)].drop 0).take ([(⟨i157, (x1.getD i111.toNat dnod).name, (x1.getD i111.toNat dnod).value⟩ : Nod)].length)).length ≤ 1099511627776) ∧ True)) ⟨[(0, .one (.e (.sl 0 0 x1.length))), (1, I i2), (6, .one (.e (.sl 1 0 ((x109.set i111.toNat ((x110.length : Nat) : Int)).length)))), (7, .one (.e (.sl 2 0 ((x110 ++ (([(⟨i157, (x1.getD i111.toNat dnod).name, (x1.getD i111.toNat dnod).value⟩ : Nod)].drop 0).take ([(⟨i157, (x1.getD i111.toNat dnod).name, (x1.getD i111.toNat dnod).value⟩ : Nod)].length))).length)))), (21, .one (.e (.sl 0 0 x1.length))), (22, I ((x1.length : Nat) : Int)), (23, I i111)], [.row .nod x1 false, .row .int (x109.set i111.toNat ((x110.length : Nat) : Int)) true, .row .nod (x110 ++ (([(⟨i157, (x1.getD i111.toNat dnod).name, (x1.getD i111.toNat dnod).value⟩ : Nod)].drop 0).take ([(⟨i157, (x1.getD i111.toNat dnod).name, (x1.getD i111.toNat dnod).value⟩ : Nod)].length))) true]⟩ (by kernel_rfl) ⟨trivial, hg161, trivial⟩ ?_
            refine WO_nil rfl ?_
            refine blockS_n ?_
            cases hv148
            exact And.intro rfl rfl
      · obtain ⟨x146, x147⟩ := v148
        rintro _ _ ⟨rfl, rfl⟩
        refine thenS_n ?_
        refine W_region ?_
        refine WO_step 2 [0, 1, 2] [0, 1, 6, 7, 21, 22, 23] (True ∧ True) ⟨[(0, .one (.e (.sl 0 0 x1.length))), (1, I i2), (6, .one (.e (.sl 1 0 x146.length))), (7, .one (.e (.sl 2 0 x147.length))), (21, .one (.e (.sl 0 0 x1.length))), (22, I ((x1.length : Nat) : Int)), (23, I (w64 (i111 + 1)))], [.row .nod x1 false, .row .int x146 true, .row .nod x147 true]⟩ (by kernel_rfl) ⟨trivial, trivial⟩ ?_
        refine WO_nil rfl ?_
        refine thenS_n ?_
        exact ih _ _ _ h
    · refine W_sub [0, 2] [7] (st' := ⟨[(7, .one (.e (.sl 1 0 x110.length)))], [.row .nod x1 false, .row .nod x110 true]⟩) (by kernel_rfl) ?_
      refine W_exit ?_
      refine thenS_e ?_
      refine thenS_e ?_
      cases h
      exact And.intro rfl rfl

def impl_DropNode (n : Nat) (x1 : List Nod) (i2 : Int) : Option ((List Nod) × Bool) :=
 bindO (impl_isNode n x1 i2) fun b77 =>
 iteO ((!b77) || (decide (i2 = 0)))
 (some (([] : List Nod), false))
 (guardO ((((x1.length : Nat) : Int) : Int) = ((x1.length : Nat) : Int) ∧ 0 ≤ ((x1.length : Nat) : Int) ∧ ((x1.length : Nat) : Int) ≤ 1099511627776) <|
 bindO (impl_DropNode_L1 x1 i2 n (List.replicate (((x1.length : Nat) : Int).toNat) (0 : Int)) ([] : List Nod) 0) fun x131 =>
 some (x131, true))

theorem impl_DropNode_ok (n : Nat) (x1 : List Nod) (i2 : Int) (x75 : List Nod) (b76 : Bool) (h : impl_DropNode n x1 i2 = some (x75, b76)) : FOk EE 61 [.one (.e (.sl 0 0 x1.length)), I i2] [.row .nod x1 false] (.tup [.e (.sl 1 0 x75.length), .e (cB b76)]) [.row .nod x1 false, .row .nod x75 true] := by
  unfold impl_DropNode at h
  refine FOk_of_W 51 1 Try.func61 rfl rfl (Nat.le_of_ble_eq_true rfl) rfl (fun w X θ => ?_)
  refine W_seq ?_
  refine W_region ?_
  refine WO_step 2 [0] [0, 1] True ⟨[(0, .one (.e (.sl 0 0 x1.length))), (1, I i2)], [.row .nod x1 false]⟩ (by kernel_rfl) trivial ?_
  refine WO_nil rfl ?_
  refine thenS_n ?_
  refine W_seq ?_
  refine W_seq ?_
  refine W_region ?_
  refine WO_step 2 [0] [0, 1, 10, 11] True ⟨[(0, .one (.e (.sl 0 0 x1.length))), (1, I i2), (10, .one (.e (.sl 0 0 x1.length))), (11, I i2)], [.row .nod x1 false]⟩ (by kernel_rfl) trivial ?_
  refine bindO_e h (fun b77 hc78 h => ?_)
  refine WO_call [.ro 0] Try.f71 rfl rfl rfl (by kernel_rfl) Try.func71 rfl (by kernel_rfl) (impl_isNode_ok n x1 i2 b77 hc78) (And.intro (And.intro rfl rfl) (trivial)) rfl ?_
  refine WO_step 2 [0] [0, 1, 14] True ⟨[(0, .one (.e (.sl 0 0 x1.length))), (1, I i2), (14, B (!b77))], [.row .nod x1 false]⟩ (by kernel_rfl) trivial ?_
  refine WO_thru ⟨[(0, .one (.e (.sl 0 0 x1.length))), (1, I i2), (17, B ((!b77) || (decide (i2 = 0))))], [.row .nod x1 false]⟩ ?_ ?_
  · refine WO_if 14 rfl (fun hb81 => ?_) (fun hb81 => ?_)
    · refine WO_step 3 [0] [0, 1, 17] True ⟨[(0, .one (.e (.sl 0 0 x1.length))), (1, I i2), (17, B true)], [.row .nod x1 false]⟩ (by kernel_rfl) trivial ?_
      exact WO_nil rfl ⟨rfl, by first | rfl | (rw [hb81]; first | done | rfl)⟩
    · refine WO_step 3 [0] [0, 1, 17] (True ∧ True) ⟨[(0, .one (.e (.sl 0 0 x1.length))), (1, I i2), (17, B (decide (i2 = 0)))], [.row .nod x1 false]⟩ (by kernel_rfl) ⟨trivial, trivial⟩ ?_
      exact WO_nil rfl ⟨rfl, by first | rfl | (rw [hb81]; first | done | rfl)⟩
  · refine thenS_n ?_
    refine iteO_e h (fun hb83 h => W_true rfl hb83 ?_) (fun hb83 h => W_false rfl hb83 ?_)
    · refine W_seq ?_
      refine W_region ?_
      refine WO_step 2 [0] [4, 5] True ⟨[(4, .one (.e (.nsl))), (5, B false)], [.row .nod x1 false]⟩ (by kernel_rfl) trivial ?_
      refine WO_nilrow 4 .nod rfl ?_
      refine WO_sub [0, 1] [4, 5] (st' := ⟨[(4, .one (.e (.sl 1 0 (([] : List Nod).length)))), (5, B false)], [.row .nod x1 false, .row .nod ([] : List Nod) true]⟩) (by kernel_rfl) ?_
      refine WO_nil rfl ?_
      refine thenS_n ?_
      refine W_ret ?_
      refine thenS_r ?_
      cases h
      exact ⟨[0, 1], True, by kernel_rfl, trivial⟩
    · refine W_sub [0] [0, 1] (st' := ⟨[(0, .one (.e (.sl 0 0 x1.length))), (1, I i2)], [.row .nod x1 false]⟩) (by kernel_rfl) ?_
      refine W_skip ?_
      refine thenS_n ?_
      refine W_seq ?_
      refine W_region ?_
      refine guardO_e h (fun hg84 h => ?_)
      refine WO_step 4 [0, 1] [0, 1, 6] (True ∧ (((((x1.length : Nat) : Int) : Int) = ((x1.length : Nat) : Int) ∧ 0 ≤ ((x1.length : Nat) : Int) ∧ ((x1.length : Nat) : Int) ≤ 1099511627776) ∧ True)) ⟨[(0, .one (.e (.sl 0 0 x1.length))), (1, I i2), (6, .one (.e (.sl 1 0 ((List.replicate (((x1.length : Nat) : Int).toNat) (0 : Int)).length))))], [.row .nod x1 false, .row .int (List.replicate (((x1.length : Nat) : Int).toNat) (0 : Int)) true]⟩ (by kernel_rfl) ⟨trivial, hg84, trivial⟩ ?_
      refine WO_nil rfl ?_
      refine thenS_n ?_
      refine W_seq ?_
      refine W_region ?_
      refine WO_step 1 [0, 1] [0, 1, 6, 7] True ⟨[(0, .one (.e (.sl 0 0 x1.length))), (1, I i2), (6, .one (.e (.sl 1 0 ((List.replicate (((x1.length : Nat) : Int).toNat) (0 : Int)).length)))), (7, .one (.e (.nsl)))], [.row .nod x1 false, .row .int (List.replicate (((x1.length : Nat) : Int).toNat) (0 : Int)) true]⟩ (by kernel_rfl) trivial ?_
      refine WO_nilrow 7 .nod rfl ?_
      refine WO_sub [0, 1, 2] [0, 1, 6, 7] (st' := ⟨[(0, .one (.e (.sl 0 0 x1.length))), (1, I i2), (6, .one (.e (.sl 1 0 ((List.replicate (((x1.length : Nat) : Int).toNat) (0 : Int)).length)))), (7, .one (.e (.sl 2 0 (([] : List Nod).length))))], [.row .nod x1 false, .row .int (List.replicate (((x1.length : Nat) : Int).toNat) (0 : Int)) true, .row .nod ([] : List Nod) true]⟩) (by kernel_rfl) ?_
      refine WO_nil rfl ?_
      refine thenS_n ?_
      refine W_seq ?_
      refine W_seq ?_
      refine W_region ?_
      refine WO_step 3 [0, 1, 2] [0, 1, 6, 7, 21, 22, 23] (True ∧ True) ⟨[(0, .one (.e (.sl 0 0 x1.length))), (1, I i2), (6, .one (.e (.sl 1 0 ((List.replicate (((x1.length : Nat) : Int).toNat) (0 : Int)).length)))), (7, .one (.e (.sl 2 0 (([] : List Nod).length)))), (21, .one (.e (.sl 0 0 x1.length))), (22, I ((x1.length : Nat) : Int)), (23, I 0)], [.row .nod x1 false, .row .int (List.replicate (((x1.length : Nat) : Int).toNat) (0 : Int)) true, .row .nod ([] : List Nod) true]⟩ (by kernel_rfl) ⟨trivial, trivial⟩ ?_
      refine WO_nil rfl ?_
      refine thenS_n ?_
      refine W_block ?_
      refine W_loop ?_
      refine bindO_e h (fun x131 hx131 h => ?_)
      refine WL_cut (impl_DropNode_L1_ok w X θ x1 i2 x131 n (List.replicate (((x1.length : Nat) : Int).toNat) (0 : Int)) ([] : List Nod) 0 hx131) ?_
      rintro _ _ ⟨rfl, rfl⟩
      refine blockS_y ?_
      refine thenS_n ?_
      refine W_seq ?_
      refine W_region ?_
      refine WO_step 3 [0, 1] [4, 5] True ⟨[(4, .one (.e (.sl 1 0 x131.length))), (5, B true)], [.row .nod x1 false, .row .nod x131 true]⟩ (by kernel_rfl) trivial ?_
      refine WO_nil rfl ?_
      refine thenS_n ?_
      refine W_ret ?_
      cases h
      exact ⟨[0, 1], True, by kernel_rfl, trivial⟩

/- impl.SetValue -/
def impl_SetValue (n : Nat) (x1 : List Nod) (i2 : Int) (i3 : Int) : Option ((List Nod) × Bool) :=
 bindO (impl_isNode n x1 i2) fun b16 =>
 iteO ((!b16) || (!(impl_within i3 (-1000) 1000)))
 (some (([] : List Nod), false))
 (bindO (slices_Clone_Node x1) fun x23 =>
 guardO (0 ≤ i2 ∧ i2 < ((x23.length : Nat) : Int)) <|
 some ((x23.set i2.toNat (⟨(x23.getD i2.toNat dnod).parent, (x23.getD i2.toNat dnod).name, i3⟩ : Nod)), true))

theorem impl_SetValue_ok (n : Nat) (x1 : List Nod) (i2 : Int) (i3 : Int) (x14 : List Nod) (b15 : Bool) (h : impl_SetValue n x1 i2 i3 = some (x14, b15)) : FOk EE 62 [.one (.e (.sl 0 0 x1.length)), I i2, I i3] [.row .nod x1 false] (.tup [.e (.sl 1 0 x14.length), .e (cB b15)]) [.row .nod x1 false, .row .nod x14 true] := by
  unfold impl_SetValue at h
  refine FOk_of_W 26 1 Try.func62 rfl rfl (Nat.le_of_ble_eq_true rfl) rfl (fun w X θ => ?_)
  refine W_seq ?_
  refine W_region ?_
  refine WO_step 2 [0] [0, 1, 2] True ⟨[(0, .one (.e (.sl 0 0 x1.length))), (1, I i2), (2, I i3)], [.row .nod x1 false]⟩ (by kernel_rfl) trivial ?_
  refine WO_nil rfl ?_
  refine thenS_n ?_
  refine W_seq ?_
  refine W_seq ?_
  refine W_region ?_
  refine WO_step 2 [0] [0, 1, 2, 9, 10] True ⟨[(0, .one (.e (.sl 0 0 x1.length))), (1, I i2), (2, I i3), (9, .one (.e (.sl 0 0 x1.length))), (10, I i2)], [.row .nod x1 false]⟩ (by kernel_rfl) trivial ?_
  refine bindO_e h (fun b16 hc17 h => ?_)
  refine WO_call [.ro 0] Try.f71 rfl rfl rfl (by kernel_rfl) Try.func71 rfl (by kernel_rfl) (impl_isNode_ok n x1 i2 b16 hc17) (And.intro (And.intro rfl rfl) (trivial)) rfl ?_
  refine WO_step 2 [0] [0, 1, 2, 13] True ⟨[(0, .one (.e (.sl 0 0 x1.length))), (1, I i2), (2, I i3), (13, B (!b16))], [.row .nod x1 false]⟩ (by kernel_rfl) trivial ?_
  refine WO_thru ⟨[(0, .one (.e (.sl 0 0 x1.length))), (1, I i2), (2, I i3), (17, B ((!b16) || (!(impl_within i3 (-1000) 1000))))], [.row .nod x1 false]⟩ ?_ ?_
  · refine WO_if 13 rfl (fun hb20 => ?_) (fun hb20 => ?_)
    · refine WO_step 4 [0] [0, 1, 2, 17] True ⟨[(0, .one (.e (.sl 0 0 x1.length))), (1, I i2), (2, I i3), (17, B true)], [.row .nod x1 false]⟩ (by kernel_rfl) trivial ?_
      exact WO_nil rfl ⟨rfl, by first | rfl | (rw [hb20]; first | done | rfl)⟩
    · refine WO_step 1 [0] [0, 1, 2, 13, 14] True ⟨[(0, .one (.e (.sl 0 0 x1.length))), (1, I i2), (2, I i3), (13, B false), (14, I i3)], [.row .nod x1 false]⟩ (by kernel_rfl) trivial ?_
      refine WO_call [] Try.f39 rfl rfl rfl (by kernel_rfl) Try.func39 rfl (by kernel_rfl) (impl_within_ok i3 (-1000) 1000) (trivial) rfl ?_
      refine WO_step 2 [0] [0, 1, 2, 17] True ⟨[(0, .one (.e (.sl 0 0 x1.length))), (1, I i2), (2, I i3), (17, B (!(impl_within i3 (-1000) 1000)))], [.row .nod x1 false]⟩ (by kernel_rfl) trivial ?_
      exact WO_nil rfl ⟨rfl, by first | rfl | (rw [hb20]; first | done | rfl)⟩
  · refine thenS_n ?_
    refine iteO_e h (fun hb22 h => W_true rfl hb22 ?_) (fun hb22 h => W_false rfl hb22 ?_)
    · refine W_seq ?_
      refine W_region ?_
      refine WO_step 2 [0] [6, 7] True ⟨[(6, .one (.e (.nsl))), (7, B false)], [.row .nod x1 false]⟩ (by kernel_rfl) trivial ?_
      refine WO_nilrow 6 .nod rfl ?_
      refine WO_sub [0, 1] [6, 7] (st' := ⟨[(6, .one (.e (.sl 1 0 (([] : List Nod).length)))), (7, B false)], [.row .nod x1 false, .row .nod ([] : List Nod) true]⟩) (by kernel_rfl) ?_
      refine WO_nil rfl ?_
      refine thenS_n ?_
      refine W_ret ?_
      refine thenS_r ?_
      cases h
      exact ⟨[0, 1], True, by kernel_rfl, trivial⟩
    · refine W_sub [0] [0, 1, 2] (st' := ⟨[(0, .one (.e (.sl 0 0 x1.length))), (1, I i2), (2, I i3)], [.row .nod x1 false]⟩) (by kernel_rfl) ?_
      refine W_skip ?_
      refine thenS_n ?_
      refine W_seq ?_
      refine W_region ?_
      refine WO_step 1 [0] [1, 2, 18] True ⟨[(1, I i2), (2, I i3), (18, .one (.e (.sl 0 0 x1.length)))], [.row .nod x1 false]⟩ (by kernel_rfl) trivial ?_
      refine bindO_e h (fun x23 hc24 h => ?_)
      refine WO_call [.ro 0] Try.f35 rfl rfl rfl (by kernel_rfl) Try.func35 rfl (by kernel_rfl) (slices_Clone_Node_ok x1 x23 hc24) (And.intro (And.intro rfl rfl) (trivial)) rfl ?_
      refine WO_step 1 [0, 1] [1, 2, 8] True ⟨[(1, I i2), (2, I i3), (8, .one (.e (.sl 1 0 x23.length)))], [.row .nod x1 false, .row .nod x23 true]⟩ (by kernel_rfl) trivial ?_
      refine WO_nil rfl ?_
      refine thenS_n ?_
      refine W_seq ?_
      refine W_region ?_
      refine guardO_e h (fun hg25 h => ?_)
      refine WO_step 6 [0, 1] [8] ((0 ≤ i2 ∧ i2 < ((x23.length : Nat) : Int)) ∧ (True ∧ True)) ⟨[(8, .one (.e (.sl 1 0 x23.length)))], [.row .nod x1 false, .row .nod (x23.set i2.toNat (⟨(x23.getD i2.toNat dnod).parent, (x23.getD i2.toNat dnod).name, i3⟩ : Nod)) true]⟩ (by kernel_rfl) ⟨hg25, trivial, trivial⟩ ?_
      refine WO_eq (st' := ⟨[(8, .one (.e (.sl 1 0 ((x23.set i2.toNat (⟨(x23.getD i2.toNat dnod).parent, (x23.getD i2.toNat dnod).name, i3⟩ : Nod)).length))))], [.row .nod x1 false, .row .nod (x23.set i2.toNat (⟨(x23.getD i2.toNat dnod).parent, (x23.getD i2.toNat dnod).name, i3⟩ : Nod)) true]⟩) (by simp only [List.length_set]) ?_
      refine WO_nil rfl ?_
      refine thenS_n ?_
      refine W_seq ?_
      refine W_region ?_
      refine WO_step 3 [0, 1] [6, 7] True ⟨[(6, .one (.e (.sl 1 0 ((x23.set i2.toNat (⟨(x23.getD i2.toNat dnod).parent, (x23.getD i2.toNat dnod).name, i3⟩ : Nod)).length)))), (7, B true)], [.row .nod x1 false, .row .nod (x23.set i2.toNat (⟨(x23.getD i2.toNat dnod).parent, (x23.getD i2.toNat dnod).name, i3⟩ : Nod)) true]⟩ (by kernel_rfl) trivial ?_
      refine WO_nil rfl ?_
      refine thenS_n ?_
      refine W_ret ?_
      cases h
      exact ⟨[0, 1], True, by kernel_rfl, trivial⟩

/- bytealg.LastIndexByteString -/
def bytealg_LastIndexByteString_L1 (s1 : Str) (i2 : Int) : Nat → Int → Option ((Int) ⊕ (Unit))
| 0, _ => none
| n + 1, i48 =>
 iteO (decide (0 ≤ i48))
 (guardO (0 ≤ i48 ∧ i48 < ((s1.length : Nat) : Int)) <|
 iteO (decide (((s1.getD i48.toNat 0).toNat : Int) = i2))
 (some (.inl i48))
 (bytealg_LastIndexByteString_L1 s1 i2 n (w64 (i48 - 1))))
 (some (.inr ()))

theorem bytealg_LastIndexByteString_L1_ok (w : World) (X : Nat → Prop) (θ : List Loc) (s1 : Str) (i2 : Int) (v : (Int) ⊕ (Unit)) : ∀ (n : Nat) (i48 : Int), bytealg_LastIndexByteString_L1 s1 i2 n i48 = some v → WL EE ⟨w, X, θ, 19, 0⟩ (subC [1, 0, 1, 4, 4] (bodyC Try.f94)) (fun (e : Exit) (s : St) => (match v with | (.inl i58) => e = .ret ∧ s = ⟨[(4, I i58)], []⟩ | (.inr _) => e = .exit 0 ∧ s = ⟨[], []⟩ : Prop)) ⟨[(0, S s1), (1, U i2), (5, I i48)], []⟩ := by
  intro n
  induction n with
  | zero => intro _ h; exact none_e h
  | succ n ih =>
    intro i48 h
    rw [bytealg_LastIndexByteString_L1] at h
    refine WL_round ?_
    refine W_seq ?_
    refine W_seq ?_
    refine W_region ?_
    refine WO_step 2 [] [0, 1, 5, 10] (True ∧ True) ⟨[(0, S s1), (1, U i2), (5, I i48), (10, B (decide (0 ≤ i48)))], []⟩ (by kernel_rfl) ⟨trivial, trivial⟩ ?_
    refine WO_nil rfl ?_
    refine thenS_n ?_
    refine iteO_e h (fun hb61 h => W_true rfl hb61 ?_) (fun hb61 h => W_false rfl hb61 ?_)
    · refine W_sub [] [0, 1, 5] (st' := ⟨[(0, S s1), (1, U i2), (5, I i48)], []⟩) (by kernel_rfl) ?_
      refine W_skip ?_
      refine thenS_n ?_
      refine W_seq ?_
      refine W_block ?_
      refine W_seq ?_
      refine W_region ?_
      refine guardO_e h (fun hg65 h => ?_)
      refine WO_step 5 [] [0, 1, 5, 17] ((0 ≤ i48 ∧ i48 < ((s1.length : Nat) : Int)) ∧ (True ∧ True)) ⟨[(0, S s1), (1, U i2), (5, I i48), (17, B (decide (((s1.getD i48.toNat 0).toNat : Int) = i2)))], []⟩ (by kernel_rfl) ⟨hg65, trivial, trivial⟩ ?_
      refine WO_nil rfl ?_
      refine thenS_n ?_
      refine iteO_e h (fun hb67 h => W_true rfl hb67 ?_) (fun hb67 h => W_false rfl hb67 ?_)
      · refine W_seq ?_
        refine W_region ?_
        refine WO_step 2 [] [4] True ⟨[(4, I i48)], []⟩ (by kernel_rfl) trivial ?_
        refine WO_nil rfl ?_
        refine thenS_n ?_
        refine W_ret ?_
        refine blockS_r ?_
        refine thenS_r ?_
        refine thenS_r ?_
        cases h
        exact And.intro rfl rfl
      · refine W_sub [] [0, 1, 5] (st' := ⟨[(0, S s1), (1, U i2), (5, I i48)], []⟩) (by kernel_rfl) ?_
        refine W_skip ?_
        refine blockS_n ?_
        refine thenS_n ?_
        refine W_region ?_
        refine WO_step 3 [] [0, 1, 5] (True ∧ True) ⟨[(0, S s1), (1, U i2), (5, I (w64 (i48 - 1)))], []⟩ (by kernel_rfl) ⟨trivial, trivial⟩ ?_
        refine WO_nil rfl ?_
        refine thenS_n ?_
        exact ih _ h
    · refine W_sub [] [] (st' := ⟨[], []⟩) (by kernel_rfl) ?_
      refine W_exit ?_
      refine thenS_e ?_
      refine thenS_e ?_
      cases h
      exact And.intro rfl rfl

def bytealg_LastIndexByteString (n : Nat) (s1 : Str) (i2 : Int) : Option (Int) :=
 bindO (bytealg_LastIndexByteString_L1 s1 i2 n (w64 (((s1.length : Nat) : Int) - 1))) fun v68 =>
 match v68 with
 | (.inl i58) => (some i58)
 | (.inr _) => (some (-1))


theorem bytealg_LastIndexByteString_ok (n : Nat) (s1 : Str) (i2 : Int) (i35 : Int) (h : bytealg_LastIndexByteString n s1 i2 = some i35) : FOk EE 94 [S s1, U i2] [] (I i35) [] := by
  unfold bytealg_LastIndexByteString at h
  refine FOk_of_W 19 0 Try.func94 rfl rfl (Nat.le_of_ble_eq_true rfl) rfl (fun w X θ => ?_)
  refine W_seq ?_
  refine W_region ?_
  refine WO_step 1 [] [0, 1] True ⟨[(0, S s1), (1, U i2)], []⟩ (by kernel_rfl) trivial ?_
  refine WO_nil rfl ?_
  refine thenS_n ?_
  refine W_seq ?_
  refine W_seq ?_
  refine W_region ?_
  refine WO_step 4 [] [0, 1, 5] (True ∧ (True ∧ True)) ⟨[(0, S s1), (1, U i2), (5, I (w64 (((s1.length : Nat) : Int) - 1)))], []⟩ (by kernel_rfl) ⟨trivial, trivial, trivial⟩ ?_
  refine WO_nil rfl ?_
  refine thenS_n ?_
  refine W_block ?_
  refine W_loop ?_
  refine bindO_e h (fun v68 hv68 h => ?_)
  refine WL_cut (bytealg_LastIndexByteString_L1_ok w X θ s1 i2 v68 n (w64 (((s1.length : Nat) : Int) - 1)) hv68) ?_
  rcases v68 with i58 | _
  · rintro _ _ ⟨rfl, rfl⟩
    refine blockS_r ?_
    refine thenS_r ?_
    cases h
    exact ⟨[], True, by kernel_rfl, trivial⟩
  · rintro _ _ ⟨rfl, rfl⟩
    refine blockS_y ?_
    refine thenS_n ?_
    refine W_seq ?_
    refine W_region ?_
    refine WO_step 1 [] [4] True ⟨[(4, I (-1))], []⟩ (by kernel_rfl) trivial ?_
    refine WO_nil rfl ?_
    refine thenS_n ?_
    refine W_ret ?_
    cases h
    exact ⟨[], True, by kernel_rfl, trivial⟩

/- strings.LastIndexByte -/
def strings_LastIndexByte (n : Nat) (s1 : Str) (i2 : Int) : Option (Int) :=
 bindO (bytealg_LastIndexByteString n s1 i2) fun i6 =>
 some i6

theorem strings_LastIndexByte_ok (n : Nat) (s1 : Str) (i2 : Int) (i5 : Int) (h : strings_LastIndexByte n s1 i2 = some i5) : FOk EE 82 [S s1, U i2] [] (I i5) [] := by
  unfold strings_LastIndexByte at h
  refine FOk_of_W 8 0 Try.func82 rfl rfl (Nat.le_of_ble_eq_true rfl) rfl (fun w X θ => ?_)
  refine W_seq ?_
  refine W_region ?_
  refine WO_step 1 [] [0, 1] True ⟨[(0, S s1), (1, U i2)], []⟩ (by kernel_rfl) trivial ?_
  refine WO_nil rfl ?_
  refine thenS_n ?_
  refine W_seq ?_
  refine W_region ?_
  refine WO_step 2 [] [5, 6] True ⟨[(5, S s1), (6, U i2)], []⟩ (by kernel_rfl) trivial ?_
  refine bindO_e h (fun i6 hc7 h => ?_)
  refine WO_call [] Try.f94 rfl rfl rfl (by kernel_rfl) Try.func94 rfl (by kernel_rfl) (bytealg_LastIndexByteString_ok n s1 i2 i6 hc7) (trivial) rfl ?_
  refine WO_step 1 [] [4] True ⟨[(4, I i6)], []⟩ (by kernel_rfl) trivial ?_
  refine WO_nil rfl ?_
  refine thenS_n ?_
  refine W_ret ?_
  cases h
  exact ⟨[], True, by kernel_rfl, trivial⟩

/- impl.upperNode -/
def impl_upperNode (n : Nat) (x1 : List Nod) (s2 : Str) : Option (Int) :=
 bindO (strings_LastIndexByte n s2 47) fun i13 =>
 iteO (decide (i13 < 0))
 (some (-1))
 (iteO (decide (i13 = 0))
 (some 0)
 (guardO (0 ≤ i13 ∧ i13 ≤ ((s2.length : Nat) : Int)) <|
 bindO (impl_ResolvePath n x1 (s2.take i13.toNat)) fun i20 =>
 some i20))

theorem impl_upperNode_ok (n : Nat) (x1 : List Nod) (s2 : Str) (i12 : Int) (h : impl_upperNode n x1 s2 = some i12) : FOk EE 81 [.one (.e (.sl 0 0 x1.length)), S s2] [.row .nod x1 false] (I i12) [.row .nod x1 false] := by
  unfold impl_upperNode at h
  refine FOk_of_W 17 1 Try.func81 rfl rfl (Nat.le_of_ble_eq_true rfl) rfl (fun w X θ => ?_)
  refine W_seq ?_
  refine W_region ?_
  refine WO_step 1 [0] [0, 1] True ⟨[(0, .one (.e (.sl 0 0 x1.length))), (1, S s2)], [.row .nod x1 false]⟩ (by kernel_rfl) trivial ?_
  refine WO_nil rfl ?_
  refine thenS_n ?_
  refine W_seq ?_
  refine W_region ?_
  refine WO_step 1 [0] [0, 1, 6] True ⟨[(0, .one (.e (.sl 0 0 x1.length))), (1, S s2), (6, S s2)], [.row .nod x1 false]⟩ (by kernel_rfl) trivial ?_
  refine bindO_e h (fun i13 hc14 h => ?_)
  refine WO_call [] Try.f82 rfl rfl rfl (by kernel_rfl) Try.func82 rfl (by kernel_rfl) (strings_LastIndexByte_ok n s2 47 i13 hc14) (trivial) rfl ?_
  refine WO_step 1 [0] [0, 1, 5] True ⟨[(0, .one (.e (.sl 0 0 x1.length))), (1, S s2), (5, I i13)], [.row .nod x1 false]⟩ (by kernel_rfl) trivial ?_
  refine WO_nil rfl ?_
  refine thenS_n ?_
  refine W_seq ?_
  refine W_seq ?_
  refine W_region ?_
  refine WO_step 2 [0] [0, 1, 5, 9] (True ∧ True) ⟨[(0, .one (.e (.sl 0 0 x1.length))), (1, S s2), (5, I i13), (9, B (decide (i13 < 0)))], [.row .nod x1 false]⟩ (by kernel_rfl) ⟨trivial, trivial⟩ ?_
  refine WO_nil rfl ?_
  refine thenS_n ?_
  refine iteO_e h (fun hb16 h => W_true rfl hb16 ?_) (fun hb16 h => W_false rfl hb16 ?_)
  · refine W_seq ?_
    refine W_region ?_
    refine WO_step 1 [0] [4] True ⟨[(4, I (-1))], [.row .nod x1 false]⟩ (by kernel_rfl) trivial ?_
    refine WO_nil rfl ?_
    refine thenS_n ?_
    refine W_ret ?_
    refine thenS_r ?_
    cases h
    exact ⟨[0], True, by kernel_rfl, trivial⟩
  · refine W_sub [0] [0, 1, 5] (st' := ⟨[(0, .one (.e (.sl 0 0 x1.length))), (1, S s2), (5, I i13)], [.row .nod x1 false]⟩) (by kernel_rfl) ?_
    refine W_skip ?_
    refine thenS_n ?_
    refine W_seq ?_
    refine W_seq ?_
    refine W_region ?_
    refine WO_step 2 [0] [0, 1, 5, 11] (True ∧ True) ⟨[(0, .one (.e (.sl 0 0 x1.length))), (1, S s2), (5, I i13), (11, B (decide (i13 = 0)))], [.row .nod x1 false]⟩ (by kernel_rfl) ⟨trivial, trivial⟩ ?_
    refine WO_nil rfl ?_
    refine thenS_n ?_
    refine iteO_e h (fun hb18 h => W_true rfl hb18 ?_) (fun hb18 h => W_false rfl hb18 ?_)
    · refine W_seq ?_
      refine W_region ?_
      refine WO_step 1 [0] [4] True ⟨[(4, I 0)], [.row .nod x1 false]⟩ (by kernel_rfl) trivial ?_
      refine WO_nil rfl ?_
      refine thenS_n ?_
      refine W_ret ?_
      refine thenS_r ?_
      cases h
      exact ⟨[0], True, by kernel_rfl, trivial⟩
    · refine W_sub [0] [0, 1, 5] (st' := ⟨[(0, .one (.e (.sl 0 0 x1.length))), (1, S s2), (5, I i13)], [.row .nod x1 false]⟩) (by kernel_rfl) ?_
      refine W_skip ?_
      refine thenS_n ?_
      refine W_seq ?_
      refine W_region ?_
      refine guardO_e h (fun hg19 h => ?_)
      refine WO_step 4 [0] [12, 15] ((0 ≤ i13 ∧ i13 ≤ ((s2.length : Nat) : Int)) ∧ True) ⟨[(12, .one (.e (.sl 0 0 x1.length))), (15, S (s2.take i13.toNat))], [.row .nod x1 false]⟩ (by kernel_rfl) ⟨hg19, trivial⟩ ?_
      refine bindO_e h (fun i20 hc21 h => ?_)
      refine WO_call [.ro 0] Try.f14 rfl rfl rfl (by kernel_rfl) Try.func14 rfl (by kernel_rfl) (impl_ResolvePath_ok n x1 (s2.take i13.toNat) i20 hc21) (And.intro (And.intro rfl rfl) (trivial)) rfl ?_
      refine WO_step 1 [0] [4] True ⟨[(4, I i20)], [.row .nod x1 false]⟩ (by kernel_rfl) trivial ?_
      refine WO_nil rfl ?_
      refine thenS_n ?_
      refine W_ret ?_
      cases h
      exact ⟨[0], True, by kernel_rfl, trivial⟩

/- impl.AddNode -/
def impl_AddNode (n : Nat) (x1 : List Nod) (i2 : Int) (s3 : Str) (i4 : Int) : Option ((List Nod) × Int × Bool) :=
 bindO (impl_ValidTree n x1) fun b19 =>
 iteO (!b19)
 (some (([] : List Nod), (-1), false))
 (bindO (slices_Clone_Node x1) fun x23 =>
 guardO (0 = 0 ∧ x23.length = x23.length ∧ x23.length + (([(⟨i2, s3, i4⟩ : Nod)].drop 0).take ([(⟨i2, s3, i4⟩ : Nod)].length)).length ≤ 1099511627776) <|
 bindO (impl_ValidTree n (x23 ++ (([(⟨i2, s3, i4⟩ : Nod)].drop 0).take ([(⟨i2, s3, i4⟩ : Nod)].length)))) fun b26 =>
 iteO (!b26)
 (some (([] : List Nod), (-1), false))
 (some ((x23 ++ (([(⟨i2, s3, i4⟩ : Nod)].drop 0).take ([(⟨i2, s3, i4⟩ : Nod)].length))), ((x1.length : Nat) : Int), true)))

theorem impl_AddNode_ok (n : Nat) (x1 : List Nod) (i2 : Int) (s3 : Str) (i4 : Int) (x16 : List Nod) (i17 : Int) (b18 : Bool) (h : impl_AddNode n x1 i2 s3 i4 = some (x16, i17, b18)) : FOk EE 80 [.one (.e (.sl 0 0 x1.length)), I i2, S s3, I i4] [.row .nod x1 false] (.tup [.e (.sl 1 0 x16.length), .e (cI i17), .e (cB b18)]) [.row .nod x1 false, .row .nod x16 true] := by
  unfold impl_AddNode at h
  refine FOk_of_W 29 1 Try.func80 rfl rfl (Nat.le_of_ble_eq_true rfl) rfl (fun w X θ => ?_)
  refine W_seq ?_
  refine W_region ?_
  refine WO_step 3 [0] [0, 1, 2, 3] True ⟨[(0, .one (.e (.sl 0 0 x1.length))), (1, I i2), (2, S s3), (3, I i4)], [.row .nod x1 false]⟩ (by kernel_rfl) trivial ?_
  refine WO_nil rfl ?_
  refine thenS_n ?_
  refine W_seq ?_
  refine W_seq ?_
  refine W_region ?_
  refine WO_step 1 [0] [0, 1, 2, 3, 12] True ⟨[(0, .one (.e (.sl 0 0 x1.length))), (1, I i2), (2, S s3), (3, I i4), (12, .one (.e (.sl 0 0 x1.length)))], [.row .nod x1 false]⟩ (by kernel_rfl) trivial ?_
  refine bindO_e h (fun b19 hc20 h => ?_)
  refine WO_call [.ro 0] Try.f13 rfl rfl rfl (by kernel_rfl) Try.func13 rfl (by kernel_rfl) (impl_ValidTree_ok n x1 b19 hc20) (And.intro (And.intro rfl rfl) (trivial)) rfl ?_
  refine WO_step 1 [0] [0, 1, 2, 3, 14] True ⟨[(0, .one (.e (.sl 0 0 x1.length))), (1, I i2), (2, S s3), (3, I i4), (14, B (!b19))], [.row .nod x1 false]⟩ (by kernel_rfl) trivial ?_
  refine WO_nil rfl ?_
  refine thenS_n ?_
  refine iteO_e h (fun hb22 h => W_true rfl hb22 ?_) (fun hb22 h => W_false rfl hb22 ?_)
  · refine W_seq ?_
    refine W_region ?_
    refine WO_step 3 [0] [8, 9, 10] True ⟨[(8, .one (.e (.nsl))), (9, I (-1)), (10, B false)], [.row .nod x1 false]⟩ (by kernel_rfl) trivial ?_
    refine WO_nilrow 8 .nod rfl ?_
    refine WO_sub [0, 1] [8, 9, 10] (st' := ⟨[(8, .one (.e (.sl 1 0 (([] : List Nod).length)))), (9, I (-1)), (10, B false)], [.row .nod x1 false, .row .nod ([] : List Nod) true]⟩) (by kernel_rfl) ?_
    refine WO_nil rfl ?_
    refine thenS_n ?_
    refine W_ret ?_
    refine thenS_r ?_
    cases h
    exact ⟨[0, 1], True, by kernel_rfl, trivial⟩
  · refine W_sub [0] [0, 1, 2, 3] (st' := ⟨[(0, .one (.e (.sl 0 0 x1.length))), (1, I i2), (2, S s3), (3, I i4)], [.row .nod x1 false]⟩) (by kernel_rfl) ?_
    refine W_skip ?_
    refine thenS_n ?_
    refine W_seq ?_
    refine W_region ?_
    refine WO_step 1 [0] [0, 1, 2, 3, 15] True ⟨[(0, .one (.e (.sl 0 0 x1.length))), (1, I i2), (2, S s3), (3, I i4), (15, .one (.e (.sl 0 0 x1.length)))], [.row .nod x1 false]⟩ (by kernel_rfl) trivial ?_
    refine bindO_e h (fun x23 hc24 h => ?_)
    refine WO_call [.ro 0] Try.f35 rfl rfl rfl (by kernel_rfl) Try.func35 rfl (by kernel_rfl) (slices_Clone_Node_ok x1 x23 hc24) (And.intro (And.intro rfl rfl) (trivial)) rfl ?_
    refine guardO_e h (fun hg25 h => ?_)
    refine WO_step 7 [0, 3] [0, 11] ((0 = 0 ∧ x23.length = x23.length ∧ x23.length + (([(⟨i2, s3, i4⟩ : Nod)].drop 0).take ([(⟨i2, s3, i4⟩ : Nod)].length)).length ≤ 1099511627776) ∧ True) ⟨[(0, .one (.e (.sl 0 0 x1.length))), (11, .one (.e (.sl 1 0 ((x23 ++ (([(⟨i2, s3, i4⟩ : Nod)].drop 0).take ([(⟨i2, s3, i4⟩ : Nod)].length))).length))))], [.row .nod x1 false, .row .nod (x23 ++ (([(⟨i2, s3, i4⟩ : Nod)].drop 0).take ([(⟨i2, s3, i4⟩ : Nod)].length))) true]⟩ (by kernel_rfl) ⟨hg25, trivial⟩ ?_
    refine WO_nil rfl ?_
    refine thenS_n ?_
    refine W_seq ?_
    refine W_seq ?_
    refine W_region ?_
    refine WO_step 1 [0, 1] [0, 11, 23] True ⟨[(0, .one (.e (.sl 0 0 x1.length))), (11, .one (.e (.sl 1 0 ((x23 ++ (([(⟨i2, s3, i4⟩ : Nod)].drop 0).take ([(⟨i2, s3, i4⟩ : Nod)].length))).length)))), (23, .one (.e (.sl 1 0 ((x23 ++ (([(⟨i2, s3, i4⟩ : Nod)].drop 0).take ([(⟨i2, s3, i4⟩ : Nod)].length))).length))))], [.row .nod x1 false, .row .nod (x23 ++ (([(⟨i2, s3, i4⟩ : Nod)].drop 0).take ([(⟨i2, s3, i4⟩ : Nod)].length))) true]⟩ (by kernel_rfl) trivial ?_
    refine bindO_e h (fun b26 hc27 h => ?_)
    refine WO_call [.ro 1] Try.f13 rfl rfl rfl (by kernel_rfl) Try.func13 rfl (by kernel_rfl) (impl_ValidTree_ok n (x23 ++ (([(⟨i2, s3, i4⟩ : Nod)].drop 0).take ([(⟨i2, s3, i4⟩ : Nod)].length))) b26 hc27) (And.intro (And.intro rfl rfl) (trivial)) rfl ?_
    refine WO_step 1 [0, 1] [0, 11, 25] True ⟨[(0, .one (.e (.sl 0 0 x1.length))), (11, .one (.e (.sl 1 0 ((x23 ++ (([(⟨i2, s3, i4⟩ : Nod)].drop 0).take ([(⟨i2, s3, i4⟩ : Nod)].length))).length)))), (25, B (!b26))], [.row .nod x1 false, .row .nod (x23 ++ (([(⟨i2, s3, i4⟩ : Nod)].drop 0).take ([(⟨i2, s3, i4⟩ : Nod)].length))) true]⟩ (by kernel_rfl) trivial ?_
    refine WO_nil rfl ?_
    refine thenS_n ?_
    refine iteO_e h (fun hb29 h => W_true rfl hb29 ?_) (fun hb29 h => W_false rfl hb29 ?_)
    · refine W_seq ?_
      refine W_region ?_
      refine WO_step 3 [0] [8, 9, 10] True ⟨[(8, .one (.e (.nsl))), (9, I (-1)), (10, B false)], [.row .nod x1 false]⟩ (by kernel_rfl) trivial ?_
      refine WO_nilrow 8 .nod rfl ?_
      refine WO_sub [0, 1] [8, 9, 10] (st' := ⟨[(8, .one (.e (.sl 1 0 (([] : List Nod).length)))), (9, I (-1)), (10, B false)], [.row .nod x1 false, .row .nod ([] : List Nod) true]⟩) (by kernel_rfl) ?_
      refine WO_nil rfl ?_
      refine thenS_n ?_
      refine W_ret ?_
      refine thenS_r ?_
      cases h
      exact ⟨[0, 1], True, by kernel_rfl, trivial⟩
    · refine W_sub [0, 1] [0, 11] (st' := ⟨[(0, .one (.e (.sl 0 0 x1.length))), (11, .one (.e (.sl 1 0 ((x23 ++ (([(⟨i2, s3, i4⟩ : Nod)].drop 0).take ([(⟨i2, s3, i4⟩ : Nod)].length))).length))))], [.row .nod x1 false, .row .nod (x23 ++ (([(⟨i2, s3, i4⟩ : Nod)].drop 0).take ([(⟨i2, s3, i4⟩ : Nod)].length))) true]⟩) (by kernel_rfl) ?_
      refine W_skip ?_
      refine thenS_n ?_
      refine W_seq ?_
      refine W_region ?_
      refine WO_step 6 [0, 1] [8, 9, 10] (True ∧ True) ⟨[(8, .one (.e (.sl 1 0 ((x23 ++ (([(⟨i2, s3, i4⟩ : Nod)].drop 0).take ([(⟨i2, s3, i4⟩ : Nod)].length))).length)))), (9, I ((x1.length : Nat) : Int)), (10, B true)], [.row .nod x1 false, .row .nod (x23 ++ (([(⟨i2, s3, i4⟩ : Nod)].drop 0).take ([(⟨i2, s3, i4⟩ : Nod)].length))) true]⟩ (by kernel_rfl) ⟨trivial, trivial⟩ ?_
      refine WO_nil rfl ?_
      refine thenS_n ?_
      refine W_ret ?_
      cases h
      exact ⟨[0, 1], True, by kernel_rfl, trivial⟩

/- slices.Reverse[[]int,int] -/
def slices_Reverse_int_int_L1 (k2 : Nat) : Nat → (List Int) → Int → Int → Option ((List Int))
| 0, _, _, _ => none
| n + 1, x68, i69, i70 =>
 iteO (decide (i69 < i70))
 (guardO (0 ≤ i70 ∧ i70 < ((k2 : Nat) : Int)) <|
 guardO (0 ≤ i69 ∧ i69 < ((k2 : Nat) : Int)) <|
 guardO (0 ≤ i69 ∧ i69 < ((k2 : Nat) : Int)) <|
 guardO (0 ≤ i70 ∧ i70 < ((k2 : Nat) : Int)) <|
 slices_Reverse_int_int_L1 k2 n ((x68.set i69.toNat (x68.getD i70.toNat 0)).set i70.toNat (x68.getD i69.toNat 0)) (w64 (i69 + 1)) (w64 (i70 - 1)))
 (some x68)

theorem slices_Reverse_int_int_L1_ok (w : World) (X : Nat → Prop) (θ : List Loc) (k2 : Nat) (x84 : (List Int)) : ∀ (n : Nat) (x68 : List Int) (i69 : Int) (i70 : Int), slices_Reverse_int_int_L1 k2 n x68 i69 i70 = some x84 → WL EE ⟨w, X, θ, 28, 1⟩ (subC [1, 4, 4] (bodyC Try.f92)) (fun (e : Exit) (s : St) => e = .exit 0 ∧ s = ⟨[], [.row .int x84 true]⟩) ⟨[(0, .one (.e (.sl 0 0 k2))), (2, I i69), (3, I i70)], [.row .int x68 true]⟩ := by
  intro n
  induction n with
  | zero => intro _ _ _ h; exact none_e h
  | succ n ih =>
    intro x68 i69 i70 h
    rw [slices_Reverse_int_int_L1] at h
    refine WL_round ?_
    refine W_seq ?_
    refine W_seq ?_
    refine W_region ?_
    refine WO_step 3 [0] [0, 2, 3, 9] (True ∧ True) ⟨[(0, .one (.e (.sl 0 0 k2))), (2, I i69), (3, I i70), (9, B (decide (i69 < i70)))], [.row .int x68 true]⟩ (by kernel_rfl) ⟨trivial, trivial⟩ ?_
    refine WO_nil rfl ?_
    refine thenS_n ?_
    refine iteO_e h (fun hb87 h => W_true rfl hb87 ?_) (fun hb87 h => W_false rfl hb87 ?_)
    · refine W_sub [0] [0, 2, 3] (st' := ⟨[(0, .one (.e (.sl 0 0 k2))), (2, I i69), (3, I i70)], [.row .int x68 true]⟩) (by kernel_rfl) ?_
      refine W_skip ?_
      refine thenS_n ?_
      refine W_seq ?_
      refine W_block ?_
      refine guardO_e h (fun hg92 h => ?_)
      refine guardO_e h (fun hg93 h => ?_)
      refine guardO_e h (fun hg94 h => ?_)
      refine guardO_e h (fun hg95 h => ?_)
      refine W_cut (Q' := fun (e : Exit) (s : St) => e = .normal ∧ s = ⟨[(0, .one (.e (.sl 0 0 k2))), (2, I i69), (3, I i70)], [.row .int ((x68.set i69.toNat (x68.getD i70.toNat 0)).set i70.toNat (x68.getD i69.toNat 0)) true]⟩) ?_ ?_
      · refine W_draw [0] false (by kernel_rfl) (by kernel_rfl) ?_
        refine WD_takeK [0, 1, 2, 3, 4, 5, 8, 9] [0, 2, 3, 14, 15, 16, 17, 18, 19, 22, 23] [0, 2, 3, 14, 15, 16, 17, 18, 19, 22, 23] (φ := True) (ls' := #[true, true, true, true, true, true, false, false, true, true, false, false, false, false, false, false]) (Ts' := [(0, .one (.e (.sl 0 0 k2))), (2, I i69), (3, I i70), (14, .one (.e (.sl 0 0 k2))), (15, I i69), (16, .one (.e (.sl 0 0 k2))), (17, I i70), (18, .one (.e (.sl 0 0 k2))), (19, I i70), (22, .one (.e (.sl 0 0 k2))), (23, I i69)]) (st' := ⟨[(0, .one (.e (.sl 0 0 k2))), (2, I i69), (3, I i70), (14, .one (.e (.sl 0 0 k2))), (15, I i69), (16, .one (.e (.sl 0 0 k2))), (17, I i70), (18, .one (.e (.sl 0 0 k2))), (19, I i70), (22, .one (.e (.sl 0 0 k2))), (23, I i69)], [.row .int x68 true]⟩) (n2 := 8) (by kernel_rfl) trivial rfl ?_
        refine WD_all [6, 10] (n := 7) (by kernel_rfl) rfl (And.intro ?_ (?_))
        · refine WM_op (φ := 0 ≤ i70 ∧ i70 < ((k2 : Nat) : Int)) (v := .one (.e (.rp 0 i70.toNat 0))) (H' := [.row .int x68 true]) rfl rfl (by kernel_rfl) hg92 rfl (trivial) ?_
          refine WD_all [7, 10] (n := 6) (by kernel_rfl) rfl (And.intro ?_ (?_))
          · refine WM_op (φ := True) (v := I (x68.getD i70.toNat 0)) (H' := [.row .int x68 true]) rfl rfl (by kernel_rfl) trivial rfl (trivial) ?_
            refine WD_all [10] (n := 5) (by kernel_rfl) rfl ?_
            refine WM_op (φ := 0 ≤ i69 ∧ i69 < ((k2 : Nat) : Int)) (v := .one (.e (.rp 0 i69.toNat 0))) (H' := [.row .int x68 true]) rfl rfl (by kernel_rfl) hg93 rfl (trivial) ?_
            refine WD_all [11] (n := 4) (by kernel_rfl) rfl ?_
            refine WM_op (φ := True) (v := I (x68.getD i69.toNat 0)) (H' := [.row .int x68 true]) rfl rfl (by kernel_rfl) trivial rfl (trivial) ?_
            refine WD_all [12] (n := 3) (by kernel_rfl) rfl ?_
            refine WM_op (φ := 0 ≤ i69 ∧ i69 < ((k2 : Nat) : Int)) (v := .one (.e (.rp 0 i69.toNat 0))) (H' := [.row .int x68 true]) rfl rfl (by kernel_rfl) hg94 rfl (trivial) ?_
            refine WD_all [13] (n := 2) (by kernel_rfl) rfl ?_
            refine WM_store (u := .one (.e (.rp 0 i69.toNat 0))) (v := I (x68.getD i70.toNat 0)) (φ := True) (H' := [.row .int (x68.set i69.toNat (x68.getD i70.toNat 0)) true]) rfl rfl rfl rfl rfl (by kernel_rfl) trivial rfl (trivial) ?_
            refine WD_all [14] (n := 1) (by kernel_rfl) rfl ?_
            refine WM_op (φ := 0 ≤ i70 ∧ i70 < ((k2 : Nat) : Int)) (v := .one (.e (.rp 0 i70.toNat 0))) (H' := [.row .int (x68.set i69.toNat (x68.getD i70.toNat 0)) true]) rfl rfl (by kernel_rfl) hg95 rfl (trivial) ?_
            refine WD_all [15] (n := 0) (by kernel_rfl) rfl ?_
            refine WM_store (u := .one (.e (.rp 0 i70.toNat 0))) (v := I (x68.getD i69.toNat 0)) (φ := True) (H' := [.row .int ((x68.set i69.toNat (x68.getD i70.toNat 0)).set i70.toNat (x68.getD i69.toNat 0)) true]) rfl rfl rfl rfl rfl (by kernel_rfl) trivial rfl (trivial) ?_
            exact WD_done [0] [0, 2, 3] (st' := ⟨[(0, .one (.e (.sl 0 0 k2))), (2, I i69), (3, I i70)], [.row .int ((x68.set i69.toNat (x68.getD i70.toNat 0)).set i70.toNat (x68.getD i69.toNat 0)) true]⟩) (by kernel_rfl) (by kernel_rfl) (And.intro rfl rfl)
          · refine WM_op (φ := 0 ≤ i69 ∧ i69 < ((k2 : Nat) : Int)) (v := .one (.e (.rp 0 i69.toNat 0))) (H' := [.row .int x68 true]) rfl rfl (by kernel_rfl) hg93 rfl (trivial) ?_
            refine WD_all [7, 11] (n := 5) (by kernel_rfl) rfl (And.intro ?_ (?_))
            · refine WM_op (φ := True) (v := I (x68.getD i70.toNat 0)) (H' := [.row .int x68 true]) rfl rfl (by kernel_rfl) trivial rfl (trivial) ?_
              refine WD_all [11] (n := 4) (by kernel_rfl) rfl ?_
              refine WM_op (φ := True) (v := I (x68.getD i69.toNat 0)) (H' := [.row .int x68 true]) rfl rfl (by kernel_rfl) trivial rfl (trivial) ?_
              refine WD_all [12] (n := 3) (by kernel_rfl) rfl ?_
              refine WM_op (φ := 0 ≤ i69 ∧ i69 < ((k2 : Nat) : Int)) (v := .one (.e (.rp 0 i69.toNat 0))) (H' := [.row .int x68 true]) rfl rfl (by kernel_rfl) hg94 rfl (trivial) ?_
              refine WD_all [13] (n := 2) (by kernel_rfl) rfl ?_
              refine WM_store (u := .one (.e (.rp 0 i69.toNat 0))) (v := I (x68.getD i70.toNat 0)) (φ := True) (H' := [.row .int (x68.set i69.toNat (x68.getD i70.toNat 0)) true]) rfl rfl rfl rfl rfl (by kernel_rfl) trivial rfl (trivial) ?_
              refine WD_all [14] (n := 1) (by kernel_rfl) rfl ?_
              refine WM_op (φ := 0 ≤ i70 ∧ i70 < ((k2 : Nat) : Int)) (v := .one (.e (.rp 0 i70.toNat 0))) (H' := [.row .int (x68.set i69.toNat (x68.getD i70.toNat 0)) true]) rfl rfl (by kernel_rfl) hg95 rfl (trivial) ?_
              refine WD_all [15] (n := 0) (by kernel_rfl) rfl ?_
              refine WM_store (u := .one (.e (.rp 0 i70.toNat 0))) (v := I (x68.getD i69.toNat 0)) (φ := True) (H' := [.row .int ((x68.set i69.toNat (x68.getD i70.toNat 0)).set i70.toNat (x68.getD i69.toNat 0)) true]) rfl rfl rfl rfl rfl (by kernel_rfl) trivial rfl (trivial) ?_
              exact WD_done [0] [0, 2, 3] (st' := ⟨[(0, .one (.e (.sl 0 0 k2))), (2, I i69), (3, I i70)], [.row .int ((x68.set i69.toNat (x68.getD i70.toNat 0)).set i70.toNat (x68.getD i69.toNat 0)) true]⟩) (by kernel_rfl) (by kernel_rfl) (And.intro rfl rfl)
            · refine WM_op (φ := True) (v := I (x68.getD i69.toNat 0)) (H' := [.row .int x68 true]) rfl rfl (by kernel_rfl) trivial rfl (trivial) ?_
              refine WD_all [7] (n := 4) (by kernel_rfl) rfl ?_
              refine WM_op (φ := True) (v := I (x68.getD i70.toNat 0)) (H' := [.row .int x68 true]) rfl rfl (by kernel_rfl) trivial rfl (trivial) ?_
              refine WD_all [12] (n := 3) (by kernel_rfl) rfl ?_
              refine WM_op (φ := 0 ≤ i69 ∧ i69 < ((k2 : Nat) : Int)) (v := .one (.e (.rp 0 i69.toNat 0))) (H' := [.row .int x68 true]) rfl rfl (by kernel_rfl) hg94 rfl (trivial) ?_
              refine WD_all [13] (n := 2) (by kernel_rfl) rfl ?_
              refine WM_store (u := .one (.e (.rp 0 i69.toNat 0))) (v := I (x68.getD i70.toNat 0)) (φ := True) (H' := [.row .int (x68.set i69.toNat (x68.getD i70.toNat 0)) true]) rfl rfl rfl rfl rfl (by kernel_rfl) trivial rfl (trivial) ?_
              refine WD_all [14] (n := 1) (by kernel_rfl) rfl ?_
              refine WM_op (φ := 0 ≤ i70 ∧ i70 < ((k2 : Nat) : Int)) (v := .one (.e (.rp 0 i70.toNat 0))) (H' := [.row .int (x68.set i69.toNat (x68.getD i70.toNat 0)) true]) rfl rfl (by kernel_rfl) hg95 rfl (trivial) ?_
              refine WD_all [15] (n := 0) (by kernel_rfl) rfl ?_
              refine WM_store (u := .one (.e (.rp 0 i70.toNat 0))) (v := I (x68.getD i69.toNat 0)) (φ := True) (H' := [.row .int ((x68.set i69.toNat (x68.getD i70.toNat 0)).set i70.toNat (x68.getD i69.toNat 0)) true]) rfl rfl rfl rfl rfl (by kernel_rfl) trivial rfl (trivial) ?_
              exact WD_done [0] [0, 2, 3] (st' := ⟨[(0, .one (.e (.sl 0 0 k2))), (2, I i69), (3, I i70)], [.row .int ((x68.set i69.toNat (x68.getD i70.toNat 0)).set i70.toNat (x68.getD i69.toNat 0)) true]⟩) (by kernel_rfl) (by kernel_rfl) (And.intro rfl rfl)
        · refine WM_op (φ := 0 ≤ i69 ∧ i69 < ((k2 : Nat) : Int)) (v := .one (.e (.rp 0 i69.toNat 0))) (H' := [.row .int x68 true]) rfl rfl (by kernel_rfl) hg93 rfl (trivial) ?_
          refine WD_all [6, 11] (n := 6) (by kernel_rfl) rfl (And.intro ?_ (?_))
          · refine WM_op (φ := 0 ≤ i70 ∧ i70 < ((k2 : Nat) : Int)) (v := .one (.e (.rp 0 i70.toNat 0))) (H' := [.row .int x68 true]) rfl rfl (by kernel_rfl) hg92 rfl (trivial) ?_
            refine WD_all [7, 11] (n := 5) (by kernel_rfl) rfl (And.intro ?_ (?_))
            · refine WM_op (φ := True) (v := I (x68.getD i70.toNat 0)) (H' := [.row .int x68 true]) rfl rfl (by kernel_rfl) trivial rfl (trivial) ?_
              refine WD_all [11] (n := 4) (by kernel_rfl) rfl ?_
              refine WM_op (φ := True) (v := I (x68.getD i69.toNat 0)) (H' := [.row .int x68 true]) rfl rfl (by kernel_rfl) trivial rfl (trivial) ?_
              refine WD_all [12] (n := 3) (by kernel_rfl) rfl ?_
              refine WM_op (φ := 0 ≤ i69 ∧ i69 < ((k2 : Nat) : Int)) (v := .one (.e (.rp 0 i69.toNat 0))) (H' := [.row .int x68 true]) rfl rfl (by kernel_rfl) hg94 rfl (trivial) ?_
              refine WD_all [13] (n := 2) (by kernel_rfl) rfl ?_
              refine WM_store (u := .one (.e (.rp 0 i69.toNat 0))) (v := I (x68.getD i70.toNat 0)) (φ := True) (H' := [.row .int (x68.set i69.toNat (x68.getD i70.toNat 0)) true]) rfl rfl rfl rfl rfl (by kernel_rfl) trivial rfl (trivial) ?_
              refine WD_all [14] (n := 1) (by kernel_rfl) rfl ?_
              refine WM_op (φ := 0 ≤ i70 ∧ i70 < ((k2 : Nat) : Int)) (v := .one (.e (.rp 0 i70.toNat 0))) (H' := [.row .int (x68.set i69.toNat (x68.getD i70.toNat 0)) true]) rfl rfl (by kernel_rfl) hg95 rfl (trivial) ?_
              refine WD_all [15] (n := 0) (by kernel_rfl) rfl ?_
              refine WM_store (u := .one (.e (.rp 0 i70.toNat 0))) (v := I (x68.getD i69.toNat 0)) (φ := True) (H' := [.row .int ((x68.set i69.toNat (x68.getD i70.toNat 0)).set i70.toNat (x68.getD i69.toNat 0)) true]) rfl rfl rfl rfl rfl (by kernel_rfl) trivial rfl (trivial) ?_
              exact WD_done [0] [0, 2, 3] (st' := ⟨[(0, .one (.e (.sl 0 0 k2))), (2, I i69), (3, I i70)], [.row .int ((x68.set i69.toNat (x68.getD i70.toNat 0)).set i70.toNat (x68.getD i69.toNat 0)) true]⟩) (by kernel_rfl) (by kernel_rfl) (And.intro rfl rfl)
            · refine WM_op (φ := True) (v := I (x68.getD i69.toNat 0)) (H' := [.row .int x68 true]) rfl rfl (by kernel_rfl) trivial rfl (trivial) ?_
              refine WD_all [7] (n := 4) (by kernel_rfl) rfl ?_
              refine WM_op (φ := True) (v := I (x68.getD i70.toNat 0)) (H' := [.row .int x68 true]) rfl rfl (by kernel_rfl) trivial rfl (trivial) ?_
              refine WD_all [12] (n := 3) (by kernel_rfl) rfl ?_
              refine WM_op (φ := 0 ≤ i69 ∧ i69 < ((k2 : Nat) : Int)) (v := .one (.e (.rp 0 i69.toNat 0))) (H' := [.row .int x68 true]) rfl rfl (by kernel_rfl) hg94 rfl (trivial) ?_
              refine WD_all [13] (n := 2) (by kernel_rfl) rfl ?_
              refine WM_store (u := .one (.e (.rp 0 i69.toNat 0))) (v := I (x68.getD i70.toNat 0)) (φ := True) (H' := [.row .int (x68.set i69.toNat (x68.getD i70.toNat 0)) true]) rfl rfl rfl rfl rfl (by kernel_rfl) trivial rfl (trivial) ?_
              refine WD_all [14] (n := 1) (by kernel_rfl) rfl ?_
              refine WM_op (φ := 0 ≤ i70 ∧ i70 < ((k2 : Nat) : Int)) (v := .one (.e (.rp 0 i70.toNat 0))) (H' := [.row .int (x68.set i69.toNat (x68.getD i70.toNat 0)) true]) rfl rfl (by kernel_rfl) hg95 rfl (trivial) ?_
              refine WD_all [15] (n := 0) (by kernel_rfl) rfl ?_
              refine WM_store (u := .one (.e (.rp 0 i70.toNat 0))) (v := I (x68.getD i69.toNat 0)) (φ := True) (H' := [.row .int ((x68.set i69.toNat (x68.getD i70.toNat 0)).set i70.toNat (x68.getD i69.toNat 0)) true]) rfl rfl rfl rfl rfl (by kernel_rfl) trivial rfl (trivial) ?_
              exact WD_done [0] [0, 2, 3] (st' := ⟨[(0, .one (.e (.sl 0 0 k2))), (2, I i69), (3, I i70)], [.row .int ((x68.set i69.toNat (x68.getD i70.toNat 0)).set i70.toNat (x68.getD i69.toNat 0)) true]⟩) (by kernel_rfl) (by kernel_rfl) (And.intro rfl rfl)
          · refine WM_op (φ := True) (v := I (x68.getD i69.toNat 0)) (H' := [.row .int x68 true]) rfl rfl (by kernel_rfl) trivial rfl (trivial) ?_
            refine WD_all [6] (n := 5) (by kernel_rfl) rfl ?_
            refine WM_op (φ := 0 ≤ i70 ∧ i70 < ((k2 : Nat) : Int)) (v := .one (.e (.rp 0 i70.toNat 0))) (H' := [.row .int x68 true]) rfl rfl (by kernel_rfl) hg92 rfl (trivial) ?_
            refine WD_all [7] (n := 4) (by kernel_rfl) rfl ?_
            refine WM_op (φ := True) (v := I (x68.getD i70.toNat 0)) (H' := [.row .int x68 true]) rfl rfl (by kernel_rfl) trivial rfl (trivial) ?_
            refine WD_all [12] (n := 3) (by kernel_rfl) rfl ?_
            refine WM_op (φ := 0 ≤ i69 ∧ i69 < ((k2 : Nat) : Int)) (v := .one (.e (.rp 0 i69.toNat 0))) (H' := [.row .int x68 true]) rfl rfl (by kernel_rfl) hg94 rfl (trivial) ?_
            refine WD_all [13] (n := 2) (by kernel_rfl) rfl ?_
            refine WM_store (u := .one (.e (.rp 0 i69.toNat 0))) (v := I (x68.getD i70.toNat 0)) (φ := True) (H' := [.row .int (x68.set i69.toNat (x68.getD i70.toNat 0)) true]) rfl rfl rfl rfl rfl (by kernel_rfl) trivial rfl (trivial) ?_
            refine WD_all [14] (n := 1) (by kernel_rfl) rfl ?_
            refine WM_op (φ := 0 ≤ i70 ∧ i70 < ((k2 : Nat) : Int)) (v := .one (.e (.rp 0 i70.toNat 0))) (H' := [.row .int (x68.set i69.toNat (x68.getD i70.toNat 0)) true]) rfl rfl (by kernel_rfl) hg95 rfl (trivial) ?_
            refine WD_all [15] (n := 0) (by kernel_rfl) rfl ?_
            refine WM_store (u := .one (.e (.rp 0 i70.toNat 0))) (v := I (x68.getD i69.toNat 0)) (φ := True) (H' := [.row .int ((x68.set i69.toNat (x68.getD i70.toNat 0)).set i70.toNat (x68.getD i69.toNat 0)) true]) rfl rfl rfl rfl rfl (by kernel_rfl) trivial rfl (trivial) ?_
            exact WD_done [0] [0, 2, 3] (st' := ⟨[(0, .one (.e (.sl 0 0 k2))), (2, I i69), (3, I i70)], [.row .int ((x68.set i69.toNat (x68.getD i70.toNat 0)).set i70.toNat (x68.getD i69.toNat 0)) true]⟩) (by kernel_rfl) (by kernel_rfl) (And.intro rfl rfl)
      · rintro _ _ ⟨rfl, rfl⟩
        refine blockS_n ?_
        refine thenS_n ?_
        refine W_region ?_
        refine WO_step 6 [0] [0, 2, 3] (True ∧ (True ∧ True)) ⟨[(0, .one (.e (.sl 0 0 k2))), (2, I (w64 (i69 + 1))), (3, I (w64 (i70 - 1)))], [.row .int ((x68.set i69.toNat (x68.getD i70.toNat 0)).set i70.toNat (x68.getD i69.toNat 0)) true]⟩ (by kernel_rfl) ⟨trivial, trivial, trivial⟩ ?_
        refine WO_nil rfl ?_
        refine thenS_n ?_
        exact ih _ _ _ h
    · refine W_sub [0] [] (st' := ⟨[], [.row .int x68 true]⟩) (by kernel_rfl) ?_
      refine W_exit ?_
      refine thenS_e ?_
      refine thenS_e ?_
      cases h
      exact And.intro rfl rfl

def slices_Reverse_int_int (n : Nat) (x1 : List Int) (k2 : Nat) : Option ((List Int)) :=
 bindO (slices_Reverse_int_int_L1 k2 n x1 0 (w64 (((k2 : Nat) : Int) - 1))) fun x84 =>
 some x84

theorem slices_Reverse_int_int_ok (n : Nat) (x1 : List Int) (k2 : Nat) (x49 : List Int) (h : slices_Reverse_int_int n x1 k2 = some x49) : FOk EE 92 [.one (.e (.sl 0 0 k2))] [.row .int x1 true] (.tup []) [.row .int x49 true] := by
  unfold slices_Reverse_int_int at h
  refine FOk_of_W 28 1 Try.func92 rfl rfl (Nat.le_of_ble_eq_true rfl) rfl (fun w X θ => ?_)
  refine W_seq ?_
  refine W_region ?_
  refine WO_step 5 [0] [0, 2, 3] (True ∧ (True ∧ True)) ⟨[(0, .one (.e (.sl 0 0 k2))), (2, I 0), (3, I (w64 (((k2 : Nat) : Int) - 1)))], [.row .int x1 true]⟩ (by kernel_rfl) ⟨trivial, trivial, trivial⟩ ?_
  refine WO_nil rfl ?_
  refine thenS_n ?_
  refine W_block ?_
  refine W_loop ?_
  refine bindO_e h (fun x84 hx84 h => ?_)
  refine WL_cut (slices_Reverse_int_int_L1_ok w X θ k2 x84 n x1 0 (w64 (((k2 : Nat) : Int) - 1)) hx84) ?_
  rintro _ _ ⟨rfl, rfl⟩
  refine blockS_y ?_
  cases h
  exact ⟨[0], True, by kernel_rfl, trivial⟩

/- impl.PathTo -/
def impl_PathTo_L1 (x1 : List Nod) : Nat → (List Int) → Int → Option ((List Int))
| 0, _, _ => none
| n + 1, x53, i54 =>
 iteO (decide (0 ≤ i54))
 (guardO (0 = 0 ∧ x53.length = x53.length ∧ x53.length + (([i54].drop 0).take ([i54].length)).length ≤ 1099511627776) <|
 guardO (0 ≤ i54 ∧ i54 < ((x1.length : Nat) : Int)) <|
 impl_PathTo_L1 x1 n (x53 ++ (([i54].drop 0).take ([i54].length))) ((x1.getD i54.toNat dnod).parent))
 (some x53)

theorem impl_PathTo_L1_ok (w : World) (X : Nat → Prop) (θ : List Loc) (x1 : List Nod) (x62 : (List Int)) : ∀ (n : Nat) (x53 : List Int) (i54 : Int), impl_PathTo_L1 x1 n x53 i54 = some x62 → WL EE ⟨w, X, θ, 26, 1⟩ (subC [1, 1, 1, 0, 1, 4, 4] (bodyC Try.f73)) (fun (e : Exit) (s : St) => e = .exit 0 ∧ s = ⟨[(5, .one (.e (.sl 1 0 x62.length)))], [.row .nod x1 false, .row .int x62 true]⟩) ⟨[(0, .one (.e (.sl 0 0 x1.length))), (5, .one (.e (.sl 1 0 x53.length))), (6, I i54)], [.row .nod x1 false, .row .int x53 true]⟩ := by
  intro n
  induction n with
  | zero => intro _ _ h; exact none_e h
  | succ n ih =>
    intro x53 i54 h
    rw [impl_PathTo_L1] at h
    refine WL_round ?_
    refine W_seq ?_
    refine W_seq ?_
    refine W_region ?_
    refine WO_step 2 [0, 1] [0, 5, 6, 13] (True ∧ True) ⟨[(0, .one (.e (.sl 0 0 x1.length))), (5, .one (.e (.sl 1 0 x53.length))), (6, I i54), (13, B (decide (0 ≤ i54)))], [.row .nod x1 false, .row .int x53 true]⟩ (by kernel_rfl) ⟨trivial, trivial⟩ ?_
    refine WO_nil rfl ?_
    refine thenS_n ?_
    refine iteO_e h (fun hb65 h => W_true rfl hb65 ?_) (fun hb65 h => W_false rfl hb65 ?_)
    · refine W_sub [0, 1] [0, 5, 6] (st' := ⟨[(0, .one (.e (.sl 0 0 x1.length))), (5, .one (.e (.sl 1 0 x53.length))), (6, I i54)], [.row .nod x1 false, .row .int x53 true]⟩) (by kernel_rfl) ?_
      refine W_skip ?_
      refine thenS_n ?_
      refine W_seq ?_
      refine W_block ?_
      refine W_region ?_
      refine guardO_e h (fun hg67 h => ?_)
      refine WO_step 5 [0, 3] [0, 5, 6] ((0 = 0 ∧ x53.length = x53.length ∧ x53.length + (([i54].drop 0).take ([i54].length)).length ≤ 1099511627776) ∧ True) ⟨[(0, .one (.e (.sl 0 0 x1.length))), (5, .one (.e (.sl 1 0 ((x53 ++ (([i54].drop 0).take ([i54].length))).length)))), (6, I i54)], [.row .nod x1 false, .row .int (x53 ++ (([i54].drop 0).take ([i54].length))) true]⟩ (by kernel_rfl) ⟨hg67, trivial⟩ ?_
      refine WO_nil rfl ?_
      refine blockS_n ?_
      refine thenS_n ?_
      refine W_region ?_
      refine guardO_e h (fun hg68 h => ?_)
      refine WO_step 6 [0, 1] [0, 5, 6] ((0 ≤ i54 ∧ i54 < ((x1.length : Nat) : Int)) ∧ (True ∧ True)) ⟨[(0, .one (.e (.sl 0 0 x1.length))), (5, .one (.e (.sl 1 0 ((x53 ++ (([i54].drop 0).take ([i54].length))).length)))), (6, I ((x1.getD i54.toNat dnod).parent))], [.row .nod x1 false, .row .int (x53 ++ (([i54].drop 0).take ([i54].length))) true]⟩ (by kernel_rfl) ⟨hg68, trivial, trivial⟩ ?_
      refine WO_nil rfl ?_
      refine thenS_n ?_
      exact ih _ _ h
    · refine W_sub [0, 1] [5] (st' := ⟨[(5, .one (.e (.sl 1 0 x53.length)))], [.row .nod x1 false, .row .int x53 true]⟩) (by kernel_rfl) ?_
      refine W_exit ?_
      refine thenS_e ?_
      refine thenS_e ?_
      cases h
      exact And.intro rfl rfl

def impl_PathTo (n : Nat) (x1 : List Nod) (i2 : Int) : Option ((List Int)) :=
 bindO (impl_isNode n x1 i2) fun b38 =>
 iteO (!b38)
 (some ([] : List Int))
 (bindO (impl_PathTo_L1 x1 n ([] : List Int) i2) fun x62 =>
 bindO (slices_Reverse_int_int n x62 x62.length) fun x70 =>
 guardO (x62.length = x70.length) <|
 some x70)

theorem impl_PathTo_ok (n : Nat) (x1 : List Nod) (i2 : Int) (x37 : List Int) (h : impl_PathTo n x1 i2 = some x37) : FOk EE 73 [.one (.e (.sl 0 0 x1.length)), I i2] [.row .nod x1 false] (.one (.e (.sl 1 0 x37.length))) [.row .nod x1 false, .row .int x37 true] := by
  unfold impl_PathTo at h
  refine FOk_of_W 26 1 Try.func73 rfl rfl (Nat.le_of_ble_eq_true rfl) rfl (fun w X θ => ?_)
  refine W_seq ?_
  refine W_region ?_
  refine WO_step 1 [0] [0, 1] True ⟨[(0, .one (.e (.sl 0 0 x1.length))), (1, I i2)], [.row .nod x1 false]⟩ (by kernel_rfl) trivial ?_
  refine WO_nil rfl ?_
  refine thenS_n ?_
  refine W_seq ?_
  refine W_seq ?_
  refine W_region ?_
  refine WO_step 2 [0] [0, 1, 7, 8] True ⟨[(0, .one (.e (.sl 0 0 x1.length))), (1, I i2), (7, .one (.e (.sl 0 0 x1.length))), (8, I i2)], [.row .nod x1 false]⟩ (by kernel_rfl) trivial ?_
  refine bindO_e h (fun b38 hc39 h => ?_)
  refine WO_call [.ro 0] Try.f71 rfl rfl rfl (by kernel_rfl) Try.func71 rfl (by kernel_rfl) (impl_isNode_ok n x1 i2 b38 hc39) (And.intro (And.intro rfl rfl) (trivial)) rfl ?_
  refine WO_step 1 [0] [0, 1, 10] True ⟨[(0, .one (.e (.sl 0 0 x1.length))), (1, I i2), (10, B (!b38))], [.row .nod x1 false]⟩ (by kernel_rfl) trivial ?_
  refine WO_nil rfl ?_
  refine thenS_n ?_
  refine iteO_e h (fun hb41 h => W_true rfl hb41 ?_) (fun hb41 h => W_false rfl hb41 ?_)
  · refine W_seq ?_
    refine W_region ?_
    refine WO_step 1 [0] [4] True ⟨[(4, .one (.e (.nsl)))], [.row .nod x1 false]⟩ (by kernel_rfl) trivial ?_
    refine WO_nilrow 4 .int rfl ?_
    refine WO_sub [0, 1] [4] (st' := ⟨[(4, .one (.e (.sl 1 0 (([] : List Int).length))))], [.row .nod x1 false, .row .int ([] : List Int) true]⟩) (by kernel_rfl) ?_
    refine WO_nil rfl ?_
    refine thenS_n ?_
    refine W_ret ?_
    refine thenS_r ?_
    cases h
    exact ⟨[0, 1], True, by kernel_rfl, trivial⟩
  · refine W_sub [0] [0, 1] (st' := ⟨[(0, .one (.e (.sl 0 0 x1.length))), (1, I i2)], [.row .nod x1 false]⟩) (by kernel_rfl) ?_
    refine W_skip ?_
    refine thenS_n ?_
    refine W_seq ?_
    refine W_region ?_
    refine WO_step 1 [0] [0, 1, 5] True ⟨[(0, .one (.e (.sl 0 0 x1.length))), (1, I i2), (5, .one (.e (.nsl)))], [.row .nod x1 false]⟩ (by kernel_rfl) trivial ?_
    refine WO_nilrow 5 .int rfl ?_
    refine WO_sub [0, 1] [0, 1, 5] (st' := ⟨[(0, .one (.e (.sl 0 0 x1.length))), (1, I i2), (5, .one (.e (.sl 1 0 (([] : List Int).length))))], [.row .nod x1 false, .row .int ([] : List Int) true]⟩) (by kernel_rfl) ?_
    refine WO_nil rfl ?_
    refine thenS_n ?_
    refine W_seq ?_
    refine W_seq ?_
    refine W_region ?_
    refine WO_step 2 [0, 1] [0, 5, 6] True ⟨[(0, .one (.e (.sl 0 0 x1.length))), (5, .one (.e (.sl 1 0 (([] : List Int).length)))), (6, I i2)], [.row .nod x1 false, .row .int ([] : List Int) true]⟩ (by kernel_rfl) trivial ?_
    refine WO_nil rfl ?_
    refine thenS_n ?_
    refine W_block ?_
    refine W_loop ?_
    refine bindO_e h (fun x62 hx62 h => ?_)
    refine WL_cut (impl_PathTo_L1_ok w X θ x1 x62 n ([] : List Int) i2 hx62) ?_
    rintro _ _ ⟨rfl, rfl⟩
    refine blockS_y ?_
    refine thenS_n ?_
    refine W_seq ?_
    refine W_region ?_
    refine WO_step 1 [0, 1] [5, 23] True ⟨[(5, .one (.e (.sl 1 0 x62.length))), (23, .one (.e (.sl 1 0 x62.length)))], [.row .nod x1 false, .row .int x62 true]⟩ (by kernel_rfl) trivial ?_
    refine bindO_e h (fun x70 hc71 h => ?_)
    refine guardO_e h (fun hl72 h => ?_)
    refine WO_call [.own 1] Try.f92 rfl rfl rfl (by kernel_rfl) Try.func92 rfl (by kernel_rfl) (slices_Reverse_int_int_ok n x62 x62.length x70 hc71) (And.intro (And.intro rfl (And.intro rfl hl72)) (trivial)) rfl ?_
    refine WO_sub [0, 1] [5, 23] (st' := ⟨[(5, .one (.e (.sl 1 0 x62.length))), (23, .one (.e (.sl 1 0 x62.length)))], [.row .nod x1 false, .row .int x70 true]⟩) (by kernel_rfl) ?_
    refine WO_eq (st' := ⟨[(5, .one (.e (.sl 1 0 x70.length))), (23, .one (.e (.sl 1 0 x70.length)))], [.row .nod x1 false, .row .int x70 true]⟩) (by simp only [hl72]) ?_
    refine WO_sub [0, 1] [5] (st' := ⟨[(5, .one (.e (.sl 1 0 x70.length)))], [.row .nod x1 false, .row .int x70 true]⟩) (by kernel_rfl) ?_
    refine WO_nil rfl ?_
    refine thenS_n ?_
    refine W_seq ?_
    refine W_region ?_
    refine WO_step 2 [0, 1] [4] True ⟨[(4, .one (.e (.sl 1 0 x70.length)))], [.row .nod x1 false, .row .int x70 true]⟩ (by kernel_rfl) trivial ?_
    refine WO_nil rfl ?_
    refine thenS_n ?_
    refine W_ret ?_
    cases h
    exact ⟨[0, 1], True, by kernel_rfl, trivial⟩

/- (*strings.Builder).copyCheck -/
def lays240R : Shelf.Ren := ⟨fun n => match n with | 240 => 93 | 276 => 103 | _ => 0, fun n => match n with | 0 => 0 | 4 => 4 | 9 => 9 | 20 => 20 | 70 => 93 | 72 => 95 | 164 => 114 | 37 => 22 | 5 => 5 | _ => 0, fun n => n⟩
set_option maxRecDepth 100000 in
theorem lays240 : Lays.n240 Try.prog lays240R := {
  mixed := by kernel_rfl
  f240 := by kernel_rfl
  f276 := by kernel_rfl
  t0 := Try.underlying0
  a0 := Try.isAgg0
  z0 := Try.sizeOf0
  v0 := Try.zeroValue0
  t4 := Try.underlying4
  a4 := Try.isAgg4
  z4 := Try.sizeOf4
  v4 := Try.zeroValue4
  t9 := Try.underlying9
  a9 := Try.isAgg9
  z9 := Try.sizeOf9
  v9 := Try.zeroValue9
  t20 := Try.underlying20
  a20 := Try.isAgg20
  z20 := Try.sizeOf20
  v20 := Try.zeroValue20
  t70 := Try.underlying93
  a70 := Try.isAgg93
  z70 := Try.sizeOf93
  v70 := Try.zeroValue93
  t72 := Try.underlying95
  a72 := Try.isAgg95
  z72 := Try.sizeOf95
  v72 := Try.zeroValue95
  t164 := Try.underlying114
  a164 := Try.isAgg114
  z164 := Try.sizeOf114
  v164 := Try.zeroValue114 }
theorem x72 : Builder.X72 Try.prog lays240R := {
  sizeBuilder := by kernel_rfl
  liesBuilder := by kernel_rfl }
theorem copyCheck_ok (x1 : List Int) : FOk EE 93 [.one (.e (.p 0 0))] [.cells [.sp 0 95, .bsl 1 x1.length], .row .u8 x1 true] (.tup []) [.cells [.sp 0 95, .bsl 1 x1.length], .row .u8 x1 true] := by
  refine FOk_copy (fun b w h0 h1 h2 => ?_) (fun b w h0 => ?_) x1.length x1
  · exact Any.Builder_copyCheck_fresh lays240 x72 b w h0 h1 h2
  · exact Any.Builder_copyCheck_used lays240 x72 b w h0

/- (*strings.Builder).WriteByte -/
def strings_Builder_WriteByte (x1 : List Int) (i2 : Int) : Option ((List Int)) :=
 guardO (0 = 0 ∧ x1.length = x1.length ∧ x1.length + (([i2].drop 0).take ([i2].length)).length ≤ 1099511627776) <|
 some (x1 ++ (([i2].drop 0).take ([i2].length)))

theorem strings_Builder_WriteByte_ok (x1 : List Int) (i2 : Int) (x4 : List Int) (h : strings_Builder_WriteByte x1 i2 = some x4) : FOk EE 74 [.one (.e (.p 0 0)), U i2] [.cells [.sp 0 95, .bsl 1 x1.length], .row .u8 x1 true] (.one (.e (.nif))) [.cells [.sp 0 95, .bsl 2 x4.length], .dead, .row .u8 x4 true] := by
  unfold strings_Builder_WriteByte at h
  refine FOk_of_W 17 2 Try.func74 rfl rfl (Nat.le_of_ble_eq_true rfl) rfl (fun w X θ => ?_)
  refine W_seq ?_
  refine W_region ?_
  refine WO_step 1 [0, 1] [0, 1] True ⟨[(0, .one (.e (.p 0 0))), (1, U i2)], [.cells [.sp 0 95, .bsl 1 x1.length], .row .u8 x1 true]⟩ (by kernel_rfl) trivial ?_
  refine WO_nil rfl ?_
  refine thenS_n ?_
  refine W_seq ?_
  refine W_region ?_
  refine WO_step 1 [0, 1] [0, 1, 5] True ⟨[(0, .one (.e (.p 0 0))), (1, U i2), (5, .one (.e (.p 0 0)))], [.cells [.sp 0 95, .bsl 1 x1.length], .row .u8 x1 true]⟩ (by kernel_rfl) trivial ?_
  refine WO_call [.own 0, .own 1] Try.f93 rfl rfl rfl (by kernel_rfl) Try.func93 rfl (by kernel_rfl) (copyCheck_ok x1) (And.intro (trivial) (And.intro (And.intro rfl (And.intro rfl rfl)) (trivial))) rfl ?_
  refine WO_sub [0, 1] [0, 1] (st' := ⟨[(0, .one (.e (.p 0 0))), (1, U i2)], [.cells [.sp 0 95, .bsl 1 x1.length], .row .u8 x1 true]⟩) (by kernel_rfl) ?_
  refine WO_nil rfl ?_
  refine thenS_n ?_
  refine W_seq ?_
  refine W_region ?_
  refine guardO_e h (fun hg5 h => ?_)
  refine WO_step 11 [0, 1, 3] [] (True ∧ ((0 = 0 ∧ x1.length = x1.length ∧ x1.length + (([i2].drop 0).take ([i2].length)).length ≤ 1099511627776) ∧ (True ∧ True))) ⟨[], [.cells [.sp 0 95, .bsl 2 ((x1 ++ (([i2].drop 0).take ([i2].length))).length)], .dead, .row .u8 (x1 ++ (([i2].drop 0).take ([i2].length))) true]⟩ (by kernel_rfl) ⟨trivial, hg5, trivial, trivial⟩ ?_
  refine WO_nil rfl ?_
  refine thenS_n ?_
  refine W_seq ?_
  refine W_region ?_
  refine WO_step 1 [0, 1, 2] [4] True ⟨[(4, .one (.e (.nif)))], [.cells [.sp 0 95, .bsl 2 ((x1 ++ (([i2].drop 0).take ([i2].length))).length)], .dead, .row .u8 (x1 ++ (([i2].drop 0).take ([i2].length))) true]⟩ (by kernel_rfl) trivial ?_
  refine WO_nil rfl ?_
  refine thenS_n ?_
  refine W_ret ?_
  cases h
  exact ⟨[0, 1, 2], True, by kernel_rfl, trivial⟩

/- (*strings.Builder).WriteString -/
def strings_Builder_WriteString (x1 : List Int) (s2 : Str) : Option ((List Int) × Int) :=
 guardO (0 = 0 ∧ x1.length = x1.length ∧ x1.length + ((s2 : Str).map fun b => ((b.toNat : Nat) : Int)).length ≤ 1099511627776) <|
 some ((x1 ++ ((s2 : Str).map fun b => ((b.toNat : Nat) : Int))), ((s2.length : Nat) : Int))

theorem strings_Builder_WriteString_ok (x1 : List Int) (s2 : Str) (x4 : List Int) (i5 : Int) (h : strings_Builder_WriteString x1 s2 = some (x4, i5)) : FOk EE 75 [.one (.e (.p 0 0)), S s2] [.cells [.sp 0 95, .bsl 1 x1.length], .row .u8 x1 true] (.tup [.e (cI i5), .e (.nif)]) [.cells [.sp 0 95, .bsl 2 x4.length], .dead, .row .u8 x4 true] := by
  unfold strings_Builder_WriteString at h
  refine FOk_of_W 19 2 Try.func75 rfl rfl (Nat.le_of_ble_eq_true rfl) rfl (fun w X θ => ?_)
  refine W_seq ?_
  refine W_region ?_
  refine WO_step 2 [0, 1] [0, 1] True ⟨[(0, .one (.e (.p 0 0))), (1, S s2)], [.cells [.sp 0 95, .bsl 1 x1.length], .row .u8 x1 true]⟩ (by kernel_rfl) trivial ?_
  refine WO_nil rfl ?_
  refine thenS_n ?_
  refine W_seq ?_
  refine W_region ?_
  refine WO_step 1 [0, 1] [0, 1, 6] True ⟨[(0, .one (.e (.p 0 0))), (1, S s2), (6, .one (.e (.p 0 0)))], [.cells [.sp 0 95, .bsl 1 x1.length], .row .u8 x1 true]⟩ (by kernel_rfl) trivial ?_
  refine WO_call [.own 0, .own 1] Try.f93 rfl rfl rfl (by kernel_rfl) Try.func93 rfl (by kernel_rfl) (copyCheck_ok x1) (And.intro (trivial) (And.intro (And.intro rfl (And.intro rfl rfl)) (trivial))) rfl ?_
  refine WO_sub [0, 1] [0, 1] (st' := ⟨[(0, .one (.e (.p 0 0))), (1, S s2)], [.cells [.sp 0 95, .bsl 1 x1.length], .row .u8 x1 true]⟩) (by kernel_rfl) ?_
  refine WO_nil rfl ?_
  refine thenS_n ?_
  refine W_seq ?_
  refine W_region ?_
  refine guardO_e h (fun hg6 h => ?_)
  refine WO_step 10 [0, 1, 2] [1] (True ∧ ((0 = 0 ∧ x1.length = x1.length ∧ x1.length + ((s2 : Str).map fun b => ((b.toNat : Nat) : Int)).length ≤ 1099511627776) ∧ (True ∧ True))) ⟨[(1, S s2)], [.cells [.sp 0 95, .bsl 2 ((x1 ++ ((s2 : Str).map fun b => ((b.toNat : Nat) : Int))).length)], .dead, .row .u8 (x1 ++ ((s2 : Str).map fun b => ((b.toNat : Nat) : Int))) true]⟩ (by kernel_rfl) ⟨trivial, hg6, trivial, trivial⟩ ?_
  refine WO_nil rfl ?_
  refine thenS_n ?_
  refine W_seq ?_
  refine W_region ?_
  refine WO_step 4 [0, 1, 2] [4, 5] (True ∧ True) ⟨[(4, I ((s2.length : Nat) : Int)), (5, .one (.e (.nif)))], [.cells [.sp 0 95, .bsl 2 ((x1 ++ ((s2 : Str).map fun b => ((b.toNat : Nat) : Int))).length)], .dead, .row .u8 (x1 ++ ((s2 : Str).map fun b => ((b.toNat : Nat) : Int))) true]⟩ (by kernel_rfl) ⟨trivial, trivial⟩ ?_
  refine WO_nil rfl ?_
  refine thenS_n ?_
  refine W_ret ?_
  cases h
  exact ⟨[0, 1, 2], True, by kernel_rfl, trivial⟩

/- (*strings.Builder).String -/
def strings_Builder_String (x1 : List Int) : Option (Nat × Str) :=
 guardO (((x1.length : Nat) : Int) = (x1.length : Int) ∧ ∀ x ∈ x1, 0 ≤ x ∧ x ≤ 255) <|
 some (x1.length, (bytesOf x1))

theorem strings_Builder_String_ok (x1 : List Int) (k3 : Nat) (s4 : Str) (h : strings_Builder_String x1 = some (k3, s4)) : FOk EE 76 [.one (.e (.p 0 0))] [.cells [.sp 0 95, .bsl 1 x1.length], .row .u8 x1 true] (S s4) [.cells [.sp 0 95, .bsl 1 k3], .dead] := by
  unfold strings_Builder_String at h
  refine FOk_of_W 14 2 Try.func76 rfl rfl (Nat.le_of_ble_eq_true rfl) rfl (fun w X θ => ?_)
  refine W_seq ?_
  refine W_region ?_
  refine WO_step 1 [0, 1] [0] True ⟨[(0, .one (.e (.p 0 0)))], [.cells [.sp 0 95, .bsl 1 x1.length], .row .u8 x1 true]⟩ (by kernel_rfl) trivial ?_
  refine WO_nil rfl ?_
  refine thenS_n ?_
  refine W_seq ?_
  refine guardO_e h (fun hg5 h => ?_)
  refine W_cut (Q' := fun (e : Exit) (s : St) => e = .normal ∧ s = ⟨[(2, S (bytesOf x1))], [.cells [.sp 0 95, .bsl 1 x1.length], .dead]⟩) ?_ ?_
  · refine W_draw [1] false (by kernel_rfl) (by kernel_rfl) ?_
    refine WD_takeK [0, 1, 2, 5, 6, 7] [5, 10] [5, 10] (φ := True) (ls' := #[true, true, true, false, false, true, true, true, false, false, false, false]) (Ts' := [(5, .one (.e (.p 0 1))), (10, .one (.e (.p 0 1)))]) (st' := ⟨[(5, .one (.e (.p 0 1))), (10, .one (.e (.p 0 1)))], [.cells [.sp 0 95, .bsl 1 x1.length], .row .u8 x1 true]⟩) (n2 := 6) (by kernel_rfl) trivial rfl ?_
    refine WD_all [3, 8] (n := 5) (by kernel_rfl) rfl (And.intro ?_ (?_))
    · refine WM_op (φ := True) (v := .one (.e (.bsl 1 x1.length))) (H' := [.cells [.sp 0 95, .bsl 1 x1.length], .row .u8 x1 true]) rfl rfl (by kernel_rfl) trivial rfl (And.intro (And.intro rfl rfl) (trivial)) ?_
      refine WD_all [4, 8] (n := 4) (by kernel_rfl) rfl (And.intro ?_ (?_))
      · refine WM_op (φ := True) (v := .one (.e (.sd 1))) (H' := [.cells [.sp 0 95, .bsl 1 x1.length], .row .u8 x1 true]) rfl rfl (by kernel_rfl) trivial rfl (And.intro (And.intro rfl rfl) (trivial)) ?_
        refine WD_all [8] (n := 3) (by kernel_rfl) rfl ?_
        refine WM_op (φ := True) (v := .one (.e (.bsl 1 x1.length))) (H' := [.cells [.sp 0 95, .bsl 1 x1.length], .row .u8 x1 true]) rfl rfl (by kernel_rfl) trivial rfl (And.intro (And.intro rfl rfl) (trivial)) ?_
        refine WD_all [9] (n := 2) (by kernel_rfl) rfl ?_
        refine WM_op (φ := True) (v := I ((x1.length : Nat) : Int)) (H' := [.cells [.sp 0 95, .bsl 1 x1.length], .row .u8 x1 true]) rfl rfl (by kernel_rfl) trivial rfl (And.intro (And.intro rfl rfl) (trivial)) ?_
        refine WD_all [10] (n := 1) (by kernel_rfl) rfl ?_
        refine WM_op (φ := ((x1.length : Nat) : Int) = (x1.length : Int) ∧ ∀ x ∈ x1, 0 ≤ x ∧ x ≤ 255) (v := S (bytesOf x1)) (H' := [.cells [.sp 0 95, .bsl 1 x1.length], .dead]) rfl rfl (by kernel_rfl) hg5 rfl (And.intro (And.intro rfl rfl) (trivial)) ?_
        refine WD_takeK [11] [2] [2] (φ := True) (ls' := #[true, true, true, true, true, true, true, true, true, true, true, true]) (Ts' := [(2, S (bytesOf x1))]) (st' := ⟨[(2, S (bytesOf x1))], [.cells [.sp 0 95, .bsl 1 x1.length], .dead]⟩) (n2 := 0) (by kernel_rfl) trivial rfl ?_
        exact WD_done [0, 1] [2] (st' := ⟨[(2, S (bytesOf x1))], [.cells [.sp 0 95, .bsl 1 x1.length], .dead]⟩) (by kernel_rfl) (by kernel_rfl) (And.intro rfl rfl)
      · refine WM_op (φ := True) (v := .one (.e (.bsl 1 x1.length))) (H' := [.cells [.sp 0 95, .bsl 1 x1.length], .row .u8 x1 true]) rfl rfl (by kernel_rfl) trivial rfl (And.intro (And.intro rfl rfl) (trivial)) ?_
        refine WD_all [4, 9] (n := 3) (by kernel_rfl) rfl (And.intro ?_ (?_))
        · refine WM_op (φ := True) (v := .one (.e (.sd 1))) (H' := [.cells [.sp 0 95, .bsl 1 x1.length], .row .u8 x1 true]) rfl rfl (by kernel_rfl) trivial rfl (And.intro (And.intro rfl rfl) (trivial)) ?_
          refine WD_all [9] (n := 2) (by kernel_rfl) rfl ?_
          refine WM_op (φ := True) (v := I ((x1.length : Nat) : Int)) (H' := [.cells [.sp 0 95, .bsl 1 x1.length], .row .u8 x1 true]) rfl rfl (by kernel_rfl) trivial rfl (And.intro (And.intro rfl rfl) (trivial)) ?_
          refine WD_all [10] (n := 1) (by kernel_rfl) rfl ?_
          refine WM_op (φ := ((x1.length : Nat) : Int) = (x1.length : Int) ∧ ∀ x ∈ x1, 0 ≤ x ∧ x ≤ 255) (v := S (bytesOf x1)) (H' := [.cells [.sp 0 95, .bsl 1 x1.length], .dead]) rfl rfl (by kernel_rfl) hg5 rfl (And.intro (And.intro rfl rfl) (trivial)) ?_
          refine WD_takeK [11] [2] [2] (φ := True) (ls' := #[true, true, true, true, true, true, true, true, true, true, true, true]) (Ts' := [(2, S (bytesOf x1))]) (st' := ⟨[(2, S (bytesOf x1))], [.cells [.sp 0 95, .bsl 1 x1.length], .dead]⟩) (n2 := 0) (by kernel_rfl) trivial rfl ?_
          exact WD_done [0, 1] [2] (st' := ⟨[(2, S (bytesOf x1))], [.cells [.sp 0 95, .bsl 1 x1.length], .dead]⟩) (by kernel_rfl) (by kernel_rfl) (And.intro rfl rfl)
        · refine WM_op (φ := True) (v := I ((x1.length : Nat) : Int)) (H' := [.cells [.sp 0 95, .bsl 1 x1.length], .row .u8 x1 true]) rfl rfl (by kernel_rfl) trivial rfl (And.intro (And.intro rfl rfl) (trivial)) ?_
          refine WD_all [4] (n := 2) (by kernel_rfl) rfl ?_
          refine WM_op (φ := True) (v := .one (.e (.sd 1))) (H' := [.cells [.sp 0 95, .bsl 1 x1.length], .row .u8 x1 true]) rfl rfl (by kernel_rfl) trivial rfl (And.intro (And.intro rfl rfl) (trivial)) ?_
          refine WD_all [10] (n := 1) (by kernel_rfl) rfl ?_
          refine WM_op (φ := ((x1.length : Nat) : Int) = (x1.length : Int) ∧ ∀ x ∈ x1, 0 ≤ x ∧ x ≤ 255) (v := S (bytesOf x1)) (H' := [.cells [.sp 0 95, .bsl 1 x1.length], .dead]) rfl rfl (by kernel_rfl) hg5 rfl (And.intro (And.intro rfl rfl) (trivial)) ?_
          refine WD_takeK [11] [2] [2] (φ := True) (ls' := #[true, true, true, true, true, true, true, true, true, true, true, true]) (Ts' := [(2, S (bytesOf x1))]) (st' := ⟨[(2, S (bytesOf x1))], [.cells [.sp 0 95, .bsl 1 x1.length], .dead]⟩) (n2 := 0) (by kernel_rfl) trivial rfl ?_
          exact WD_done [0, 1] [2] (st' := ⟨[(2, S (bytesOf x1))], [.cells [.sp 0 95, .bsl 1 x1.length], .dead]⟩) (by kernel_rfl) (by kernel_rfl) (And.intro rfl rfl)
    · refine WM_op (φ := True) (v := .one (.e (.bsl 1 x1.length))) (H' := [.cells [.sp 0 95, .bsl 1 x1.length], .row .u8 x1 true]) rfl rfl (by kernel_rfl) trivial rfl (And.intro (And.intro rfl rfl) (trivial)) ?_
      refine WD_all [3, 9] (n := 4) (by kernel_rfl) rfl (And.intro ?_ (?_))
      · refine WM_op (φ := True) (v := .one (.e (.bsl 1 x1.length))) (H' := [.cells [.sp 0 95, .bsl 1 x1.length], .row .u8 x1 true]) rfl rfl (by kernel_rfl) trivial rfl (And.intro (And.intro rfl rfl) (trivial)) ?_
        refine WD_all [4, 9] (n := 3) (by kernel_rfl) rfl (And.intro ?_ (?_))
        · refine WM_op (φ := True) (v := .one (.e (.sd 1))) (H' := [.cells [.sp 0 95, .bsl 1 x1.length], .row .u8 x1 true]) rfl rfl (by kernel_rfl) trivial rfl (And.intro (And.intro rfl rfl) (trivial)) ?_
          refine WD_all [9] (n := 2) (by kernel_rfl) rfl ?_
          refine WM_op (φ := True) (v := I ((x1.length : Nat) : Int)) (H' := [.cells [.sp 0 95, .bsl 1 x1.length], .row .u8 x1 true]) rfl rfl (by kernel_rfl) trivial rfl (And.intro (And.intro rfl rfl) (trivial)) ?_
          refine WD_all [10] (n := 1) (by kernel_rfl) rfl ?_
          refine WM_op (φ := ((x1.length : Nat) : Int) = (x1.length : Int) ∧ ∀ x ∈ x1, 0 ≤ x ∧ x ≤ 255) (v := S (bytesOf x1)) (H' := [.cells [.sp 0 95, .bsl 1 x1.length], .dead]) rfl rfl (by kernel_rfl) hg5 rfl (And.intro (And.intro rfl rfl) (trivial)) ?_
          refine WD_takeK [11] [2] [2] (φ := True) (ls' := #[true, true, true, true, true, true, true, true, true, true, true, true]) (Ts' := [(2, S (bytesOf x1))]) (st' := ⟨[(2, S (bytesOf x1))], [.cells [.sp 0 95, .bsl 1 x1.length], .dead]⟩) (n2 := 0) (by kernel_rfl) trivial rfl ?_
          exact WD_done [0, 1] [2] (st' := ⟨[(2, S (bytesOf x1))], [.cells [.sp 0 95, .bsl 1 x1.length], .dead]⟩) (by kernel_rfl) (by kernel_rfl) (And.intro rfl rfl)
        · refine WM_op (φ := True) (v := I ((x1.length : Nat) : Int)) (H' := [.cells [.sp 0 95, .bsl 1 x1.length], .row .u8 x1 true]) rfl rfl (by kernel_rfl) trivial rfl (And.intro (And.intro rfl rfl) (trivial)) ?_
          refine WD_all [4] (n := 2) (by kernel_rfl) rfl ?_
          refine WM_op (φ := True) (v := .one (.e (.sd 1))) (H' := [.cells [.sp 0 95, .bsl 1 x1.length], .row .u8 x1 true]) rfl rfl (by kernel_rfl) trivial rfl (And.intro (And.intro rfl rfl) (trivial)) ?_
          refine WD_all [10] (n := 1) (by kernel_rfl) rfl ?_
          refine WM_op (φ := ((x1.length : Nat) : Int) = (x1.length : Int) ∧ ∀ x ∈ x1, 0 ≤ x ∧ x ≤ 255) (v := S (bytesOf x1)) (H' := [.cells [.sp 0 95, .bsl 1 x1.length], .dead]) rfl rfl (by kernel_rfl) hg5 rfl (And.intro (And.intro rfl rfl) (trivial)) ?_
          refine WD_takeK [11] [2] [2] (φ := True) (ls' := #[true, true, true, true, true, true, true, true, true, true, true, true]) (Ts' := [(2, S (bytesOf x1))]) (st' := ⟨[(2, S (bytesOf x1))], [.cells [.sp 0 95, .bsl 1 x1.length], .dead]⟩) (n2 := 0) (by kernel_rfl) trivial rfl ?_
          exact WD_done [0, 1] [2] (st' := ⟨[(2, S (bytesOf x1))], [.cells [.sp 0 95, .bsl 1 x1.length], .dead]⟩) (by kernel_rfl) (by kernel_rfl) (And.intro rfl rfl)
      · refine WM_op (φ := True) (v := I ((x1.length : Nat) : Int)) (H' := [.cells [.sp 0 95, .bsl 1 x1.length], .row .u8 x1 true]) rfl rfl (by kernel_rfl) trivial rfl (And.intro (And.intro rfl rfl) (trivial)) ?_
        refine WD_all [3] (n := 3) (by kernel_rfl) rfl ?_
        refine WM_op (φ := True) (v := .one (.e (.bsl 1 x1.length))) (H' := [.cells [.sp 0 95, .bsl 1 x1.length], .row .u8 x1 true]) rfl rfl (by kernel_rfl) trivial rfl (And.intro (And.intro rfl rfl) (trivial)) ?_
        refine WD_all [4] (n := 2) (by kernel_rfl) rfl ?_
        refine WM_op (φ := True) (v := .one (.e (.sd 1))) (H' := [.cells [.sp 0 95, .bsl 1 x1.length], .row .u8 x1 true]) rfl rfl (by kernel_rfl) trivial rfl (And.intro (And.intro rfl rfl) (trivial)) ?_
        refine WD_all [10] (n := 1) (by kernel_rfl) rfl ?_
        refine WM_op (φ := ((x1.length : Nat) : Int) = (x1.length : Int) ∧ ∀ x ∈ x1, 0 ≤ x ∧ x ≤ 255) (v := S (bytesOf x1)) (H' := [.cells [.sp 0 95, .bsl 1 x1.length], .dead]) rfl rfl (by kernel_rfl) hg5 rfl (And.intro (And.intro rfl rfl) (trivial)) ?_
        refine WD_takeK [11] [2] [2] (φ := True) (ls' := #[true, true, true, true, true, true, true, true, true, true, true, true]) (Ts' := [(2, S (bytesOf x1))]) (st' := ⟨[(2, S (bytesOf x1))], [.cells [.sp 0 95, .bsl 1 x1.length], .dead]⟩) (n2 := 0) (by kernel_rfl) trivial rfl ?_
        exact WD_done [0, 1] [2] (st' := ⟨[(2, S (bytesOf x1))], [.cells [.sp 0 95, .bsl 1 x1.length], .dead]⟩) (by kernel_rfl) (by kernel_rfl) (And.intro rfl rfl)
  · rintro _ _ ⟨rfl, rfl⟩
    refine thenS_n ?_
    refine W_ret ?_
    cases h
    exact ⟨[0, 1], True, by kernel_rfl, trivial⟩

/- impl.PathText -/
def impl_PathText_L1 (x1 : List Nod) (x81 : List Int) : Nat → (List Int) → Int → Option ((List Int))
| 0, _, _ => none
| n + 1, x112, i113 =>
 iteO (decide (i113 < (((x81.length - 1) : Nat) : Int)))
 (guardO (0 ≤ i113 ∧ i113 < (((x81.length - 1) : Nat) : Int)) <|
 bindO (strings_Builder_WriteByte x112 47) fun x147 =>
 guardO (0 ≤ (x81.getD (1 + i113.toNat) 0) ∧ (x81.getD (1 + i113.toNat) 0) < ((x1.length : Nat) : Int)) <|
 bindO (strings_Builder_WriteString x147 ((x1.getD ((x81.getD (1 + i113.toNat) 0).toNat) dnod).name)) fun (x150, i151) =>
 impl_PathText_L1 x1 x81 n x150 (w64 (i113 + 1)))
 (some x112)

theorem impl_PathText_L1_ok (w : World) (X : Nat → Prop) (θ : List Loc) (x1 : List Nod) (x81 : List Int) (x134 : (List Int)) : ∀ (n : Nat) (x112 : List Int) (i113 : Int), impl_PathText_L1 x1 x81 n x112 i113 = some x134 → WL EE ⟨w, X, θ, 34, 1⟩ (subC [1, 1, 1, 1, 1, 0, 1, 4, 4] (bodyC Try.f53)) (fun (e : Exit) (s : St) => e = .exit 0 ∧ s = ⟨[(6, .one (.e (.p 1 0)))], [.row .nod x1 false, .cells [.sp 1 95, .bsl 2 x134.length], .row .u8 x134 true]⟩) ⟨[(0, .one (.e (.sl 0 0 x1.length))), (6, .one (.e (.p 1 0))), (19, .one (.e (.sl 2 1 (x81.length - 1)))), (20, I (((x81.length - 1) : Nat) : Int)), (21, I i113)], [.row .nod x1 false, .cells [.sp 1 95, .bsl 3 x112.length], .row .int x81 true, .row .u8 x112 true]⟩ := by
  intro n
  induction n with
  | zero => intro _ _ h; exact none_e h
  | succ n ih =>
    intro x112 i113 h
    rw [impl_PathText_L1] at h
    refine WL_round ?_
    refine W_seq ?_
    refine W_region ?_
    refine WO_step 1 [0, 1, 2, 3] [0, 6, 19, 20, 21, 22] (True ∧ True) ⟨[(0, .one (.e (.sl 0 0 x1.length))), (6, .one (.e (.p 1 0))), (19, .one (.e (.sl 2 1 (x81.length - 1)))), (20, I (((x81.length - 1) : Nat) : Int)), (21, I i113), (22, B (decide (i113 < (((x81.length - 1) : Nat) : Int))))], [.row .nod x1 false, .cells [.sp 1 95, .bsl 3 x112.length], .row .int x81 true, .row .u8 x112 true]⟩ (by kernel_rfl) ⟨trivial, trivial⟩ ?_
    refine WO_nil rfl ?_
    refine thenS_n ?_
    refine W_seq ?_
    refine iteO_e h (fun hb137 h => W_true rfl hb137 ?_) (fun hb137 h => W_false rfl hb137 ?_)
    · refine W_sub [0, 1, 2, 3] [0, 6, 19, 20, 21] (st' := ⟨[(0, .one (.e (.sl 0 0 x1.length))), (6, .one (.e (.p 1 0))), (19, .one (.e (.sl 2 1 (x81.length - 1)))), (20, I (((x81.length - 1) : Nat) : Int)), (21, I i113)], [.row .nod x1 false, .cells [.sp 1 95, .bsl 3 x112.length], .row .int x81 true, .row .u8 x112 true]⟩) (by kernel_rfl) ?_
      refine W_skip ?_
      refine thenS_n ?_
      refine W_seq ?_
      refine W_block ?_
      refine W_seq ?_
      refine W_region ?_
      refine guardO_e h (fun hg146 h => ?_)
      refine WO_step 3 [0, 1, 2, 3] [0, 6, 8, 19, 20, 21] ((0 ≤ i113 ∧ i113 < (((x81.length - 1) : Nat) : Int)) ∧ (True ∧ True)) ⟨[(0, .one (.e (.sl 0 0 x1.length))), (6, .one (.e (.p 1 0))), (8, I (x81.getD (1 + i113.toNat) 0)), (19, .one (.e (.sl 2 1 (x81.length - 1)))), (20, I (((x81.length - 1) : Nat) : Int)), (21, I i113)], [.row .nod x1 false, .cells [.sp 1 95, .bsl 3 x112.length], .row .int x81 true, .row .u8 x112 true]⟩ (by kernel_rfl) ⟨hg146, trivial, trivial⟩ ?_
      refine WO_nil rfl ?_
      refine thenS_n ?_
      refine W_seq ?_
      refine W_region ?_
      refine bindO_e h (fun x147 hc148 h => ?_)
      refine WO_call [.own 1, .own 3] Try.f74 rfl rfl rfl (by kernel_rfl) Try.func74 rfl (by kernel_rfl) (strings_Builder_WriteByte_ok x112 47 x147 hc148) (And.intro (trivial) (And.intro (trivial) (trivial))) rfl ?_
      refine WO_sub [0, 1, 2, 4] [0, 6, 8, 19, 20, 21] (st' := ⟨[(0, .one (.e (.sl 0 0 x1.length))), (6, .one (.e (.p 1 0))), (8, I (x81.getD (1 + i113.toNat) 0)), (19, .one (.e (.sl 2 1 (x81.length - 1)))), (20, I (((x81.length - 1) : Nat) : Int)), (21, I i113)], [.row .nod x1 false, .cells [.sp 1 95, .bsl 3 x147.length], .row .int x81 true, .row .u8 x147 true]⟩) (by kernel_rfl) ?_
      refine WO_nil rfl ?_
      refine thenS_n ?_
      refine W_region ?_
      refine guardO_e h (fun hg149 h => ?_)
      refine WO_step 5 [0, 1, 2, 3] [0, 6, 19, 20, 21, 30] ((0 ≤ (x81.getD (1 + i113.toNat) 0) ∧ (x81.getD (1 + i113.toNat) 0) < ((x1.length : Nat) : Int)) ∧ (True ∧ True)) ⟨[(0, .one (.e (.sl 0 0 x1.length))), (6, .one (.e (.p 1 0))), (19, .one (.e (.sl 2 1 (x81.length - 1)))), (20, I (((x81.length - 1) : Nat) : Int)), (21, I i113), (30, S ((x1.getD ((x81.getD (1 + i113.toNat) 0).toNat) dnod).name))], [.row .nod x1 false, .cells [.sp 1 95, .bsl 3 x147.length], .row .int x81 true, .row .u8 x147 true]⟩ (by kernel_rfl) ⟨hg149, trivial, trivial⟩ ?_
      refine bindO_e h (fun v153 hc152 h => ?_)
      obtain ⟨x150, i151⟩ := v153
      refine WO_call [.own 1, .own 3] Try.f75 rfl rfl rfl (by kernel_rfl) Try.func75 rfl (by kernel_rfl) (strings_Builder_WriteString_ok x147 ((x1.getD ((x81.getD (1 + i113.toNat) 0).toNat) dnod).name) x150 i151 hc152) (And.intro (trivial) (And.intro (trivial) (trivial))) rfl ?_
      refine WO_sub [0, 1, 2, 4] [0, 6, 19, 20, 21] (st' := ⟨[(0, .one (.e (.sl 0 0 x1.length))), (6, .one (.e (.p 1 0))), (19, .one (.e (.sl 2 1 (x81.length - 1)))), (20, I (((x81.length - 1) : Nat) : Int)), (21, I i113)], [.row .nod x1 false, .cells [.sp 1 95, .bsl 3 x150.length], .row .int x81 true, .row .u8 x150 true]⟩) (by kernel_rfl) ?_
      refine WO_nil rfl ?_
      refine blockS_n ?_
      refine thenS_n ?_
      refine W_region ?_
      refine WO_step 2 [0, 1, 2, 3] [0, 6, 19, 20, 21] (True ∧ True) ⟨[(0, .one (.e (.sl 0 0 x1.length))), (6, .one (.e (.p 1 0))), (19, .one (.e (.sl 2 1 (x81.length - 1)))), (20, I (((x81.length - 1) : Nat) : Int)), (21, I (w64 (i113 + 1)))], [.row .nod x1 false, .cells [.sp 1 95, .bsl 3 x150.length], .row .int x81 true, .row .u8 x150 true]⟩ (by kernel_rfl) ⟨trivial, trivial⟩ ?_
      refine WO_nil rfl ?_
      refine thenS_n ?_
      exact ih _ _ h
    · refine W_sub [0, 1, 3] [6] (st' := ⟨[(6, .one (.e (.p 1 0)))], [.row .nod x1 false, .cells [.sp 1 95, .bsl 2 x112.length], .row .u8 x112 true]⟩) (by kernel_rfl) ?_
      refine W_exit ?_
      refine thenS_e ?_
      refine thenS_e ?_
      cases h
      exact And.intro rfl rfl

def impl_PathText (n : Nat) (x1 : List Nod) (i2 : Int) : Option (Str) :=
 bindO (impl_PathTo n x1 i2) fun x81 =>
 iteO (decide (((x81.length : Nat) : Int) = 0))
 (some [])
 (iteO (decide (((x81.length : Nat) : Int) = 1))
 (some [47])
 (guardO (0 ≤ (1 : Int) ∧ (1 : Int) ≤ ((x81.length : Nat) : Int)) <|
 bindO (impl_PathText_L1 x1 x81 n ([] : List Int) 0) fun x134 =>
 bindO (strings_Builder_String x134) fun (k155, s156) =>
 some s156))

theorem impl_PathText_ok (n : Nat) (x1 : List Nod) (i2 : Int) (s80 : Str) (h : impl_PathText n x1 i2 = some s80) : FOk EE 53 [.one (.e (.sl 0 0 x1.length)), I i2] [.row .nod x1 false] (S s80) [.row .nod x1 false] := by
  unfold impl_PathText at h
  refine FOk_of_W 34 1 Try.func53 rfl rfl (Nat.le_of_ble_eq_true rfl) rfl (fun w X θ => ?_)
  refine W_seq ?_
  refine W_region ?_
  refine WO_step 1 [0] [0, 1] True ⟨[(0, .one (.e (.sl 0 0 x1.length))), (1, I i2)], [.row .nod x1 false]⟩ (by kernel_rfl) trivial ?_
  refine WO_nil rfl ?_
  refine thenS_n ?_
  refine W_seq ?_
  refine W_region ?_
  refine WO_step 2 [0] [0, 9, 10] True ⟨[(0, .one (.e (.sl 0 0 x1.length))), (9, .one (.e (.sl 0 0 x1.length))), (10, I i2)], [.row .nod x1 false]⟩ (by kernel_rfl) trivial ?_
  refine bindO_e h (fun x81 hc82 h => ?_)
  refine WO_call [.ro 0] Try.f73 rfl rfl rfl (by kernel_rfl) Try.func73 rfl (by kernel_rfl) (impl_PathTo_ok n x1 i2 x81 hc82) (And.intro (And.intro rfl rfl) (trivial)) rfl ?_
  refine WO_step 1 [0, 1] [0, 5] True ⟨[(0, .one (.e (.sl 0 0 x1.length))), (5, .one (.e (.sl 1 0 x81.length)))], [.row .nod x1 false, .row .int x81 true]⟩ (by kernel_rfl) trivial ?_
  refine WO_nil rfl ?_
  refine thenS_n ?_
  refine W_seq ?_
  refine W_seq ?_
  refine W_region ?_
  refine WO_step 3 [0, 1] [0, 5, 14] (True ∧ (True ∧ True)) ⟨[(0, .one (.e (.sl 0 0 x1.length))), (5, .one (.e (.sl 1 0 x81.length))), (14, B (decide (((x81.length : Nat) : Int) = 0)))], [.row .nod x1 false, .row .int x81 true]⟩ (by kernel_rfl) ⟨trivial, trivial, trivial⟩ ?_
  refine WO_nil rfl ?_
  refine thenS_n ?_
  refine iteO_e h (fun hb84 h => W_true rfl hb84 ?_) (fun hb84 h => W_false rfl hb84 ?_)
  · refine W_seq ?_
    refine W_region ?_
    refine WO_step 1 [0] [4] True ⟨[(4, S [])], [.row .nod x1 false]⟩ (by kernel_rfl) trivial ?_
    refine WO_nil rfl ?_
    refine thenS_n ?_
    refine W_ret ?_
    refine thenS_r ?_
    cases h
    exact ⟨[0], True, by kernel_rfl, trivial⟩
  · refine W_sub [0, 1] [0, 5] (st' := ⟨[(0, .one (.e (.sl 0 0 x1.length))), (5, .one (.e (.sl 1 0 x81.length)))], [.row .nod x1 false, .row .int x81 true]⟩) (by kernel_rfl) ?_
    refine W_skip ?_
    refine thenS_n ?_
    refine W_seq ?_
    refine W_seq ?_
    refine W_region ?_
    refine WO_step 3 [0, 1] [0, 5, 17] (True ∧ (True ∧ True)) ⟨[(0, .one (.e (.sl 0 0 x1.length))), (5, .one (.e (.sl 1 0 x81.length))), (17, B (decide (((x81.length : Nat) : Int) = 1)))], [.row .nod x1 false, .row .int x81 true]⟩ (by kernel_rfl) ⟨trivial, trivial, trivial⟩ ?_
    refine WO_nil rfl ?_
    refine thenS_n ?_
    refine iteO_e h (fun hb86 h => W_true rfl hb86 ?_) (fun hb86 h => W_false rfl hb86 ?_)
    · refine W_seq ?_
      refine W_region ?_
      refine WO_step 1 [0] [4] True ⟨[(4, S [47])], [.row .nod x1 false]⟩ (by kernel_rfl) trivial ?_
      refine WO_nil rfl ?_
      refine thenS_n ?_
      refine W_ret ?_
      refine thenS_r ?_
      cases h
      exact ⟨[0], True, by kernel_rfl, trivial⟩
    · refine W_sub [0, 1] [0, 5] (st' := ⟨[(0, .one (.e (.sl 0 0 x1.length))), (5, .one (.e (.sl 1 0 x81.length)))], [.row .nod x1 false, .row .int x81 true]⟩) (by kernel_rfl) ?_
      refine W_skip ?_
      refine thenS_n ?_
      refine W_seq ?_
      refine W_region ?_
      refine WO_step 1 [0, 1, 2] [0, 5, 6] (True ∧ True) ⟨[(0, .one (.e (.sl 0 0 x1.length))), (5, .one (.e (.sl 1 0 x81.length))), (6, .one (.e (.p 2 0)))], [.row .nod x1 false, .row .int x81 true, .cells [.sp 2 95, .nsl]]⟩ (by kernel_rfl) ⟨trivial, trivial⟩ ?_
      refine WO_bld 2 rfl ?_
      refine WO_nil rfl ?_
      refine thenS_n ?_
      refine W_seq ?_
      refine W_seq ?_
      refine W_region ?_
      refine guardO_e h (fun hg87 h => ?_)
      refine WO_step 4 [0, 2, 1, 3] [0, 6, 19, 20, 21] ((0 ≤ (1 : Int) ∧ (1 : Int) ≤ ((x81.length : Nat) : Int)) ∧ (True ∧ True)) ⟨[(0, .one (.e (.sl 0 0 x1.length))), (6, .one (.e (.p 1 0))), (19, .one (.e (.sl 2 1 (x81.length - 1)))), (20, I (((x81.length - 1) : Nat) : Int)), (21, I 0)], [.row .nod x1 false, .cells [.sp 1 95, .bsl 3 (([] : List Int).length)], .row .int x81 true, .row .u8 ([] : List Int) true]⟩ (by kernel_rfl) ⟨hg87, trivial, trivial⟩ ?_
      refine WO_nil rfl ?_
      refine thenS_n ?_
      refine W_block ?_
      refine W_loop ?_
      refine bindO_e h (fun x134 hx134 h => ?_)
      refine WL_cut (impl_PathText_L1_ok w X θ x1 x81 x134 n ([] : List Int) 0 hx134) ?_
      rintro _ _ ⟨rfl, rfl⟩
      refine blockS_y ?_
      refine thenS_n ?_
      refine W_seq ?_
      refine W_region ?_
      refine bindO_e h (fun v158 hc157 h => ?_)
      obtain ⟨k155, s156⟩ := v158
      refine WO_call [.own 1, .own 2] Try.f76 rfl rfl rfl (by kernel_rfl) Try.func76 rfl (by kernel_rfl) (strings_Builder_String_ok x134 k155 s156 hc157) (And.intro (trivial) (And.intro (trivial) (trivial))) rfl ?_
      refine WO_step 1 [0] [4] True ⟨[(4, S s156)], [.row .nod x1 false]⟩ (by kernel_rfl) trivial ?_
      refine WO_nil rfl ?_
      refine thenS_n ?_
      refine W_ret ?_
      cases h
      exact ⟨[0], True, by kernel_rfl, trivial⟩

/- impl.addPath -/
def impl_addPath (n : Nat) (x1 : List Nod) (s2 : Str) (i3 : Int) : Option ((List Nod) × Bool) :=
 bindO (impl_upperNode n x1 s2) fun i26 =>
 bindO (strings_LastIndexByte n s2 47) fun i28 =>
 guardO (0 ≤ (w64 (i28 + 1)) ∧ (w64 (i28 + 1)) ≤ ((s2.length : Nat) : Int)) <|
 bindO (impl_AddNode n x1 i26 (s2.drop ((w64 (i28 + 1)).toNat)) i3) fun (x31, i32, b33) =>
 bindO (iteO (!b33)
 (some true)
 (bindO (impl_PathText n x31 i32) fun s41 =>
 some (!decide (s41 = s2)))) fun b38 =>
 iteO b38
 (some (([] : List Nod), false))
 (some (x31, true))

theorem impl_addPath_ok (n : Nat) (x1 : List Nod) (s2 : Str) (i3 : Int) (x24 : List Nod) (b25 : Bool) (h : impl_addPath n x1 s2 i3 = some (x24, b25)) : FOk EE 63 [.one (.e (.sl 0 0 x1.length)), S s2, I i3] [.row .nod x1 false] (.tup [.e (.sl 1 0 x24.length), .e (cB b25)]) [.row .nod x1 false, .row .nod x24 true] := by
  unfold impl_addPath at h
  refine FOk_of_W 36 1 Try.func63 rfl rfl (Nat.le_of_ble_eq_true rfl) rfl (fun w X θ => ?_)
  refine W_seq ?_
  refine W_region ?_
  refine WO_step 2 [0] [0, 1, 2] True ⟨[(0, .one (.e (.sl 0 0 x1.length))), (1, S s2), (2, I i3)], [.row .nod x1 false]⟩ (by kernel_rfl) trivial ?_
  refine WO_nil rfl ?_
  refine thenS_n ?_
  refine W_seq ?_
  refine W_region ?_
  refine WO_step 3 [0] [1, 2, 12, 13, 14] True ⟨[(1, S s2), (2, I i3), (12, .one (.e (.sl 0 0 x1.length))), (13, .one (.e (.sl 0 0 x1.length))), (14, S s2)], [.row .nod x1 false]⟩ (by kernel_rfl) trivial ?_
  refine bindO_e h (fun i26 hc27 h => ?_)
  refine WO_call [.ro 0] Try.f81 rfl rfl rfl (by kernel_rfl) Try.func81 rfl (by kernel_rfl) (impl_upperNode_ok n x1 s2 i26 hc27) (And.intro (And.intro rfl rfl) (trivial)) rfl ?_
  refine WO_step 2 [0] [1, 2, 12, 15, 16, 17] True ⟨[(1, S s2), (2, I i3), (12, .one (.e (.sl 0 0 x1.length))), (15, I i26), (16, S s2), (17, S s2)], [.row .nod x1 false]⟩ (by kernel_rfl) trivial ?_
  refine bindO_e h (fun i28 hc29 h => ?_)
  refine WO_call [] Try.f82 rfl rfl rfl (by kernel_rfl) Try.func82 rfl (by kernel_rfl) (strings_LastIndexByte_ok n s2 47 i28 hc29) (trivial) rfl ?_
  refine guardO_e h (fun hg30 h => ?_)
  refine WO_step 3 [0] [1, 12, 15, 20, 21] (True ∧ ((0 ≤ (w64 (i28 + 1)) ∧ (w64 (i28 + 1)) ≤ ((s2.length : Nat) : Int)) ∧ True)) ⟨[(1, S s2), (12, .one (.e (.sl 0 0 x1.length))), (15, I i26), (20, S (s2.drop ((w64 (i28 + 1)).toNat))), (21, I i3)], [.row .nod x1 false]⟩ (by kernel_rfl) ⟨trivial, hg30, trivial⟩ ?_
  refine bindO_e h (fun v45 hc34 h => ?_)
  obtain ⟨x31, i32, b33⟩ := v45
  refine WO_call [.ro 0] Try.f80 rfl rfl rfl (by kernel_rfl) Try.func80 rfl (by kernel_rfl) (impl_AddNode_ok n x1 i26 (s2.drop ((w64 (i28 + 1)).toNat)) i3 x31 i32 b33 hc34) (And.intro (And.intro rfl rfl) (trivial)) rfl ?_
  refine WO_step 7 [0, 1] [1, 8, 9, 10] True ⟨[(1, S s2), (8, .one (.e (.sl 1 0 x31.length))), (9, I i32), (10, B b33)], [.row .nod x1 false, .row .nod x31 true]⟩ (by kernel_rfl) trivial ?_
  refine WO_nil rfl ?_
  refine thenS_n ?_
  refine W_seq ?_
  refine W_seq ?_
  refine W_region ?_
  refine WO_step 3 [0, 1] [1, 8, 9, 28] True ⟨[(1, S s2), (8, .one (.e (.sl 1 0 x31.length))), (9, I i32), (28, B (!b33))], [.row .nod x1 false, .row .nod x31 true]⟩ (by kernel_rfl) trivial ?_
  refine bindO_e h (fun b38 hv39 h => ?_)
  refine WO_thru ⟨[(8, .one (.e (.sl 1 0 x31.length))), (34, B b38)], [.row .nod x1 false, .row .nod x31 true]⟩ ?_ ?_
  · refine iteO_e hv39 (fun hb40 hv39 => WO_known 28 true rfl hb40 ?_) (fun hb40 hv39 => WO_known 28 false rfl hb40 ?_)
    · refine WO_step 6 [0, 1] [8, 34] True ⟨[(8, .one (.e (.sl 1 0 x31.length))), (34, B true)], [.row .nod x1 false, .row .nod x31 true]⟩ (by kernel_rfl) trivial ?_
      cases hv39
      exact WO_nil rfl ⟨rfl, rfl⟩
    · refine WO_step 2 [0, 1] [1, 8, 28, 29, 30] True ⟨[(1, S s2), (8, .one (.e (.sl 1 0 x31.length))), (28, B false), (29, .one (.e (.sl 1 0 x31.length))), (30, I i32)], [.row .nod x1 false, .row .nod x31 true]⟩ (by kernel_rfl) trivial ?_
      refine bindO_e hv39 (fun s41 hc42 hv39 => ?_)
      refine WO_call [.ro 1] Try.f53 rfl rfl rfl (by kernel_rfl) Try.func53 rfl (by kernel_rfl) (impl_PathText_ok n x31 i32 s41 hc42) (And.intro (And.intro rfl rfl) (trivial)) rfl ?_
      refine WO_step 3 [0, 1] [8, 34] (True ∧ True) ⟨[(8, .one (.e (.sl 1 0 x31.length))), (34, B (!decide (s41 = s2)))], [.row .nod x1 false, .row .nod x31 true]⟩ (by kernel_rfl) ⟨trivial, trivial⟩ ?_
      cases hv39
      exact WO_nil rfl ⟨rfl, rfl⟩
  · refine thenS_n ?_
    refine iteO_e h (fun hb44 h => W_true rfl hb44 ?_) (fun hb44 h => W_false rfl hb44 ?_)
    · refine W_seq ?_
      refine W_region ?_
      refine WO_step 2 [0] [6, 7] True ⟨[(6, .one (.e (.nsl))), (7, B false)], [.row .nod x1 false]⟩ (by kernel_rfl) trivial ?_
      refine WO_nilrow 6 .nod rfl ?_
      refine WO_sub [0, 1] [6, 7] (st' := ⟨[(6, .one (.e (.sl 1 0 (([] : List Nod).length)))), (7, B false)], [.row .nod x1 false, .row .nod ([] : List Nod) true]⟩) (by kernel_rfl) ?_
      refine WO_nil rfl ?_
      refine thenS_n ?_
      refine W_ret ?_
      refine thenS_r ?_
      cases h
      exact ⟨[0, 1], True, by kernel_rfl, trivial⟩
    · refine W_sub [0, 1] [8] (st' := ⟨[(8, .one (.e (.sl 1 0 x31.length)))], [.row .nod x1 false, .row .nod x31 true]⟩) (by kernel_rfl) ?_
      refine W_skip ?_
      refine thenS_n ?_
      refine W_seq ?_
      refine W_region ?_
      refine WO_step 3 [0, 1] [6, 7] True ⟨[(6, .one (.e (.sl 1 0 x31.length))), (7, B true)], [.row .nod x1 false, .row .nod x31 true]⟩ (by kernel_rfl) trivial ?_
      refine WO_nil rfl ?_
      refine thenS_n ?_
      refine W_ret ?_
      cases h
      exact ⟨[0, 1], True, by kernel_rfl, trivial⟩

/- impl.applyEdit -/
def impl_applyEdit (n : Nat) (x1 : List Nod) (x2 : Edt) : Option ((List Nod) × Bool) :=
 bindO (impl_ResolvePath n x1 x2.path) fun i155 =>
 iteO (decide (x2.kind = 1))
 (iteO (!decide (x2.value = 0))
 (some (([] : List Nod), false))
 (bindO (impl_DropNode n x1 i155) fun (x271, b272) =>
 some (x271, b272)))
 (iteO (decide (x2.kind = 0))
 (iteO (decide (0 ≤ i155))
 (bindO (impl_SetValue n x1 i155 x2.value) fun (x297, b298) =>
 some (x297, b298))
 (bindO (impl_addPath n x1 x2.path x2.value) fun (x301, b302) =>
 some (x301, b302)))
 (some (([] : List Nod), false)))

theorem impl_applyEdit_ok (n : Nat) (x1 : List Nod) (x2 : Edt) (x153 : List Nod) (b154 : Bool) (h : impl_applyEdit n x1 x2 = some (x153, b154)) : FOk EE 36 [.one (.e (.sl 0 0 x1.length)), AGG [cI x2.kind, cS x2.path, cI x2.value]] [.row .nod x1 false] (.tup [.e (.sl 1 0 x153.length), .e (cB b154)]) [.row .nod x1 false, .row .nod x153 true] := by
  unfold impl_applyEdit at h
  refine FOk_of_W 42 1 Try.func36 rfl rfl (Nat.le_of_ble_eq_true rfl) rfl (fun w X θ => ?_)
  refine W_seq ?_
  refine W_region ?_
  refine WO_step 3 [0, 1] [0, 3] (True ∧ True) ⟨[(0, .one (.e (.sl 0 0 x1.length))), (3, .one (.e (.p 1 0)))], [.row .nod x1 false, .cells [cI x2.kind, cS x2.path, cI x2.value]]⟩ (by kernel_rfl) ⟨trivial, trivial⟩ ?_
  refine WO_nil rfl ?_
  refine thenS_n ?_
  refine W_seq ?_
  refine W_region ?_
  refine WO_step 3 [0, 1] [0, 3, 7, 9] (True ∧ True) ⟨[(0, .one (.e (.sl 0 0 x1.length))), (3, .one (.e (.p 1 0))), (7, .one (.e (.sl 0 0 x1.length))), (9, S x2.path)], [.row .nod x1 false, .cells [cI x2.kind, cS x2.path, cI x2.value]]⟩ (by kernel_rfl) ⟨trivial, trivial⟩ ?_
  refine bindO_e h (fun i155 hc156 h => ?_)
  refine WO_call [.ro 0] Try.f14 rfl rfl rfl (by kernel_rfl) Try.func14 rfl (by kernel_rfl) (impl_ResolvePath_ok n x1 x2.path i155 hc156) (And.intro (And.intro rfl rfl) (trivial)) rfl ?_
  refine WO_step 1 [0, 1] [0, 3, 6] True ⟨[(0, .one (.e (.sl 0 0 x1.length))), (3, .one (.e (.p 1 0))), (6, I i155)], [.row .nod x1 false, .cells [cI x2.kind, cS x2.path, cI x2.value]]⟩ (by kernel_rfl) trivial ?_
  refine WO_nil rfl ?_
  refine thenS_n ?_
  refine W_seq ?_
  refine W_seq ?_
  refine W_region ?_
  refine WO_step 2 [0, 1] [0, 3, 6, 12] (True ∧ True) ⟨[(0, .one (.e (.sl 0 0 x1.length))), (3, .one (.e (.p 1 0))), (6, I i155), (12, I x2.kind)], [.row .nod x1 false, .cells [cI x2.kind, cS x2.path, cI x2.value]]⟩ (by kernel_rfl) ⟨trivial, trivial⟩ ?_
  refine WO_nil rfl ?_
  refine thenS_n ?_
  refine W_block ?_
  refine W_seq ?_
  refine W_region ?_
  refine WO_step 2 [0, 1] [0, 3, 6, 12, 13] (True ∧ True) ⟨[(0, .one (.e (.sl 0 0 x1.length))), (3, .one (.e (.p 1 0))), (6, I i155), (12, I x2.kind), (13, B (decide (x2.kind = 1)))], [.row .nod x1 false, .cells [cI x2.kind, cS x2.path, cI x2.value]]⟩ (by kernel_rfl) ⟨trivial, trivial⟩ ?_
  refine WO_nil rfl ?_
  refine thenS_n ?_
  refine iteO_e h (fun hb268 h => W_true rfl hb268 ?_) (fun hb268 h => W_false rfl hb268 ?_)
  · refine W_seq ?_
    refine W_seq ?_
    refine W_region ?_
    refine WO_step 3 [0] [0, 6, 17] (True ∧ (True ∧ True)) ⟨[(0, .one (.e (.sl 0 0 x1.length))), (6, I i155), (17, B (!decide (x2.value = 0)))], [.row .nod x1 false]⟩ (by kernel_rfl) ⟨trivial, trivial, trivial⟩ ?_
    refine WO_nil rfl ?_
    refine thenS_n ?_
    refine iteO_e h (fun hb270 h => W_true rfl hb270 ?_) (fun hb270 h => W_false rfl hb270 ?_)
    · refine W_seq ?_
      refine W_region ?_
      refine WO_step 2 [0] [4, 5] True ⟨[(4, .one (.e (.nsl))), (5, B false)], [.row .nod x1 false]⟩ (by kernel_rfl) trivial ?_
      refine WO_nilrow 4 .nod rfl ?_
      refine WO_sub [0, 1] [4, 5] (st' := ⟨[(4, .one (.e (.sl 1 0 (([] : List Nod).length)))), (5, B false)], [.row .nod x1 false, .row .nod ([] : List Nod) true]⟩) (by kernel_rfl) ?_
      refine WO_nil rfl ?_
      refine thenS_n ?_
      refine W_ret ?_
      refine thenS_r ?_
      refine blockS_r ?_
      refine thenS_r ?_
      cases h
      exact ⟨[0, 1], True, by kernel_rfl, trivial⟩
    · refine W_sub [0] [0, 6] (st' := ⟨[(0, .one (.e (.sl 0 0 x1.length))), (6, I i155)], [.row .nod x1 false]⟩) (by kernel_rfl) ?_
      refine W_skip ?_
      refine thenS_n ?_
      refine W_seq ?_
      refine W_region ?_
      refine WO_step 2 [0] [18, 19] True ⟨[(18, .one (.e (.sl 0 0 x1.length))), (19, I i155)], [.row .nod x1 false]⟩ (by kernel_rfl) trivial ?_
      refine bindO_e h (fun v274 hc273 h => ?_)
      obtain ⟨x271, b272⟩ := v274
      refine WO_call [.ro 0] Try.f61 rfl rfl rfl (by kernel_rfl) Try.func61 rfl (by kernel_rfl) (impl_DropNode_ok n x1 i155 x271 b272 hc273) (And.intro (And.intro rfl rfl) (trivial)) rfl ?_
      refine WO_step 4 [0, 1] [4, 5] True ⟨[(4, .one (.e (.sl 1 0 x271.length))), (5, B b272)], [.row .nod x1 false, .row .nod x271 true]⟩ (by kernel_rfl) trivial ?_
      refine WO_nil rfl ?_
      refine thenS_n ?_
      refine W_ret ?_
      refine blockS_r ?_
      refine thenS_r ?_
      cases h
      exact ⟨[0, 1], True, by kernel_rfl, trivial⟩
  · refine W_seq ?_
    refine W_region ?_
    refine WO_step 2 [0, 1] [0, 3, 6, 23] (True ∧ True) ⟨[(0, .one (.e (.sl 0 0 x1.length))), (3, .one (.e (.p 1 0))), (6, I i155), (23, B (decide (x2.kind = 0)))], [.row .nod x1 false, .cells [cI x2.kind, cS x2.path, cI x2.value]]⟩ (by kernel_rfl) ⟨trivial, trivial⟩ ?_
    refine WO_nil rfl ?_
    refine thenS_n ?_
    refine iteO_e h (fun hb290 h => W_true rfl hb290 ?_) (fun hb290 h => W_false rfl hb290 ?_)
    · refine W_seq ?_
      refine W_seq ?_
      refine W_region ?_
      refine WO_step 2 [0, 1] [0, 3, 6, 26] (True ∧ True) ⟨[(0, .one (.e (.sl 0 0 x1.length))), (3, .one (.e (.p 1 0))), (6, I i155), (26, B (decide (0 ≤ i155)))], [.row .nod x1 false, .cells [cI x2.kind, cS x2.path, cI x2.value]]⟩ (by kernel_rfl) ⟨trivial, trivial⟩ ?_
      refine WO_nil rfl ?_
      refine thenS_n ?_
      refine iteO_e h (fun hb296 h => W_true rfl hb296 ?_) (fun hb296 h => W_false rfl hb296 ?_)
      · refine W_seq ?_
        refine W_region ?_
        refine WO_step 4 [0] [27, 28, 30] (True ∧ True) ⟨[(27, .one (.e (.sl 0 0 x1.length))), (28, I i155), (30, I x2.value)], [.row .nod x1 false]⟩ (by kernel_rfl) ⟨trivial, trivial⟩ ?_
        refine bindO_e h (fun v300 hc299 h => ?_)
        obtain ⟨x297, b298⟩ := v300
        refine WO_call [.ro 0] Try.f62 rfl rfl rfl (by kernel_rfl) Try.func62 rfl (by kernel_rfl) (impl_SetValue_ok n x1 i155 x2.value x297 b298 hc299) (And.intro (And.intro rfl rfl) (trivial)) rfl ?_
        refine WO_step 4 [0, 1] [4, 5] True ⟨[(4, .one (.e (.sl 1 0 x297.length))), (5, B b298)], [.row .nod x1 false, .row .nod x297 true]⟩ (by kernel_rfl) trivial ?_
        refine WO_nil rfl ?_
        refine thenS_n ?_
        refine W_ret ?_
        refine thenS_r ?_
        refine blockS_r ?_
        refine thenS_r ?_
        cases h
        exact ⟨[0, 1], True, by kernel_rfl, trivial⟩
      · refine W_sub [0, 1] [0, 3] (st' := ⟨[(0, .one (.e (.sl 0 0 x1.length))), (3, .one (.e (.p 1 0)))], [.row .nod x1 false, .cells [cI x2.kind, cS x2.path, cI x2.value]]⟩) (by kernel_rfl) ?_
        refine W_skip ?_
        refine thenS_n ?_
        refine W_seq ?_
        refine W_region ?_
        refine WO_step 5 [0] [34, 36, 38] (True ∧ (True ∧ True)) ⟨[(34, .one (.e (.sl 0 0 x1.length))), (36, S x2.path), (38, I x2.value)], [.row .nod x1 false]⟩ (by kernel_rfl) ⟨trivial, trivial, trivial⟩ ?_
        refine bindO_e h (fun v304 hc303 h => ?_)
        obtain ⟨x301, b302⟩ := v304
        refine WO_call [.ro 0] Try.f63 rfl rfl rfl (by kernel_rfl) Try.func63 rfl (by kernel_rfl) (impl_addPath_ok n x1 x2.path x2.value x301 b302 hc303) (And.intro (And.intro rfl rfl) (trivial)) rfl ?_
        refine WO_step 4 [0, 1] [4, 5] True ⟨[(4, .one (.e (.sl 1 0 x301.length))), (5, B b302)], [.row .nod x1 false, .row .nod x301 true]⟩ (by kernel_rfl) trivial ?_
        refine WO_nil rfl ?_
        refine thenS_n ?_
        refine W_ret ?_
        refine blockS_r ?_
        refine thenS_r ?_
        cases h
        exact ⟨[0, 1], True, by kernel_rfl, trivial⟩
    · refine W_sub [0] [] (st' := ⟨[], [.row .nod x1 false]⟩) (by kernel_rfl) ?_
      refine W_skip ?_
      refine blockS_n ?_
      refine thenS_n ?_
      refine W_seq ?_
      refine W_region ?_
      refine WO_step 2 [0] [4, 5] True ⟨[(4, .one (.e (.nsl))), (5, B false)], [.row .nod x1 false]⟩ (by kernel_rfl) trivial ?_
      refine WO_nilrow 4 .nod rfl ?_
      refine WO_sub [0, 1] [4, 5] (st' := ⟨[(4, .one (.e (.sl 1 0 (([] : List Nod).length)))), (5, B false)], [.row .nod x1 false, .row .nod ([] : List Nod) true]⟩) (by kernel_rfl) ?_
      refine WO_nil rfl ?_
      refine thenS_n ?_
      refine W_ret ?_
      cases h
      exact ⟨[0, 1], True, by kernel_rfl, trivial⟩

/- impl.ApplyEdits -/
def impl_ApplyEdits_L1 (x2 : List Edt) (x1 : List Nod) : Nat → (List Nod) → Int → Option ((Unit) ⊕ ((List Nod)))
| 0, _, _ => none
| n + 1, x105, i106 =>
 iteO (decide (i106 < ((x2.length : Nat) : Int)))
 (guardO (0 ≤ i106 ∧ i106 < ((x2.length : Nat) : Int)) <|
 bindO (impl_applyEdit n x105 (x2.getD i106.toNat dedt)) fun (x137, b138) =>
 iteO (!b138)
 (some (.inl ()))
 (impl_ApplyEdits_L1 x2 x1 n x137 (w64 (i106 + 1))))
 (some (.inr x105))

theorem impl_ApplyEdits_L1_ok (w : World) (X : Nat → Prop) (θ : List Loc) (x2 : List Edt) (x1 : List Nod) (v : (Unit) ⊕ ((List Nod))) : ∀ (n : Nat) (x105 : List Nod) (i106 : Int), impl_ApplyEdits_L1 x2 x1 n x105 i106 = some v → WL EE ⟨w, X, θ, 38, 2⟩ (subC [1, 1, 1, 0, 1, 4, 4] (bodyC Try.f10)) (fun (e : Exit) (s : St) => (match v with | (.inl _) => e = .ret ∧ s = ⟨[(4, .one (.e (.sl 2 0 (([] : List Nod).length)))), (5, B false)], [.row .nod x1 false, .row .edt x2 false, .row .nod ([] : List Nod) true]⟩ | (.inr x125) => e = .exit 0 ∧ s = ⟨[(6, .one (.e (.sl 2 0 x125.length)))], [.row .nod x1 false, .row .edt x2 false, .row .nod x125 true]⟩ : Prop)) ⟨[(6, .one (.e (.sl 2 0 x105.length))), (21, .one (.e (.sl 1 0 x2.length))), (22, I ((x2.length : Nat) : Int)), (23, I i106)], [.row .nod x1 false, .row .edt x2 false, .row .nod x105 true]⟩ := by
  intro n
  induction n with
  | zero => intro _ _ h; exact none_e h
  | succ n ih =>
    intro x105 i106 h
    rw [impl_ApplyEdits_L1] at h
    refine WL_round ?_
    refine W_seq ?_
    refine W_region ?_
    refine WO_step 1 [0, 1, 2] [6, 21, 22, 23, 24] (True ∧ True) ⟨[(6, .one (.e (.sl 2 0 x105.length))), (21, .one (.e (.sl 1 0 x2.length))), (22, I ((x2.length : Nat) : Int)), (23, I i106), (24, B (decide (i106 < ((x2.length : Nat) : Int))))], [.row .nod x1 false, .row .edt x2 false, .row .nod x105 true]⟩ (by kernel_rfl) ⟨trivial, trivial⟩ ?_
    refine WO_nil rfl ?_
    refine thenS_n ?_
    refine W_seq ?_
    refine iteO_e h (fun hb128 h => W_true rfl hb128 ?_) (fun hb128 h => W_false rfl hb128 ?_)
    · refine W_sub [0, 1, 2] [6, 21, 22, 23] (st' := ⟨[(6, .one (.e (.sl 2 0 x105.length))), (21, .one (.e (.sl 1 0 x2.length))), (22, I ((x2.length : Nat) : Int)), (23, I i106)], [.row .nod x1 false, .row .edt x2 false, .row .nod x105 true]⟩) (by kernel_rfl) ?_
      refine W_skip ?_
      refine thenS_n ?_
      refine W_seq ?_
      refine W_block ?_
      refine W_seq ?_
      refine W_region ?_
      refine guardO_e h (fun hg136 h => ?_)
      refine WO_step 4 [0, 1, 2, 3] [6, 8, 21, 22, 23] ((0 ≤ i106 ∧ i106 < ((x2.length : Nat) : Int)) ∧ (True ∧ (True ∧ (True ∧ True)))) ⟨[(6, .one (.e (.sl 2 0 x105.length))), (8, .one (.e (.p 3 0))), (21, .one (.e (.sl 1 0 x2.length))), (22, I ((x2.length : Nat) : Int)), (23, I i106)], [.row .nod x1 false, .row .edt x2 false, .row .nod x105 true, .cells [cI ((x2.getD i106.toNat dedt).kind), cS ((x2.getD i106.toNat dedt).path), cI ((x2.getD i106.toNat dedt).value)]]⟩ (by kernel_rfl) ⟨hg136, trivial, trivial, trivial, trivial⟩ ?_
      refine WO_nil rfl ?_
      refine thenS_n ?_
      refine W_seq ?_
      refine W_region ?_
      refine WO_step 2 [0, 1, 2] [21, 22, 23, 28, 29] (True ∧ True) ⟨[(21, .one (.e (.sl 1 0 x2.length))), (22, I ((x2.length : Nat) : Int)), (23, I i106), (28, .one (.e (.sl 2 0 x105.length))), (29, AGG [cI ((x2.getD i106.toNat dedt).kind), cS ((x2.getD i106.toNat dedt).path), cI ((x2.getD i106.toNat dedt).value)])], [.row .nod x1 false, .row .edt x2 false, .row .nod x105 true]⟩ (by kernel_rfl) ⟨trivial, trivial⟩ ?_
      refine bindO_e h (fun v142 hc139 h => ?_)
      obtain ⟨x137, b138⟩ := v142
      refine WO_call [.ro 2] Try.f36 rfl rfl rfl (by kernel_rfl) Try.func36 rfl (by kernel_rfl) (impl_applyEdit_ok n x105 (x2.getD i106.toNat dedt) x137 b138 hc139) (And.intro (And.intro rfl rfl) (trivial)) rfl ?_
      refine WO_step 5 [0, 1, 3] [9, 10, 21, 22, 23] True ⟨[(9, .one (.e (.sl 2 0 x137.length))), (10, B b138), (21, .one (.e (.sl 1 0 x2.length))), (22, I ((x2.length : Nat) : Int)), (23, I i106)], [.row .nod x1 false, .row .edt x2 false, .row .nod x137 true]⟩ (by kernel_rfl) trivial ?_
      refine WO_nil rfl ?_
      refine thenS_n ?_
      refine W_seq ?_
      refine W_seq ?_
      refine W_region ?_
      refine WO_step 2 [0, 1, 2] [9, 21, 22, 23, 34] True ⟨[(9, .one (.e (.sl 2 0 x137.length))), (21, .one (.e (.sl 1 0 x2.length))), (22, I ((x2.length : Nat) : Int)), (23, I i106), (34, B (!b138))], [.row .nod x1 false, .row .edt x2 false, .row .nod x137 true]⟩ (by kernel_rfl) trivial ?_
      refine WO_nil rfl ?_
      refine thenS_n ?_
      refine iteO_e h (fun hb141 h => W_true rfl hb141 ?_) (fun hb141 h => W_false rfl hb141 ?_)
      · refine W_seq ?_
        refine W_region ?_
        refine WO_step 2 [0, 1] [4, 5] True ⟨[(4, .one (.e (.nsl))), (5, B false)], [.row .nod x1 false, .row .edt x2 false]⟩ (by kernel_rfl) trivial ?_
        refine WO_nilrow 4 .nod rfl ?_
        refine WO_sub [0, 1, 2] [4, 5] (st' := ⟨[(4, .one (.e (.sl 2 0 (([] : List Nod).length)))), (5, B false)], [.row .nod x1 false, .row .edt x2 false, .row .nod ([] : List Nod) true]⟩) (by kernel_rfl) ?_
        refine WO_nil rfl ?_
        refine thenS_n ?_
        refine W_ret ?_
        refine thenS_r ?_
        refine blockS_r ?_
        refine thenS_r ?_
        refine thenS_r ?_
        cases h
        exact And.intro rfl rfl
      · refine W_sub [0, 1, 2] [9, 21, 22, 23] (st' := ⟨[(9, .one (.e (.sl 2 0 x137.length))), (21, .one (.e (.sl 1 0 x2.length))), (22, I ((x2.length : Nat) : Int)), (23, I i106)], [.row .nod x1 false, .row .edt x2 false, .row .nod x137 true]⟩) (by kernel_rfl) ?_
        refine W_skip ?_
        refine thenS_n ?_
        refine W_region ?_
        refine WO_step 2 [0, 1, 2] [6, 21, 22, 23] True ⟨[(6, .one (.e (.sl 2 0 x137.length))), (21, .one (.e (.sl 1 0 x2.length))), (22, I ((x2.length : Nat) : Int)), (23, I i106)], [.row .nod x1 false, .row .edt x2 false, .row .nod x137 true]⟩ (by kernel_rfl) trivial ?_
        refine WO_nil rfl ?_
        refine blockS_n ?_
        refine thenS_n ?_
        refine W_region ?_
        refine WO_step 2 [0, 1, 2] [6, 21, 22, 23] (True ∧ True) ⟨[(6, .one (.e (.sl 2 0 x137.length))), (21, .one (.e (.sl 1 0 x2.length))), (22, I ((x2.length : Nat) : Int)), (23, I (w64 (i106 + 1)))], [.row .nod x1 false, .row .edt x2 false, .row .nod x137 true]⟩ (by kernel_rfl) ⟨trivial, trivial⟩ ?_
        refine WO_nil rfl ?_
        refine thenS_n ?_
        exact ih _ _ h
    · refine W_sub [0, 1, 2] [6] (st' := ⟨[(6, .one (.e (.sl 2 0 x105.length)))], [.row .nod x1 false, .row .edt x2 false, .row .nod x105 true]⟩) (by kernel_rfl) ?_
      refine W_exit ?_
      refine thenS_e ?_
      refine thenS_e ?_
      cases h
      exact And.intro rfl rfl

def impl_ApplyEdits (n : Nat) (x1 : List Nod) (x2 : List Edt) : Option ((List Nod) × Bool) :=
 bindO (impl_ValidTree n x1) fun b74 =>
 iteO ((!b74) || (decide (24 < ((x2.length : Nat) : Int))))
 (some (([] : List Nod), false))
 (bindO (slices_Clone_Node x1) fun x81 =>
 bindO (impl_ApplyEdits_L1 x2 x1 n x81 0) fun v143 =>
 match v143 with
 | (.inl _) => (some (([] : List Nod), false))
 | (.inr x125) => (some (x125, true))
)

theorem impl_ApplyEdits_ok (n : Nat) (x1 : List Nod) (x2 : List Edt) (x72 : List Nod) (b73 : Bool) (h : impl_ApplyEdits n x1 x2 = some (x72, b73)) : FOk EE 10 [.one (.e (.sl 0 0 x1.length)), .one (.e (.sl 1 0 x2.length))] [.row .nod x1 false, .row .edt x2 false] (.tup [.e (.sl 2 0 x72.length), .e (cB b73)]) [.row .nod x1 false, .row .edt x2 false, .row .nod x72 true] := by
  unfold impl_ApplyEdits at h
  refine FOk_of_W 38 2 Try.func10 rfl rfl (Nat.le_of_ble_eq_true rfl) rfl (fun w X θ => ?_)
  refine W_seq ?_
  refine W_region ?_
  refine WO_step 2 [0, 1] [0, 1] True ⟨[(0, .one (.e (.sl 0 0 x1.length))), (1, .one (.e (.sl 1 0 x2.length)))], [.row .nod x1 false, .row .edt x2 false]⟩ (by kernel_rfl) trivial ?_
  refine WO_nil rfl ?_
  refine thenS_n ?_
  refine W_seq ?_
  refine W_seq ?_
  refine W_region ?_
  refine WO_step 1 [0, 1] [0, 1, 11] True ⟨[(0, .one (.e (.sl 0 0 x1.length))), (1, .one (.e (.sl 1 0 x2.length))), (11, .one (.e (.sl 0 0 x1.length)))], [.row .nod x1 false, .row .edt x2 false]⟩ (by kernel_rfl) trivial ?_
  refine bindO_e h (fun b74 hc75 h => ?_)
  refine WO_call [.ro 0] Try.f13 rfl rfl rfl (by kernel_rfl) Try.func13 rfl (by kernel_rfl) (impl_ValidTree_ok n x1 b74 hc75) (And.intro (And.intro rfl rfl) (trivial)) rfl ?_
  refine WO_step 2 [0, 1] [0, 1, 14] True ⟨[(0, .one (.e (.sl 0 0 x1.length))), (1, .one (.e (.sl 1 0 x2.length))), (14, B (!b74))], [.row .nod x1 false, .row .edt x2 false]⟩ (by kernel_rfl) trivial ?_
  refine WO_thru ⟨[(0, .one (.e (.sl 0 0 x1.length))), (1, .one (.e (.sl 1 0 x2.length))), (18, B ((!b74) || (decide (24 < ((x2.length : Nat) : Int)))))], [.row .nod x1 false, .row .edt x2 false]⟩ ?_ ?_
  · refine WO_if 14 rfl (fun hb78 => ?_) (fun hb78 => ?_)
    · refine WO_step 4 [0, 1] [0, 1, 18] True ⟨[(0, .one (.e (.sl 0 0 x1.length))), (1, .one (.e (.sl 1 0 x2.length))), (18, B true)], [.row .nod x1 false, .row .edt x2 false]⟩ (by kernel_rfl) trivial ?_
      exact WO_nil rfl ⟨rfl, by first | rfl | (rw [hb78]; first | done | rfl)⟩
    · refine WO_step 4 [0, 1] [0, 1, 18] (True ∧ (True ∧ True)) ⟨[(0, .one (.e (.sl 0 0 x1.length))), (1, .one (.e (.sl 1 0 x2.length))), (18, B (decide (24 < ((x2.length : Nat) : Int))))], [.row .nod x1 false, .row .edt x2 false]⟩ (by kernel_rfl) ⟨trivial, trivial, trivial⟩ ?_
      exact WO_nil rfl ⟨rfl, by first | rfl | (rw [hb78]; first | done | rfl)⟩
  · refine thenS_n ?_
    refine iteO_e h (fun hb80 h => W_true rfl hb80 ?_) (fun hb80 h => W_false rfl hb80 ?_)
    · refine W_seq ?_
      refine W_region ?_
      refine WO_step 2 [0, 1] [4, 5] True ⟨[(4, .one (.e (.nsl))), (5, B false)], [.row .nod x1 false, .row .edt x2 false]⟩ (by kernel_rfl) trivial ?_
      refine WO_nilrow 4 .nod rfl ?_
      refine WO_sub [0, 1, 2] [4, 5] (st' := ⟨[(4, .one (.e (.sl 2 0 (([] : List Nod).length)))), (5, B false)], [.row .nod x1 false, .row .edt x2 false, .row .nod ([] : List Nod) true]⟩) (by kernel_rfl) ?_
      refine WO_nil rfl ?_
      refine thenS_n ?_
      refine W_ret ?_
      refine thenS_r ?_
      cases h
      exact ⟨[0, 1, 2], True, by kernel_rfl, trivial⟩
    · refine W_sub [0, 1] [0, 1] (st' := ⟨[(0, .one (.e (.sl 0 0 x1.length))), (1, .one (.e (.sl 1 0 x2.length)))], [.row .nod x1 false, .row .edt x2 false]⟩) (by kernel_rfl) ?_
      refine W_skip ?_
      refine thenS_n ?_
      refine W_seq ?_
      refine W_region ?_
      refine WO_step 1 [0, 1] [1, 19] True ⟨[(1, .one (.e (.sl 1 0 x2.length))), (19, .one (.e (.sl 0 0 x1.length)))], [.row .nod x1 false, .row .edt x2 false]⟩ (by kernel_rfl) trivial ?_
      refine bindO_e h (fun x81 hc82 h => ?_)
      refine WO_call [.ro 0] Try.f35 rfl rfl rfl (by kernel_rfl) Try.func35 rfl (by kernel_rfl) (slices_Clone_Node_ok x1 x81 hc82) (And.intro (And.intro rfl rfl) (trivial)) rfl ?_
      refine WO_step 1 [0, 1, 2] [1, 6] True ⟨[(1, .one (.e (.sl 1 0 x2.length))), (6, .one (.e (.sl 2 0 x81.length)))], [.row .nod x1 false, .row .edt x2 false, .row .nod x81 true]⟩ (by kernel_rfl) trivial ?_
      refine WO_nil rfl ?_
      refine thenS_n ?_
      refine W_seq ?_
      refine W_seq ?_
      refine W_region ?_
      refine WO_step 3 [0, 1, 2] [6, 21, 22, 23] (True ∧ True) ⟨[(6, .one (.e (.sl 2 0 x81.length))), (21, .one (.e (.sl 1 0 x2.length))), (22, I ((x2.length : Nat) : Int)), (23, I 0)], [.row .nod x1 false, .row .edt x2 false, .row .nod x81 true]⟩ (by kernel_rfl) ⟨trivial, trivial⟩ ?_
      refine WO_nil rfl ?_
      refine thenS_n ?_
      refine W_block ?_
      refine W_loop ?_
      refine bindO_e h (fun v143 hv143 h => ?_)
      refine WL_cut (impl_ApplyEdits_L1_ok w X θ x2 x1 v143 n x81 0 hv143) ?_
      rcases v143 with _ | x125
      · rintro _ _ ⟨rfl, rfl⟩
        refine blockS_r ?_
        refine thenS_r ?_
        cases h
        exact ⟨[0, 1, 2], True, by kernel_rfl, trivial⟩
      · rintro _ _ ⟨rfl, rfl⟩
        refine blockS_y ?_
        refine thenS_n ?_
        refine W_seq ?_
        refine W_region ?_
        refine WO_step 3 [0, 1, 2] [4, 5] True ⟨[(4, .one (.e (.sl 2 0 x125.length))), (5, B true)], [.row .nod x1 false, .row .edt x2 false, .row .nod x125 true]⟩ (by kernel_rfl) trivial ?_
        refine WO_nil rfl ?_
        refine thenS_n ?_
        refine W_ret ?_
        cases h
        exact ⟨[0, 1, 2], True, by kernel_rfl, trivial⟩

/- spec.above -/
def spec_above_L1 (x1 : List Nod) (i2 : Int) : Nat → Int → Option (Int)
| 0, _ => none
| n + 1, i33 =>
 iteO (decide (i2 < i33))
 (guardO (0 ≤ i33 ∧ i33 < ((x1.length : Nat) : Int)) <|
 spec_above_L1 x1 i2 n ((x1.getD i33.toNat dnod).parent))
 (some i33)

theorem spec_above_L1_ok (w : World) (X : Nat → Prop) (θ : List Loc) (x1 : List Nod) (i2 : Int) (i39 : Int) : ∀ (n : Nat) (i33 : Int), spec_above_L1 x1 i2 n i33 = some i39 → WL EE ⟨w, X, θ, 18, 1⟩ (subC [1, 0, 4, 4] (bodyC Try.f95)) (fun (e : Exit) (s : St) => e = .exit 0 ∧ s = ⟨[(1, I i2), (2, I i39)], [.row .nod x1 false]⟩) ⟨[(0, .one (.e (.sl 0 0 x1.length))), (1, I i2), (2, I i33)], [.row .nod x1 false]⟩ := by
  intro n
  induction n with
  | zero => intro _ h; exact none_e h
  | succ n ih =>
    intro i33 h
    rw [spec_above_L1] at h
    refine WL_round ?_
    refine W_seq ?_
    refine W_seq ?_
    refine W_region ?_
    refine WO_step 3 [0] [0, 1, 2, 9] (True ∧ True) ⟨[(0, .one (.e (.sl 0 0 x1.length))), (1, I i2), (2, I i33), (9, B (decide (i2 < i33)))], [.row .nod x1 false]⟩ (by kernel_rfl) ⟨trivial, trivial⟩ ?_
    refine WO_nil rfl ?_
    refine thenS_n ?_
    refine iteO_e h (fun hb42 h => W_true rfl hb42 ?_) (fun hb42 h => W_false rfl hb42 ?_)
    · refine W_sub [0] [0, 1, 2] (st' := ⟨[(0, .one (.e (.sl 0 0 x1.length))), (1, I i2), (2, I i33)], [.row .nod x1 false]⟩) (by kernel_rfl) ?_
      refine W_skip ?_
      refine thenS_n ?_
      refine W_block ?_
      refine W_region ?_
      refine guardO_e h (fun hg44 h => ?_)
      refine WO_step 6 [0] [0, 1, 2] ((0 ≤ i33 ∧ i33 < ((x1.length : Nat) : Int)) ∧ (True ∧ True)) ⟨[(0, .one (.e (.sl 0 0 x1.length))), (1, I i2), (2, I ((x1.getD i33.toNat dnod).parent))], [.row .nod x1 false]⟩ (by kernel_rfl) ⟨hg44, trivial, trivial⟩ ?_
      refine WO_nil rfl ?_
      refine blockS_n ?_
      refine thenS_n ?_
      exact ih _ h
    · refine W_sub [0] [1, 2] (st' := ⟨[(1, I i2), (2, I i33)], [.row .nod x1 false]⟩) (by kernel_rfl) ?_
      refine W_exit ?_
      refine thenS_e ?_
      refine thenS_e ?_
      cases h
      exact And.intro rfl rfl

def spec_above (n : Nat) (x1 : List Nod) (i2 : Int) (i3 : Int) : Option (Bool) :=
 bindO (spec_above_L1 x1 i2 n i3) fun i39 =>
 some (decide (i39 = i2))

theorem spec_above_ok (n : Nat) (x1 : List Nod) (i2 : Int) (i3 : Int) (b24 : Bool) (h : spec_above n x1 i2 i3 = some b24) : FOk EE 95 [.one (.e (.sl 0 0 x1.length)), I i2, I i3] [.row .nod x1 false] (B b24) [.row .nod x1 false] := by
  unfold spec_above at h
  refine FOk_of_W 18 1 Try.func95 rfl rfl (Nat.le_of_ble_eq_true rfl) rfl (fun w X θ => ?_)
  refine W_seq ?_
  refine W_region ?_
  refine WO_step 1 [0] [0, 1, 2] True ⟨[(0, .one (.e (.sl 0 0 x1.length))), (1, I i2), (2, I i3)], [.row .nod x1 false]⟩ (by kernel_rfl) trivial ?_
  refine WO_nil rfl ?_
  refine thenS_n ?_
  refine W_seq ?_
  refine W_block ?_
  refine W_loop ?_
  refine bindO_e h (fun i39 hi39 h => ?_)
  refine WL_cut (spec_above_L1_ok w X θ x1 i2 i39 n i3 hi39) ?_
  rintro _ _ ⟨rfl, rfl⟩
  refine blockS_y ?_
  refine thenS_n ?_
  refine W_seq ?_
  refine W_region ?_
  refine WO_step 4 [0] [6] (True ∧ True) ⟨[(6, B (decide (i39 = i2)))], [.row .nod x1 false]⟩ (by kernel_rfl) ⟨trivial, trivial⟩ ?_
  refine WO_nil rfl ?_
  refine thenS_n ?_
  refine W_ret ?_
  cases h
  exact ⟨[0], True, by kernel_rfl, trivial⟩

/- spec.without -/
def spec_without_L1 (x1 : List Nod) (i2 : Int) : Nat → (List Nod) → (List Int) → Int → Option ((List Nod))
| 0, _, _, _ => none
| n + 1, x94, x95, i96 =>
 iteO (decide (i96 < ((x1.length : Nat) : Int)))
 (bindO (bindO (spec_above n x1 i2 i96) fun b134 =>
 iteO b134
 (some (x94, x95))
 (guardO (0 ≤ i96 ∧ i96 < ((x1.length : Nat) : Int)) <|
 bindO (iteO (decide (0 < i96))
 (guardO (0 ≤ (x1.getD i96.toNat dnod).parent ∧ (x1.getD i96.toNat dnod).parent < ((x95.length : Nat) : Int)) <|
 some (x95.getD (((x1.getD i96.toNat dnod).parent).toNat) 0))
 (some ((x1.getD i96.toNat dnod).parent))) fun i141 =>
 guardO (0 ≤ i96 ∧ i96 < ((x95.length : Nat) : Int)) <|
 guardO (0 = 0 ∧ x94.length = x94.length ∧ x94.length + (([(⟨i141, (x1.getD i96.toNat dnod).name, (x1.getD i96.toNat dnod).value⟩ : Nod)].drop 0).take ([(⟨i141, (x1.getD i96.toNat dnod).name, (x1.getD i96.toNat dnod).value⟩ : Nod)].length)).length ≤ 1099511627776) <|
 some ((x94 ++ (([(⟨i141, (x1.getD i96.toNat dnod).name, (x1.getD i96.toNat dnod).value⟩ : Nod)].drop 0).take ([(⟨i141, (x1.getD i96.toNat dnod).name, (x1.getD i96.toNat dnod).value⟩ : Nod)].length))), (x95.set i96.toNat ((x94.length : Nat) : Int))))) fun v133 =>
 match v133 with
 | (x131, x132) => (spec_without_L1 x1 i2 n x131 x132 (w64 (i96 + 1)))
)
 (some x94)

theorem spec_without_L1_ok (w : World) (X : Nat → Prop) (θ : List Loc) (x1 : List Nod) (i2 : Int) (x116 : (List Nod)) : ∀ (n : Nat) (x94 : List Nod) (x95 : List Int) (i96 : Int), spec_without_L1 x1 i2 n x94 x95 i96 = some x116 → WL EE ⟨w, X, θ, 45, 1⟩ (subC [1, 1, 1, 0, 1, 4, 4] (bodyC Try.f86)) (fun (e : Exit) (s : St) => e = .exit 0 ∧ s = ⟨[(5, .one (.e (.sl 1 0 x116.length)))], [.row .nod x1 false, .row .nod x116 true]⟩) ⟨[(0, .one (.e (.sl 0 0 x1.length))), (1, I i2), (5, .one (.e (.sl 1 0 x94.length))), (6, .one (.e (.sl 2 0 x95.length))), (7, I i96)], [.row .nod x1 false, .row .nod x94 true, .row .int x95 true]⟩ := by
  intro n
  induction n with
  | zero => intro _ _ _ h; exact none_e h
  | succ n ih =>
    intro x94 x95 i96 h
    rw [spec_without_L1] at h
    refine WL_round ?_
    refine W_seq ?_
    refine W_seq ?_
    refine W_region ?_
    refine WO_step 4 [0, 1, 2] [0, 1, 5, 6, 7, 16] (True ∧ (True ∧ True)) ⟨[(0, .one (.e (.sl 0 0 x1.length))), (1, I i2), (5, .one (.e (.sl 1 0 x94.length))), (6, .one (.e (.sl 2 0 x95.length))), (7, I i96), (16, B (decide (i96 < ((x1.length : Nat) : Int))))], [.row .nod x1 false, .row .nod x94 true, .row .int x95 true]⟩ (by kernel_rfl) ⟨trivial, trivial, trivial⟩ ?_
    refine WO_nil rfl ?_
    refine thenS_n ?_
    refine iteO_e h (fun hb119 h => W_true rfl hb119 ?_) (fun hb119 h => W_false rfl hb119 ?_)
    · refine W_sub [0, 1, 2] [0, 1, 5, 6, 7] (st' := ⟨[(0, .one (.e (.sl 0 0 x1.length))), (1, I i2), (5, .one (.e (.sl 1 0 x94.length))), (6, .one (.e (.sl 2 0 x95.length))), (7, I i96)], [.row .nod x1 false, .row .nod x94 true, .row .int x95 true]⟩) (by kernel_rfl) ?_
      refine W_skip ?_
      refine thenS_n ?_
      refine W_seq ?_
      refine bindO_e h (fun v133 hv133 h => ?_)
      refine W_cut (Q' := fun (e : Exit) (s : St) => (match v133 with | (x131, x132) => e = .normal ∧ s = ⟨[(0, .one (.e (.sl 0 0 x1.length))), (1, I i2), (5, .one (.e (.sl 1 0 x131.length))), (6, .one (.e (.sl 2 0 x132.length))), (7, I i96)], [.row .nod x1 false, .row .nod x131 true, .row .int x132 true]⟩ : Prop)) ?_ ?_
      · refine W_block ?_
        refine W_seq ?_
        refine W_seq ?_
        refine W_region ?_
        refine WO_step 3 [0, 1, 2] [0, 1, 5, 6, 7, 19, 20, 21] True ⟨[(0, .one (.e (.sl 0 0 x1.length))), (1, I i2), (5, .one (.e (.sl 1 0 x94.length))), (6, .one (.e (.sl 2 0 x95.length))), (7, I i96), (19, .one (.e (.sl 0 0 x1.length))), (20, I i2), (21, I i96)], [.row .nod x1 false, .row .nod x94 true, .row .int x95 true]⟩ (by kernel_rfl) trivial ?_
        refine bindO_e hv133 (fun b134 hc135 hv133 => ?_)
        refine WO_call [.ro 0] Try.f95 rfl rfl rfl (by kernel_rfl) Try.func95 rfl (by kernel_rfl) (spec_above_ok n x1 i2 i96 b134 hc135) (And.intro (And.intro rfl rfl) (trivial)) rfl ?_
        refine WO_sub [0, 1, 2] [0, 1, 5, 6, 7, 22] (st' := ⟨[(0, .one (.e (.sl 0 0 x1.length))), (1, I i2), (5, .one (.e (.sl 1 0 x94.length))), (6, .one (.e (.sl 2 0 x95.length))), (7, I i96), (22, B b134)], [.row .nod x1 false, .row .nod x94 true, .row .int x95 true]⟩) (by kernel_rfl) ?_
        refine WO_nil rfl ?_
        refine thenS_n ?_
        refine iteO_e hv133 (fun hb137 hv133 => W_true rfl hb137 ?_) (fun hb137 hv133 => W_false rfl hb137 ?_)
        · refine W_sub [0, 1, 2] [0, 1, 5, 6, 7] (st' := ⟨[(0, .one (.e (.sl 0 0 x1.length))), (1, I i2), (5, .one (.e (.sl 1 0 x94.length))), (6, .one (.e (.sl 2 0 x95.length))), (7, I i96)], [.row .nod x1 false, .row .nod x94 true, .row .int x95 true]⟩) (by kernel_rfl) ?_
          refine W_exit ?_
          refine thenS_e ?_
          refine blockS_y ?_
          cases hv133
          exact And.intro rfl rfl
        · refine W_sub [0, 1, 2] [0, 1, 5, 6, 7] (st' := ⟨[(0, .one (.e (.sl 0 0 x1.length))), (1, I i2), (5, .one (.e (.sl 1 0 x94.length))), (6, .one (.e (.sl 2 0 x95.length))), (7, I i96)], [.row .nod x1 false, .row .nod x94 true, .row .int x95 true]⟩) (by kernel_rfl) ?_
          refine W_skip ?_
          refine thenS_n ?_
          refine W_seq ?_
          refine W_region ?_
          refine guardO_e hv133 (fun hg138 hv133 => ?_)
          refine WO_step 6 [0, 1, 2, 3] [0, 1, 5, 6, 7, 8] ((0 ≤ i96 ∧ i96 < ((x1.length : Nat) : Int)) ∧ (True ∧ (True ∧ (True ∧ True)))) ⟨[(0, .one (.e (.sl 0 0 x1.length))), (1, I i2), (5, .one (.e (.sl 1 0 x94.length))), (6, .one (.e (.sl 2 0 x95.length))), (7, I i96), (8, .one (.e (.p 3 0)))], [.row .nod x1 false, .row .nod x94 true, .row .int x95 true, .cells [cI ((x1.getD i96.toNat dnod).parent), cS ((x1.getD i96.toNat dnod).name), cI ((x1.getD i96.toNat dnod).value)]]⟩ (by kernel_rfl) ⟨hg138, trivial, trivial, trivial, trivial⟩ ?_
          refine WO_nil rfl ?_
          refine thenS_n ?_
          refine W_seq ?_
          refine W_seq ?_
          refine W_region ?_
          refine WO_step 2 [0, 1, 2, 3] [0, 1, 5, 6, 7, 8, 28] (True ∧ True) ⟨[(0, .one (.e (.sl 0 0 x1.length))), (1, I i2), (5, .one (.e (.sl 1 0 x94.length))), (6, .one (.e (.sl 2 0 x95.length))), (7, I i96), (8, .one (.e (.p 3 0))), (28, B (decide (0 < i96)))], [.row .nod x1 false, .row .nod x94 true, .row .int x95 true, .cells [cI ((x1.getD i96.toNat dnod).parent), cS ((x1.getD i96.toNat dnod).name), cI ((x1.getD i96.toNat dnod).value)]]⟩ (by kernel_rfl) ⟨trivial, trivial⟩ ?_
          refine WO_nil rfl ?_
          refine thenS_n ?_
          refine bindO_e hv133 (fun i141 hi141 hv133 => ?_)
          refine W_cut (Q' := fun (e : Exit) (s : St) => e = .normal ∧ s = ⟨[(0, .one (.e (.sl 0 0 x1.length))), (1, I i2), (5, .one (.e (.sl 1 0 x94.length))), (6, .one (.e (.sl 2 0 x95.length))), (7, I i96), (8, .one (.e (.p 3 0)))], [.row .nod x1 false, .row .nod x94 true, .row .int x95 true, .cells [cI i141, cS ((x1.getD i96.toNat dnod).name), cI ((x1.getD i96.toNat dnod).value)]]⟩) ?_ ?_
          · refine iteO_e hi141 (fun hb143 hi141 => W_true rfl hb143 ?_) (fun hb143 hi141 => W_false rfl hb143 ?_)
            · refine W_region ?_
              refine guardO_e hi141 (fun hg144 hi141 => ?_)
              refine WO_step 7 [0, 1, 2, 3] [0, 1, 5, 6, 7, 8] (True ∧ ((0 ≤ (x1.getD i96.toNat dnod).parent ∧ (x1.getD i96.toNat dnod).parent < ((x95.length : Nat) : Int)) ∧ (True ∧ (True ∧ True)))) ⟨[(0, .one (.e (.sl 0 0 x1.length))), (1, I i2), (5, .one (.e (.sl 1 0 x94.length))), (6, .one (.e (.sl 2 0 x95.length))), (7, I i96), (8, .one (.e (.p 3 0)))], [.row .nod x1 false, .row .nod x94 true, .row .int x95 true, .cells [cI (x95.getD (((x1.getD i96.toNat dnod).parent).toNat) 0), cS ((x1.getD i96.toNat dnod).name), cI ((x1.getD i96.toNat dnod).value)]]⟩ (by kernel_rfl) ⟨trivial, hg144, trivial, trivial, trivial⟩ ?_
              refine WO_nil rfl ?_
              cases hi141
              exact And.intro rfl rfl
            · refine W_sub [0, 1, 2, 3] [0, 1, 5, 6, 7, 8] (st' := ⟨[(0, .one (.e (.sl 0 0 x1.length))), (1, I i2), (5, .one (.e (.sl 1 0 x94.length))), (6, .one (.e (.sl 2 0 x95.length))), (7, I i96), (8, .one (.e (.p 3 0)))], [.row .nod x1 false, .row .nod x94 true, .row .int x95 true, .cells [cI ((x1.getD i96.toNat dnod).parent), cS ((x1.getD i96.toNat dnod).name), cI ((x1.getD i96.toNat dnod).value)]]⟩) (by kernel_rfl) ?_
              refine W_skip ?_
              cases hi141
              exact And.intro rfl rfl
          · rintro _ _ ⟨rfl, rfl⟩
            refine thenS_n ?_
            refine W_seq ?_
            refine W_region ?_
            refine guardO_e hv133 (fun hg145 hv133 => ?_)
            refine WO_step 6 [0, 1, 2, 3] [0, 1, 5, 6, 7, 8] (True ∧ ((0 ≤ i96 ∧ i96 < ((x95.length : Nat) : Int)) ∧ (True ∧ True))) ⟨[(0, .one (.e (.sl 0 0 x1.length))), (1, I i2), (5, .one (.e (.sl 1 0 x94.length))), (6, .one (.e (.sl 2 0 x95.length))), (7, I i96), (8, .one (.e (.p 3 0)))], [.row .nod x1 false, .row .nod x94 true, .row .int (x95.set i96.toNat ((x94.length : Nat) : Int)) true, .cells [cI i141, cS ((x1.getD i96.toNat dnod).name), cI ((x1.getD i96.toNat dnod).value)]]⟩ (by kernel_rfl) ⟨trivial, hg145, trivial, trivial⟩ ?_
            refine WO_eq (st' := ⟨[(0, .one (.e (.sl 0 0 x1.length))), (1, I i2), (5, .one (.e (.sl 1 0 x94.length))), (6, .one (.e (.sl 2 0 ((x95.set i96.toNat ((x94.length : Nat) : Int)).length)))), (7, I i96), (8, .one (.e (.p 3 0)))], [.row .nod x1 false, .row .nod x94 true, .row .int (x95.set i96.toNat ((x94.length : Nat) : Int)) true, .cells [cI i141, cS ((x1.getD i96.toNat dnod).name), cI ((x1.getD i96.toNat dnod).value)]]⟩) (by simp only [List.length_set]) ?_
            refine WO_nil rfl ?_
            refine thenS_n ?_
            refine W_region ?_
            refine guardO_e hv133 (fun hg146 hv133 => ?_)
            refine WO_step 5 [0, 5, 2] [0, 1, 5, 6, 7] (True ∧ ((0 = 0 ∧ x94.length = x94.length ∧ x94.length + (([(⟨i141, (x1.getD i96.toNat dnod).name, (x1.getD i96.toNat dnod).value⟩ : Nod)].drop 0).take ([(⟨i141, (x1.getD i96.toNat dnod).name, (x1.getD i96.toNat dnod).value⟩ : Nod)].length)).length ≤ 1099511627776) ∧ True)) ⟨[(0, .one (.e (.sl 0 0 x1.length))), (1, I i2), (5, .one (.e (.sl 1 0 ((x94 ++ (([(⟨i141, (x1.getD i96.toNat dnod).name, (x1.getD i96.toNat dnod).value⟩ : Nod)].drop 0).take ([(⟨i141, (x1.getD i96.toNat dnod).name, (x1.getD i96.toNat dnod).value⟩ : Nod)].length))).length)))), (6, .one (.e (.sl 2 0 ((x95.set i96.toNat ((x94.length : Nat) : Int)).length)))), (7, I i96)], [.row .nod x1 false, .row .nod (x94 ++ (([(⟨i141, (x1.getD i96.toNat dnod).name, (x1.getD i96.toNat dnod).value⟩ : Nod)].drop 0).take ([(⟨i141, (x1.getD i96.toNat dnod).name, (x1.getD i96.toNat dnod).value⟩ : Nod)].length))) true, .row .int (x95.set i96.toNat ((x94.length : Nat) : Int)) true]⟩ (by kernel_rfl) ⟨trivial, hg146, trivial⟩ ?_
            refine WO_nil rfl ?_
            refine blockS_n ?_
            cases hv133
            exact And.intro rfl rfl
      · obtain ⟨x131, x132⟩ := v133
        rintro _ _ ⟨rfl, rfl⟩
        refine thenS_n ?_
        refine W_region ?_
        refine WO_step 3 [0, 1, 2] [0, 1, 5, 6, 7] (True ∧ True) ⟨[(0, .one (.e (.sl 0 0 x1.length))), (1, I i2), (5, .one (.e (.sl 1 0 x131.length))), (6, .one (.e (.sl 2 0 x132.length))), (7, I (w64 (i96 + 1)))], [.row .nod x1 false, .row .nod x131 true, .row .int x132 true]⟩ (by kernel_rfl) ⟨trivial, trivial⟩ ?_
        refine WO_nil rfl ?_
        refine thenS_n ?_
        exact ih _ _ _ h
    · refine W_sub [0, 1] [5] (st' := ⟨[(5, .one (.e (.sl 1 0 x94.length)))], [.row .nod x1 false, .row .nod x94 true]⟩) (by kernel_rfl) ?_
      refine W_exit ?_
      refine thenS_e ?_
      refine thenS_e ?_
      cases h
      exact And.intro rfl rfl

def spec_without (n : Nat) (x1 : List Nod) (i2 : Int) : Option ((List Nod)) :=
 guardO ((((x1.length : Nat) : Int) : Int) = ((x1.length : Nat) : Int) ∧ 0 ≤ ((x1.length : Nat) : Int) ∧ ((x1.length : Nat) : Int) ≤ 1099511627776) <|
 bindO (spec_without_L1 x1 i2 n ([] : List Nod) (List.replicate (((x1.length : Nat) : Int).toNat) (0 : Int)) 0) fun x116 =>
 some x116

theorem spec_without_ok (n : Nat) (x1 : List Nod) (i2 : Int) (x68 : List Nod) (h : spec_without n x1 i2 = some x68) : FOk EE 86 [.one (.e (.sl 0 0 x1.length)), I i2] [.row .nod x1 false] (.one (.e (.sl 1 0 x68.length))) [.row .nod x1 false, .row .nod x68 true] := by
  unfold spec_without at h
  refine FOk_of_W 45 1 Try.func86 rfl rfl (Nat.le_of_ble_eq_true rfl) rfl (fun w X θ => ?_)
  refine W_seq ?_
  refine W_region ?_
  refine WO_step 1 [0] [0, 1] True ⟨[(0, .one (.e (.sl 0 0 x1.length))), (1, I i2)], [.row .nod x1 false]⟩ (by kernel_rfl) trivial ?_
  refine WO_nil rfl ?_
  refine thenS_n ?_
  refine W_seq ?_
  refine W_region ?_
  refine WO_step 2 [0, 1] [0, 1, 5] True ⟨[(0, .one (.e (.sl 0 0 x1.length))), (1, I i2), (5, .one (.e (.sl 1 0 (([] : List Nod).length))))], [.row .nod x1 false, .row .nod ([] : List Nod) true]⟩ (by kernel_rfl) trivial ?_
  refine WO_nil rfl ?_
  refine thenS_n ?_
  refine W_seq ?_
  refine W_region ?_
  refine guardO_e h (fun hg69 h => ?_)
  refine WO_step 4 [0, 1, 2] [0, 1, 5, 6] (True ∧ (((((x1.length : Nat) : Int) : Int) = ((x1.length : Nat) : Int) ∧ 0 ≤ ((x1.length : Nat) : Int) ∧ ((x1.length : Nat) : Int) ≤ 1099511627776) ∧ True)) ⟨[(0, .one (.e (.sl 0 0 x1.length))), (1, I i2), (5, .one (.e (.sl 1 0 (([] : List Nod).length)))), (6, .one (.e (.sl 2 0 ((List.replicate (((x1.length : Nat) : Int).toNat) (0 : Int)).length))))], [.row .nod x1 false, .row .nod ([] : List Nod) true, .row .int (List.replicate (((x1.length : Nat) : Int).toNat) (0 : Int)) true]⟩ (by kernel_rfl) ⟨trivial, hg69, trivial⟩ ?_
  refine WO_nil rfl ?_
  refine thenS_n ?_
  refine W_seq ?_
  refine W_seq ?_
  refine W_region ?_
  refine WO_step 1 [0, 1, 2] [0, 1, 5, 6, 7] True ⟨[(0, .one (.e (.sl 0 0 x1.length))), (1, I i2), (5, .one (.e (.sl 1 0 (([] : List Nod).length)))), (6, .one (.e (.sl 2 0 ((List.replicate (((x1.length : Nat) : Int).toNat) (0 : Int)).length)))), (7, I 0)], [.row .nod x1 false, .row .nod ([] : List Nod) true, .row .int (List.replicate (((x1.length : Nat) : Int).toNat) (0 : Int)) true]⟩ (by kernel_rfl) trivial ?_
  refine WO_nil rfl ?_
  refine thenS_n ?_
  refine W_block ?_
  refine W_loop ?_
  refine bindO_e h (fun x116 hx116 h => ?_)
  refine WL_cut (spec_without_L1_ok w X θ x1 i2 x116 n ([] : List Nod) (List.replicate (((x1.length : Nat) : Int).toNat) (0 : Int)) 0 hx116) ?_
  rintro _ _ ⟨rfl, rfl⟩
  refine blockS_y ?_
  refine thenS_n ?_
  refine W_seq ?_
  refine W_region ?_
  refine WO_step 2 [0, 1] [4] True ⟨[(4, .one (.e (.sl 1 0 x116.length)))], [.row .nod x1 false, .row .nod x116 true]⟩ (by kernel_rfl) trivial ?_
  refine WO_nil rfl ?_
  refine thenS_n ?_
  refine W_ret ?_
  cases h
  exact ⟨[0, 1], True, by kernel_rfl, trivial⟩

/- spec.DropNode -/
def spec_DropNode (n : Nat) (x1 : List Nod) (i2 : Int) : Option ((List Nod) × Bool) :=
 bindO (spec_validTree n x1) fun b14 =>
 iteO ((!b14) || (!(spec_inRange i2 1 (w64 (((x1.length : Nat) : Int) - 1)))))
 (some (([] : List Nod), false))
 (bindO (spec_without n x1 i2) fun x21 =>
 some (x21, true))

theorem spec_DropNode_ok (n : Nat) (x1 : List Nod) (i2 : Int) (x12 : List Nod) (b13 : Bool) (h : spec_DropNode n x1 i2 = some (x12, b13)) : FOk EE 66 [.one (.e (.sl 0 0 x1.length)), I i2] [.row .nod x1 false] (.tup [.e (.sl 1 0 x12.length), .e (cB b13)]) [.row .nod x1 false, .row .nod x12 true] := by
  unfold spec_DropNode at h
  refine FOk_of_W 20 1 Try.func66 rfl rfl (Nat.le_of_ble_eq_true rfl) rfl (fun w X θ => ?_)
  refine W_seq ?_
  refine W_region ?_
  refine WO_step 2 [0] [0, 1] True ⟨[(0, .one (.e (.sl 0 0 x1.length))), (1, I i2)], [.row .nod x1 false]⟩ (by kernel_rfl) trivial ?_
  refine WO_nil rfl ?_
  refine thenS_n ?_
  refine W_seq ?_
  refine W_seq ?_
  refine W_region ?_
  refine WO_step 1 [0] [0, 1, 6] True ⟨[(0, .one (.e (.sl 0 0 x1.length))), (1, I i2), (6, .one (.e (.sl 0 0 x1.length)))], [.row .nod x1 false]⟩ (by kernel_rfl) trivial ?_
  refine bindO_e h (fun b14 hc15 h => ?_)
  refine WO_call [.ro 0] Try.f37 rfl rfl rfl (by kernel_rfl) Try.func37 rfl (by kernel_rfl) (spec_validTree_ok n x1 b14 hc15) (And.intro (And.intro rfl rfl) (trivial)) rfl ?_
  refine WO_step 2 [0] [0, 1, 9] True ⟨[(0, .one (.e (.sl 0 0 x1.length))), (1, I i2), (9, B (!b14))], [.row .nod x1 false]⟩ (by kernel_rfl) trivial ?_
  refine WO_thru ⟨[(0, .one (.e (.sl 0 0 x1.length))), (1, I i2), (16, B ((!b14) || (!(spec_inRange i2 1 (w64 (((x1.length : Nat) : Int) - 1))))))], [.row .nod x1 false]⟩ ?_ ?_
  · refine WO_if 9 rfl (fun hb18 => ?_) (fun hb18 => ?_)
    · refine WO_step 7 [0] [0, 1, 16] True ⟨[(0, .one (.e (.sl 0 0 x1.length))), (1, I i2), (16, B true)], [.row .nod x1 false]⟩ (by kernel_rfl) trivial ?_
      exact WO_nil rfl ⟨rfl, by first | rfl | (rw [hb18]; first | done | rfl)⟩
    · refine WO_step 4 [0] [0, 1, 9, 10, 13] (True ∧ (True ∧ True)) ⟨[(0, .one (.e (.sl 0 0 x1.length))), (1, I i2), (9, B false), (10, I i2), (13, I (w64 (((x1.length : Nat) : Int) - 1)))], [.row .nod x1 false]⟩ (by kernel_rfl) ⟨trivial, trivial, trivial⟩ ?_
      refine WO_call [] Try.f65 rfl rfl rfl (by kernel_rfl) Try.func65 rfl (by kernel_rfl) (spec_inRange_ok i2 1 (w64 (((x1.length : Nat) : Int) - 1))) (trivial) rfl ?_
      refine WO_step 2 [0] [0, 1, 16] True ⟨[(0, .one (.e (.sl 0 0 x1.length))), (1, I i2), (16, B (!(spec_inRange i2 1 (w64 (((x1.length : Nat) : Int) - 1)))))], [.row .nod x1 false]⟩ (by kernel_rfl) trivial ?_
      exact WO_nil rfl ⟨rfl, by first | rfl | (rw [hb18]; first | done | rfl)⟩
  · refine thenS_n ?_
    refine iteO_e h (fun hb20 h => W_true rfl hb20 ?_) (fun hb20 h => W_false rfl hb20 ?_)
    · refine W_seq ?_
      refine W_region ?_
      refine WO_step 2 [0] [4, 5] True ⟨[(4, .one (.e (.nsl))), (5, B false)], [.row .nod x1 false]⟩ (by kernel_rfl) trivial ?_
      refine WO_nilrow 4 .nod rfl ?_
      refine WO_sub [0, 1] [4, 5] (st' := ⟨[(4, .one (.e (.sl 1 0 (([] : List Nod).length)))), (5, B false)], [.row .nod x1 false, .row .nod ([] : List Nod) true]⟩) (by kernel_rfl) ?_
      refine WO_nil rfl ?_
      refine thenS_n ?_
      refine W_ret ?_
      refine thenS_r ?_
      cases h
      exact ⟨[0, 1], True, by kernel_rfl, trivial⟩
    · refine W_sub [0] [0, 1] (st' := ⟨[(0, .one (.e (.sl 0 0 x1.length))), (1, I i2)], [.row .nod x1 false]⟩) (by kernel_rfl) ?_
      refine W_skip ?_
      refine thenS_n ?_
      refine W_seq ?_
      refine W_region ?_
      refine WO_step 2 [0] [17, 18] True ⟨[(17, .one (.e (.sl 0 0 x1.length))), (18, I i2)], [.row .nod x1 false]⟩ (by kernel_rfl) trivial ?_
      refine bindO_e h (fun x21 hc22 h => ?_)
      refine WO_call [.ro 0] Try.f86 rfl rfl rfl (by kernel_rfl) Try.func86 rfl (by kernel_rfl) (spec_without_ok n x1 i2 x21 hc22) (And.intro (And.intro rfl rfl) (trivial)) rfl ?_
      refine WO_step 2 [0, 1] [4, 5] True ⟨[(4, .one (.e (.sl 1 0 x21.length))), (5, B true)], [.row .nod x1 false, .row .nod x21 true]⟩ (by kernel_rfl) trivial ?_
      refine WO_nil rfl ?_
      refine thenS_n ?_
      refine W_ret ?_
      cases h
      exact ⟨[0, 1], True, by kernel_rfl, trivial⟩

/- spec.SetValue -/
def spec_SetValue (n : Nat) (x1 : List Nod) (i2 : Int) (i3 : Int) : Option ((List Nod) × Bool) :=
 bindO (spec_validTree n x1) fun b17 =>
 iteO ((!b17) || ((!(spec_inRange i2 0 (w64 (((x1.length : Nat) : Int) - 1)))) || (!(spec_inRange i3 (-1000) 1000))))
 (some (([] : List Nod), false))
 (guardO (0 = 0 ∧ ([] : List Nod).length = ([] : List Nod).length ∧ ([] : List Nod).length + ((x1.drop 0).take x1.length).length ≤ 1099511627776) <|
 guardO (0 ≤ i2 ∧ i2 < (((([] : List Nod) ++ ((x1.drop 0).take x1.length)).length : Nat) : Int)) <|
 some (((([] : List Nod) ++ ((x1.drop 0).take x1.length)).set i2.toNat (⟨((([] : List Nod) ++ ((x1.drop 0).take x1.length)).getD i2.toNat dnod).parent, ((([] : List Nod) ++ ((x1.drop 0).take x1.length)).getD i2.toNat dnod).name, i3⟩ : Nod)), true))

theorem spec_SetValue_ok (n : Nat) (x1 : List Nod) (i2 : Int) (i3 : Int) (x15 : List Nod) (b16 : Bool) (h : spec_SetValue n x1 i2 i3 = some (x15, b16)) : FOk EE 67 [.one (.e (.sl 0 0 x1.length)), I i2, I i3] [.row .nod x1 false] (.tup [.e (.sl 1 0 x15.length), .e (cB b16)]) [.row .nod x1 false, .row .nod x15 true] := by
  unfold spec_SetValue at h
  refine FOk_of_W 34 1 Try.func67 rfl rfl (Nat.le_of_ble_eq_true rfl) rfl (fun w X θ => ?_)
  refine W_seq ?_
  refine W_region ?_
  refine WO_step 2 [0] [0, 1, 2] True ⟨[(0, .one (.e (.sl 0 0 x1.length))), (1, I i2), (2, I i3)], [.row .nod x1 false]⟩ (by kernel_rfl) trivial ?_
  refine WO_nil rfl ?_
  refine thenS_n ?_
  refine W_seq ?_
  refine W_seq ?_
  refine W_region ?_
  refine WO_step 1 [0] [0, 1, 2, 9] True ⟨[(0, .one (.e (.sl 0 0 x1.length))), (1, I i2), (2, I i3), (9, .one (.e (.sl 0 0 x1.length)))], [.row .nod x1 false]⟩ (by kernel_rfl) trivial ?_
  refine bindO_e h (fun b17 hc18 h => ?_)
  refine WO_call [.ro 0] Try.f37 rfl rfl rfl (by kernel_rfl) Try.func37 rfl (by kernel_rfl) (spec_validTree_ok n x1 b17 hc18) (And.intro (And.intro rfl rfl) (trivial)) rfl ?_
  refine WO_step 2 [0] [0, 1, 2, 12] True ⟨[(0, .one (.e (.sl 0 0 x1.length))), (1, I i2), (2, I i3), (12, B (!b17))], [.row .nod x1 false]⟩ (by kernel_rfl) trivial ?_
  refine WO_thru ⟨[(0, .one (.e (.sl 0 0 x1.length))), (1, I i2), (2, I i3), (24, B ((!b17) || ((!(spec_inRange i2 0 (w64 (((x1.length : Nat) : Int) - 1)))) || (!(spec_inRange i3 (-1000) 1000)))))], [.row .nod x1 false]⟩ ?_ ?_
  · refine WO_if 12 rfl (fun hb22 => ?_) (fun hb22 => ?_)
    · refine WO_step 12 [0] [0, 1, 2, 24] True ⟨[(0, .one (.e (.sl 0 0 x1.length))), (1, I i2), (2, I i3), (24, B true)], [.row .nod x1 false]⟩ (by kernel_rfl) trivial ?_
      exact WO_nil rfl ⟨rfl, by first | rfl | (rw [hb22]; first | done | rfl)⟩
    · refine WO_step 4 [0] [0, 1, 2, 12, 13, 16] (True ∧ (True ∧ True)) ⟨[(0, .one (.e (.sl 0 0 x1.length))), (1, I i2), (2, I i3), (12, B false), (13, I i2), (16, I (w64 (((x1.length : Nat) : Int) - 1)))], [.row .nod x1 false]⟩ (by kernel_rfl) ⟨trivial, trivial, trivial⟩ ?_
      refine WO_call [] Try.f65 rfl rfl rfl (by kernel_rfl) Try.func65 rfl (by kernel_rfl) (spec_inRange_ok i2 0 (w64 (((x1.length : Nat) : Int) - 1))) (trivial) rfl ?_
      refine WO_step 3 [0] [0, 1, 2, 20] True ⟨[(0, .one (.e (.sl 0 0 x1.length))), (1, I i2), (2, I i3), (20, B (!(spec_inRange i2 0 (w64 (((x1.length : Nat) : Int) - 1)))))], [.row .nod x1 false]⟩ (by kernel_rfl) trivial ?_
      refine WO_if 20 rfl (fun hb23 => ?_) (fun hb23 => ?_)
      · refine WO_step 4 [0] [0, 1, 2, 24] True ⟨[(0, .one (.e (.sl 0 0 x1.length))), (1, I i2), (2, I i3), (24, B true)], [.row .nod x1 false]⟩ (by kernel_rfl) trivial ?_
        exact WO_nil rfl ⟨rfl, by first | rfl | (simp only [hb22, hb23]; first | done | rfl)⟩
      · refine WO_step 1 [0] [0, 1, 2, 20, 21] True ⟨[(0, .one (.e (.sl 0 0 x1.length))), (1, I i2), (2, I i3), (20, B false), (21, I i3)], [.row .nod x1 false]⟩ (by kernel_rfl) trivial ?_
        refine WO_call [] Try.f65 rfl rfl rfl (by kernel_rfl) Try.func65 rfl (by kernel_rfl) (spec_inRange_ok i3 (-1000) 1000) (trivial) rfl ?_
        refine WO_step 2 [0] [0, 1, 2, 24] True ⟨[(0, .one (.e (.sl 0 0 x1.length))), (1, I i2), (2, I i3), (24, B (!(spec_inRange i3 (-1000) 1000)))], [.row .nod x1 false]⟩ (by kernel_rfl) trivial ?_
        exact WO_nil rfl ⟨rfl, by first | rfl | (simp only [hb22, hb23]; first | done | rfl)⟩
  · refine thenS_n ?_
    refine iteO_e h (fun hb25 h => W_true rfl hb25 ?_) (fun hb25 h => W_false rfl hb25 ?_)
    · refine W_seq ?_
      refine W_region ?_
      refine WO_step 2 [0] [6, 7] True ⟨[(6, .one (.e (.nsl))), (7, B false)], [.row .nod x1 false]⟩ (by kernel_rfl) trivial ?_
      refine WO_nilrow 6 .nod rfl ?_
      refine WO_sub [0, 1] [6, 7] (st' := ⟨[(6, .one (.e (.sl 1 0 (([] : List Nod).length)))), (7, B false)], [.row .nod x1 false, .row .nod ([] : List Nod) true]⟩) (by kernel_rfl) ?_
      refine WO_nil rfl ?_
      refine thenS_n ?_
      refine W_ret ?_
      refine thenS_r ?_
      cases h
      exact ⟨[0, 1], True, by kernel_rfl, trivial⟩
    · refine W_sub [0] [0, 1, 2] (st' := ⟨[(0, .one (.e (.sl 0 0 x1.length))), (1, I i2), (2, I i3)], [.row .nod x1 false]⟩) (by kernel_rfl) ?_
      refine W_skip ?_
      refine thenS_n ?_
      refine W_seq ?_
      refine W_region ?_
      refine guardO_e h (fun hg26 h => ?_)
      refine WO_step 4 [0, 2] [1, 2, 8] ((0 = 0 ∧ ([] : List Nod).length = ([] : List Nod).length ∧ ([] : List Nod).length + ((x1.drop 0).take x1.length).length ≤ 1099511627776) ∧ True) ⟨[(1, I i2), (2, I i3), (8, .one (.e (.sl 1 0 ((([] : List Nod) ++ ((x1.drop 0).take x1.length)).length))))], [.row .nod x1 false, .row .nod (([] : List Nod) ++ ((x1.drop 0).take x1.length)) true]⟩ (by kernel_rfl) ⟨hg26, trivial⟩ ?_
      refine WO_nil rfl ?_
      refine thenS_n ?_
      refine W_seq ?_
      refine W_region ?_
      refine guardO_e h (fun hg27 h => ?_)
      refine WO_step 6 [0, 1] [8] ((0 ≤ i2 ∧ i2 < (((([] : List Nod) ++ ((x1.drop 0).take x1.length)).length : Nat) : Int)) ∧ (True ∧ True)) ⟨[(8, .one (.e (.sl 1 0 ((([] : List Nod) ++ ((x1.drop 0).take x1.length)).length))))], [.row .nod x1 false, .row .nod ((([] : List Nod) ++ ((x1.drop 0).take x1.length)).set i2.toNat (⟨((([] : List Nod) ++ ((x1.drop 0).take x1.length)).getD i2.toNat dnod).parent, ((([] : List Nod) ++ ((x1.drop 0).take x1.length)).getD i2.toNat dnod).name, i3⟩ : Nod)) true]⟩ (by kernel_rfl) ⟨hg27, trivial, trivial⟩ ?_
      refine WO_eq (st' := ⟨[(8, .one (.e (.sl 1 0 (((([] : List Nod) ++ ((x1.drop 0).take x1.length)).set i2.toNat (⟨((([] : List Nod) ++ ((x1.drop 0).take x1.length)).getD i2.toNat dnod).parent, ((([] : List Nod) ++ ((x1.drop 0).take x1.length)).getD i2.toNat dnod).name, i3⟩ : Nod)).length))))], [.row .nod x1 false, .row .nod ((([] : List Nod) ++ ((x1.drop 0).take x1.length)).set i2.toNat (⟨((([] : List Nod) ++ ((x1.drop 0).take x1.length)).getD i2.toNat dnod).parent, ((([] : List Nod) ++ ((x1.drop 0).take x1.length)).getD i2.toNat dnod).name, i3⟩ : Nod)) true]⟩) (by simp only [List.length_set]) ?_
      refine WO_nil rfl ?_
      refine thenS_n ?_
      refine W_seq ?_
      refine W_region ?_
      refine WO_step 3 [0, 1] [6, 7] True ⟨[(6, .one (.e (.sl 1 0 (((([] : List Nod) ++ ((x1.drop 0).take x1.length)).set i2.toNat (⟨((([] : List Nod) ++ ((x1.drop 0).take x1.length)).getD i2.toNat dnod).parent, ((([] : List Nod) ++ ((x1.drop 0).take x1.length)).getD i2.toNat dnod).name, i3⟩ : Nod)).length)))), (7, B true)], [.row .nod x1 false, .row .nod ((([] : List Nod) ++ ((x1.drop 0).take x1.length)).set i2.toNat (⟨((([] : List Nod) ++ ((x1.drop 0).take x1.length)).getD i2.toNat dnod).parent, ((([] : List Nod) ++ ((x1.drop 0).take x1.length)).getD i2.toNat dnod).name, i3⟩ : Nod)) true]⟩ (by kernel_rfl) trivial ?_
      refine WO_nil rfl ?_
      refine thenS_n ?_
      refine W_ret ?_
      cases h
      exact ⟨[0, 1], True, by kernel_rfl, trivial⟩

/- spec.cut -/
def spec_cut_L1 (s1 : Str) : Nat → Int → Option ((Str × Str) ⊕ (Unit))
| 0, _ => none
| n + 1, i86 =>
 iteO (decide (0 < i86))
 (guardO (0 ≤ i86 ∧ i86 < ((s1.length : Nat) : Int)) <|
 iteO (decide (((s1.getD i86.toNat 0).toNat : Int) = 47))
 (guardO (0 ≤ i86 ∧ i86 ≤ ((s1.length : Nat) : Int)) <|
 guardO (0 ≤ (w64 (i86 + 1)) ∧ (w64 (i86 + 1)) ≤ ((s1.length : Nat) : Int)) <|
 some (.inl ((s1.take i86.toNat), (s1.drop ((w64 (i86 + 1)).toNat)))))
 (spec_cut_L1 s1 n (w64 (i86 - 1))))
 (some (.inr ()))

theorem spec_cut_L1_ok (w : World) (X : Nat → Prop) (θ : List Loc) (s1 : Str) (v : (Str × Str) ⊕ (Unit)) : ∀ (n : Nat) (i86 : Int), spec_cut_L1 s1 n i86 = some v → WL EE ⟨w, X, θ, 28, 0⟩ (subC [1, 0, 1, 4, 4] (bodyC Try.f68)) (fun (e : Exit) (s : St) => (match v with | (.inl (s104, s105)) => e = .ret ∧ s = ⟨[(2, S s104), (3, S s105)], []⟩ | (.inr _) => e = .exit 0 ∧ s = ⟨[(0, S s1)], []⟩ : Prop)) ⟨[(0, S s1), (4, I i86)], []⟩ := by
  intro n
  induction n with
  | zero => intro _ h; exact none_e h
  | succ n ih =>
    intro i86 h
    rw [spec_cut_L1] at h
    refine WL_round ?_
    refine W_seq ?_
    refine W_seq ?_
    refine W_region ?_
    refine WO_step 2 [] [0, 4, 9] (True ∧ True) ⟨[(0, S s1), (4, I i86), (9, B (decide (0 < i86)))], []⟩ (by kernel_rfl) ⟨trivial, trivial⟩ ?_
    refine WO_nil rfl ?_
    refine thenS_n ?_
    refine iteO_e h (fun hb108 h => W_true rfl hb108 ?_) (fun hb108 h => W_false rfl hb108 ?_)
    · refine W_sub [] [0, 4] (st' := ⟨[(0, S s1), (4, I i86)], []⟩) (by kernel_rfl) ?_
      refine W_skip ?_
      refine thenS_n ?_
      refine W_seq ?_
      refine W_block ?_
      refine W_seq ?_
      refine W_region ?_
      refine guardO_e h (fun hg116 h => ?_)
      refine WO_step 4 [] [0, 4, 15] ((0 ≤ i86 ∧ i86 < ((s1.length : Nat) : Int)) ∧ (True ∧ True)) ⟨[(0, S s1), (4, I i86), (15, B (decide (((s1.getD i86.toNat 0).toNat : Int) = 47)))], []⟩ (by kernel_rfl) ⟨hg116, trivial, trivial⟩ ?_
      refine WO_nil rfl ?_
      refine thenS_n ?_
      refine iteO_e h (fun hb120 h => W_true rfl hb120 ?_) (fun hb120 h => W_false rfl hb120 ?_)
      · refine W_seq ?_
        refine guardO_e h (fun hg121 h => ?_)
        refine guardO_e h (fun hg122 h => ?_)
        refine W_cut (Q' := fun (e : Exit) (s : St) => e = .normal ∧ s = ⟨[(2, S (s1.take i86.toNat)), (3, S (s1.drop ((w64 (i86 + 1)).toNat)))], []⟩) ?_ ?_
        · refine W_draw [] true (by kernel_rfl) (by kernel_rfl) ?_
          refine WD_takeK [0, 1, 2, 3, 4, 5, 6, 7, 8] [2, 3] [2, 3] (φ := ((0 ≤ i86 ∧ i86 ≤ ((s1.length : Nat) : Int)) ∧ (0 ≤ i86 ∧ i86 ≤ ((s1.length : Nat) : Int)) ∧ (True ∧ True ∧ ((0 ≤ (w64 (i86 + 1)) ∧ (w64 (i86 + 1)) ≤ ((s1.length : Nat) : Int)) ∧ (0 ≤ (w64 (i86 + 1)) ∧ (w64 (i86 + 1)) ≤ ((s1.length : Nat) : Int)) ∧ True)))) (ls' := #[true, true, true, true, true, true, true, true, true]) (Ts' := [(2, S (s1.take i86.toNat)), (3, S (s1.drop ((w64 (i86 + 1)).toNat)))]) (st' := ⟨[(2, S (s1.take i86.toNat)), (3, S (s1.drop ((w64 (i86 + 1)).toNat)))], []⟩) (n2 := 0) (by kernel_rfl) ⟨hg121, hg121, trivial, trivial, hg122, hg122, trivial⟩ rfl ?_
          exact WD_done [] [2, 3] (st' := ⟨[(2, S (s1.take i86.toNat)), (3, S (s1.drop ((w64 (i86 + 1)).toNat)))], []⟩) (by kernel_rfl) (by kernel_rfl) (And.intro rfl rfl)
        · rintro _ _ ⟨rfl, rfl⟩
          refine thenS_n ?_
          refine W_ret ?_
          refine blockS_r ?_
          refine thenS_r ?_
          refine thenS_r ?_
          cases h
          exact And.intro rfl rfl
      · refine W_sub [] [0, 4] (st' := ⟨[(0, S s1), (4, I i86)], []⟩) (by kernel_rfl) ?_
        refine W_skip ?_
        refine blockS_n ?_
        refine thenS_n ?_
        refine W_region ?_
        refine WO_step 3 [] [0, 4] (True ∧ True) ⟨[(0, S s1), (4, I (w64 (i86 - 1)))], []⟩ (by kernel_rfl) ⟨trivial, trivial⟩ ?_
        refine WO_nil rfl ?_
        refine thenS_n ?_
        exact ih _ h
    · refine W_sub [] [0] (st' := ⟨[(0, S s1)], []⟩) (by kernel_rfl) ?_
      refine W_exit ?_
      refine thenS_e ?_
      refine thenS_e ?_
      cases h
      exact And.intro rfl rfl

def spec_cut (n : Nat) (s1 : Str) : Option (Str × Str) :=
 bindO (spec_cut_L1 s1 n (w64 (((s1.length : Nat) : Int) - 1))) fun v123 =>
 match v123 with
 | (.inl (s104, s105)) => (some (s104, s105))
 | (.inr _) => (iteO (decide (((s1.length : Nat) : Int) = 0))
 (some ([], []))
 (guardO (0 ≤ (1 : Int) ∧ (1 : Int) ≤ ((s1.length : Nat) : Int)) <|
 some ([47], (s1.drop 1))))


theorem spec_cut_ok (n : Nat) (s1 : Str) (s63 : Str) (s64 : Str) (h : spec_cut n s1 = some (s63, s64)) : FOk EE 68 [S s1] [] (.tup [.e (cS s63), .e (cS s64)]) [] := by
  unfold spec_cut at h
  refine FOk_of_W 28 0 Try.func68 rfl rfl (Nat.le_of_ble_eq_true rfl) rfl (fun w X θ => ?_)
  refine W_seq ?_
  refine W_region ?_
  refine WO_step 2 [] [0] True ⟨[(0, S s1)], []⟩ (by kernel_rfl) trivial ?_
  refine WO_nil rfl ?_
  refine thenS_n ?_
  refine W_seq ?_
  refine W_seq ?_
  refine W_region ?_
  refine WO_step 4 [] [0, 4] (True ∧ (True ∧ True)) ⟨[(0, S s1), (4, I (w64 (((s1.length : Nat) : Int) - 1)))], []⟩ (by kernel_rfl) ⟨trivial, trivial, trivial⟩ ?_
  refine WO_nil rfl ?_
  refine thenS_n ?_
  refine W_block ?_
  refine W_loop ?_
  refine bindO_e h (fun v123 hv123 h => ?_)
  refine WL_cut (spec_cut_L1_ok w X θ s1 v123 n (w64 (((s1.length : Nat) : Int) - 1)) hv123) ?_
  rcases v123 with ⟨s104, s105⟩ | _
  · rintro _ _ ⟨rfl, rfl⟩
    refine blockS_r ?_
    refine thenS_r ?_
    cases h
    exact ⟨[], True, by kernel_rfl, trivial⟩
  · rintro _ _ ⟨rfl, rfl⟩
    refine blockS_y ?_
    refine thenS_n ?_
    refine W_seq ?_
    refine W_seq ?_
    refine W_region ?_
    refine WO_step 3 [] [0, 25] (True ∧ (True ∧ True)) ⟨[(0, S s1), (25, B (decide (((s1.length : Nat) : Int) = 0)))], []⟩ (by kernel_rfl) ⟨trivial, trivial, trivial⟩ ?_
    refine WO_nil rfl ?_
    refine thenS_n ?_
    refine iteO_e h (fun hb125 h => W_true rfl hb125 ?_) (fun hb125 h => W_false rfl hb125 ?_)
    · refine W_seq ?_
      refine W_region ?_
      refine WO_step 2 [] [2, 3] True ⟨[(2, S []), (3, S [])], []⟩ (by kernel_rfl) trivial ?_
      refine WO_nil rfl ?_
      refine thenS_n ?_
      refine W_ret ?_
      refine thenS_r ?_
      cases h
      exact ⟨[], True, by kernel_rfl, trivial⟩
    · refine W_sub [] [0] (st' := ⟨[(0, S s1)], []⟩) (by kernel_rfl) ?_
      refine W_skip ?_
      refine thenS_n ?_
      refine W_seq ?_
      refine guardO_e h (fun hg126 h => ?_)
      refine W_cut (Q' := fun (e : Exit) (s : St) => e = .normal ∧ s = ⟨[(2, S [47]), (3, S (s1.drop 1))], []⟩) ?_ ?_
      · refine W_draw [] true (by kernel_rfl) (by kernel_rfl) ?_
        refine WD_takeK [0, 1, 2, 3] [2, 3] [2, 3] (φ := ((0 ≤ (1 : Int) ∧ (1 : Int) ≤ ((s1.length : Nat) : Int)) ∧ (0 ≤ (1 : Int) ∧ (1 : Int) ≤ ((s1.length : Nat) : Int)) ∧ True)) (ls' := #[true, true, true, true]) (Ts' := [(2, S [47]), (3, S (s1.drop 1))]) (st' := ⟨[(2, S [47]), (3, S (s1.drop 1))], []⟩) (n2 := 0) (by kernel_rfl) ⟨hg126, hg126, trivial⟩ rfl ?_
        exact WD_done [] [2, 3] (st' := ⟨[(2, S [47]), (3, S (s1.drop 1))], []⟩) (by kernel_rfl) (by kernel_rfl) (And.intro rfl rfl)
      · rintro _ _ ⟨rfl, rfl⟩
        refine thenS_n ?_
        refine W_ret ?_
        cases h
        exact ⟨[], True, by kernel_rfl, trivial⟩

/- spec.apply -/
def spec_apply (n : Nat) (x1 : List Nod) (x2 : Edt) : Option ((List Nod) × Bool) :=
 bindO (spec_resolve n x1 x2.path) fun i53 =>
 iteO ((decide (x2.kind = 1)) && (decide (x2.value = 0)))
 (bindO (spec_DropNode n x1 i53) fun (x64, b65) =>
 some (x64, b65))
 (iteO (!decide (x2.kind = 0))
 (some (([] : List Nod), false))
 (iteO (decide (0 ≤ i53))
 (bindO (spec_SetValue n x1 i53 x2.value) fun (x76, b77) =>
 some (x76, b77))
 (bindO (spec_cut n x2.path) fun (s80, s81) =>
 bindO (spec_resolve n x1 s80) fun i83 =>
 bindO (spec_AddNode n x1 i83 s81 x2.value) fun (x85, i86, b87) =>
 bindO (iteO (!b87)
 (some true)
 (bindO (spec_resolve n x85 x2.path) fun i96 =>
 some (decide (i96 < 0)))) fun b93 =>
 iteO b93
 (some (([] : List Nod), false))
 (some (x85, true)))))

theorem spec_apply_ok (n : Nat) (x1 : List Nod) (x2 : Edt) (x51 : List Nod) (b52 : Bool) (h : spec_apply n x1 x2 = some (x51, b52)) : FOk EE 38 [.one (.e (.sl 0 0 x1.length)), AGG [cI x2.kind, cS x2.path, cI x2.value]] [.row .nod x1 false] (.tup [.e (.sl 1 0 x51.length), .e (cB b52)]) [.row .nod x1 false, .row .nod x51 true] := by
  unfold spec_apply at h
  refine FOk_of_W 69 1 Try.func38 rfl rfl (Nat.le_of_ble_eq_true rfl) rfl (fun w X θ => ?_)
  refine W_seq ?_
  refine W_region ?_
  refine WO_step 3 [0, 1] [0, 3] (True ∧ True) ⟨[(0, .one (.e (.sl 0 0 x1.length))), (3, .one (.e (.p 1 0)))], [.row .nod x1 false, .cells [cI x2.kind, cS x2.path, cI x2.value]]⟩ (by kernel_rfl) ⟨trivial, trivial⟩ ?_
  refine WO_nil rfl ?_
  refine thenS_n ?_
  refine W_seq ?_
  refine W_region ?_
  refine WO_step 3 [0, 1] [0, 3, 12, 14] (True ∧ True) ⟨[(0, .one (.e (.sl 0 0 x1.length))), (3, .one (.e (.p 1 0))), (12, .one (.e (.sl 0 0 x1.length))), (14, S x2.path)], [.row .nod x1 false, .cells [cI x2.kind, cS x2.path, cI x2.value]]⟩ (by kernel_rfl) ⟨trivial, trivial⟩ ?_
  refine bindO_e h (fun i53 hc54 h => ?_)
  refine WO_call [.ro 0] Try.f55 rfl rfl rfl (by kernel_rfl) Try.func55 rfl (by kernel_rfl) (spec_resolve_ok n x1 x2.path i53 hc54) (And.intro (And.intro rfl rfl) (trivial)) rfl ?_
  refine WO_step 1 [0, 1] [0, 3, 6] True ⟨[(0, .one (.e (.sl 0 0 x1.length))), (3, .one (.e (.p 1 0))), (6, I i53)], [.row .nod x1 false, .cells [cI x2.kind, cS x2.path, cI x2.value]]⟩ (by kernel_rfl) trivial ?_
  refine WO_nil rfl ?_
  refine thenS_n ?_
  refine W_seq ?_
  refine W_seq ?_
  refine W_region ?_
  refine WO_step 4 [0, 1] [0, 3, 6, 19] (True ∧ (True ∧ True)) ⟨[(0, .one (.e (.sl 0 0 x1.length))), (3, .one (.e (.p 1 0))), (6, I i53), (19, B (decide (x2.kind = 1)))], [.row .nod x1 false, .cells [cI x2.kind, cS x2.path, cI x2.value]]⟩ (by kernel_rfl) ⟨trivial, trivial, trivial⟩ ?_
  refine WO_thru ⟨[(0, .one (.e (.sl 0 0 x1.length))), (3, .one (.e (.p 1 0))), (6, I i53), (23, B ((decide (x2.kind = 1)) && (decide (x2.value = 0))))], [.row .nod x1 false, .cells [cI x2.kind, cS x2.path, cI x2.value]]⟩ ?_ ?_
  · refine WO_if 19 rfl (fun hb57 => ?_) (fun hb57 => ?_)
    · refine WO_step 4 [0, 1] [0, 3, 6, 23] (True ∧ (True ∧ True)) ⟨[(0, .one (.e (.sl 0 0 x1.length))), (3, .one (.e (.p 1 0))), (6, I i53), (23, B (decide (x2.value = 0)))], [.row .nod x1 false, .cells [cI x2.kind, cS x2.path, cI x2.value]]⟩ (by kernel_rfl) ⟨trivial, trivial, trivial⟩ ?_
      exact WO_nil rfl ⟨rfl, by first | rfl | (rw [hb57]; first | done | rfl)⟩
    · refine WO_step 4 [0, 1] [0, 3, 6, 23] True ⟨[(0, .one (.e (.sl 0 0 x1.length))), (3, .one (.e (.p 1 0))), (6, I i53), (23, B false)], [.row .nod x1 false, .cells [cI x2.kind, cS x2.path, cI x2.value]]⟩ (by kernel_rfl) trivial ?_
      exact WO_nil rfl ⟨rfl, by first | rfl | (rw [hb57]; first | done | rfl)⟩
  · refine thenS_n ?_
    refine iteO_e h (fun hb63 h => W_true rfl hb63 ?_) (fun hb63 h => W_false rfl hb63 ?_)
    · refine W_seq ?_
      refine W_region ?_
      refine WO_step 2 [0] [24, 25] True ⟨[(24, .one (.e (.sl 0 0 x1.length))), (25, I i53)], [.row .nod x1 false]⟩ (by kernel_rfl) trivial ?_
      refine bindO_e h (fun v67 hc66 h => ?_)
      obtain ⟨x64, b65⟩ := v67
      refine WO_call [.ro 0] Try.f66 rfl rfl rfl (by kernel_rfl) Try.func66 rfl (by kernel_rfl) (spec_DropNode_ok n x1 i53 x64 b65 hc66) (And.intro (And.intro rfl rfl) (trivial)) rfl ?_
      refine WO_step 4 [0, 1] [4, 5] True ⟨[(4, .one (.e (.sl 1 0 x64.length))), (5, B b65)], [.row .nod x1 false, .row .nod x64 true]⟩ (by kernel_rfl) trivial ?_
      refine WO_nil rfl ?_
      refine thenS_n ?_
      refine W_ret ?_
      refine thenS_r ?_
      cases h
      exact ⟨[0, 1], True, by kernel_rfl, trivial⟩
    · refine W_sub [0, 1] [0, 3, 6] (st' := ⟨[(0, .one (.e (.sl 0 0 x1.length))), (3, .one (.e (.p 1 0))), (6, I i53)], [.row .nod x1 false, .cells [cI x2.kind, cS x2.path, cI x2.value]]⟩) (by kernel_rfl) ?_
      refine W_skip ?_
      refine thenS_n ?_
      refine W_seq ?_
      refine W_seq ?_
      refine W_region ?_
      refine WO_step 3 [0, 1] [0, 3, 6, 31] (True ∧ (True ∧ True)) ⟨[(0, .one (.e (.sl 0 0 x1.length))), (3, .one (.e (.p 1 0))), (6, I i53), (31, B (!decide (x2.kind = 0)))], [.row .nod x1 false, .cells [cI x2.kind, cS x2.path, cI x2.value]]⟩ (by kernel_rfl) ⟨trivial, trivial, trivial⟩ ?_
      refine WO_nil rfl ?_
      refine thenS_n ?_
      refine iteO_e h (fun hb69 h => W_true rfl hb69 ?_) (fun hb69 h => W_false rfl hb69 ?_)
      · refine W_seq ?_
        refine W_region ?_
        refine WO_step 2 [0] [4, 5] True ⟨[(4, .one (.e (.nsl))), (5, B false)], [.row .nod x1 false]⟩ (by kernel_rfl) trivial ?_
        refine WO_nilrow 4 .nod rfl ?_
        refine WO_sub [0, 1] [4, 5] (st' := ⟨[(4, .one (.e (.sl 1 0 (([] : List Nod).length)))), (5, B false)], [.row .nod x1 false, .row .nod ([] : List Nod) true]⟩) (by kernel_rfl) ?_
        refine WO_nil rfl ?_
        refine thenS_n ?_
        refine W_ret ?_
        refine thenS_r ?_
        cases h
        exact ⟨[0, 1], True, by kernel_rfl, trivial⟩
      · refine W_sub [0, 1] [0, 3, 6] (st' := ⟨[(0, .one (.e (.sl 0 0 x1.length))), (3, .one (.e (.p 1 0))), (6, I i53)], [.row .nod x1 false, .cells [cI x2.kind, cS x2.path, cI x2.value]]⟩) (by kernel_rfl) ?_
        refine W_skip ?_
        refine thenS_n ?_
        refine W_seq ?_
        refine W_seq ?_
        refine W_region ?_
        refine WO_step 2 [0, 1] [0, 3, 6, 33] (True ∧ True) ⟨[(0, .one (.e (.sl 0 0 x1.length))), (3, .one (.e (.p 1 0))), (6, I i53), (33, B (decide (0 ≤ i53)))], [.row .nod x1 false, .cells [cI x2.kind, cS x2.path, cI x2.value]]⟩ (by kernel_rfl) ⟨trivial, trivial⟩ ?_
        refine WO_nil rfl ?_
        refine thenS_n ?_
        refine iteO_e h (fun hb75 h => W_true rfl hb75 ?_) (fun hb75 h => W_false rfl hb75 ?_)
        · refine W_seq ?_
          refine W_region ?_
          refine WO_step 4 [0] [34, 35, 37] (True ∧ True) ⟨[(34, .one (.e (.sl 0 0 x1.length))), (35, I i53), (37, I x2.value)], [.row .nod x1 false]⟩ (by kernel_rfl) ⟨trivial, trivial⟩ ?_
          refine bindO_e h (fun v79 hc78 h => ?_)
          obtain ⟨x76, b77⟩ := v79
          refine WO_call [.ro 0] Try.f67 rfl rfl rfl (by kernel_rfl) Try.func67 rfl (by kernel_rfl) (spec_SetValue_ok n x1 i53 x2.value x76 b77 hc78) (And.intro (And.intro rfl rfl) (trivial)) rfl ?_
          refine WO_step 4 [0, 1] [4, 5] True ⟨[(4, .one (.e (.sl 1 0 x76.length))), (5, B b77)], [.row .nod x1 false, .row .nod x76 true]⟩ (by kernel_rfl) trivial ?_
          refine WO_nil rfl ?_
          refine thenS_n ?_
          refine W_ret ?_
          refine thenS_r ?_
          cases h
          exact ⟨[0, 1], True, by kernel_rfl, trivial⟩
        · refine W_sub [0, 1] [0, 3] (st' := ⟨[(0, .one (.e (.sl 0 0 x1.length))), (3, .one (.e (.p 1 0)))], [.row .nod x1 false, .cells [cI x2.kind, cS x2.path, cI x2.value]]⟩) (by kernel_rfl) ?_
          refine W_skip ?_
          refine thenS_n ?_
          refine W_seq ?_
          refine W_region ?_
          refine WO_step 2 [0, 1] [0, 3, 43] (True ∧ True) ⟨[(0, .one (.e (.sl 0 0 x1.length))), (3, .one (.e (.p 1 0))), (43, S x2.path)], [.row .nod x1 false, .cells [cI x2.kind, cS x2.path, cI x2.value]]⟩ (by kernel_rfl) ⟨trivial, trivial⟩ ?_
          refine bindO_e h (fun v100 hc82 h => ?_)
          obtain ⟨s80, s81⟩ := v100
          refine WO_call [] Try.f68 rfl rfl rfl (by kernel_rfl) Try.func68 rfl (by kernel_rfl) (spec_cut_ok n x2.path s80 s81 hc82) (trivial) rfl ?_
          refine WO_step 5 [0, 1] [0, 3, 7, 8] True ⟨[(0, .one (.e (.sl 0 0 x1.length))), (3, .one (.e (.p 1 0))), (7, S s80), (8, S s81)], [.row .nod x1 false, .cells [cI x2.kind, cS x2.path, cI x2.value]]⟩ (by kernel_rfl) trivial ?_
          refine WO_nil rfl ?_
          refine thenS_n ?_
          refine W_seq ?_
          refine bindO_e h (fun i83 hc84 h => ?_)
          refine bindO_e h (fun v89 hc88 h => ?_)
          obtain ⟨x85, i86, b87⟩ := v89
          refine W_cut (Q' := fun (e : Exit) (s : St) => e = .normal ∧ s = ⟨[(3, .one (.e (.p 1 0))), (9, .one (.e (.sl 2 0 x85.length))), (11, B b87)], [.row .nod x1 false, .cells [cI x2.kind, cS x2.path, cI x2.value], .row .nod x85 true]⟩) ?_ ?_
          · refine W_draw [] false (by kernel_rfl) (by kernel_rfl) ?_
            refine WD_takeK [0, 1, 2, 4, 5, 6] [3, 48, 49, 50, 52, 54] [3, 48, 49, 50, 52, 54] (φ := (True ∧ True ∧ True)) (ls' := #[true, true, true, false, true, true, true, false, false, false, false, false, false, false, false]) (Ts' := [(3, .one (.e (.p 1 0))), (48, .one (.e (.sl 0 0 x1.length))), (49, .one (.e (.sl 0 0 x1.length))), (50, S s80), (52, S s81), (54, I x2.value)]) (st' := ⟨[(3, .one (.e (.p 1 0))), (48, .one (.e (.sl 0 0 x1.length))), (49, .one (.e (.sl 0 0 x1.length))), (50, S s80), (52, S s81), (54, I x2.value)], [.row .nod x1 false, .cells [cI x2.kind, cS x2.path, cI x2.value]]⟩) (n2 := 9) (by kernel_rfl) ⟨trivial, trivial, trivial⟩ rfl ?_
            refine WD_all [3] (n := 8) (by kernel_rfl) rfl ?_
            refine WM_call [.ro 0] Try.f55 rfl rfl (by kernel_rfl) Try.func55 rfl (by kernel_rfl) (spec_resolve_ok n x1 s80 i83 hc84) (And.intro (And.intro rfl rfl) (trivial)) rfl (And.intro rfl (And.intro (And.intro rfl rfl) (trivial))) ?_
            refine WD_all [7] (n := 7) (by kernel_rfl) rfl ?_
            refine WM_call [.ro 0] Try.f59 rfl rfl (by kernel_rfl) Try.func59 rfl (by kernel_rfl) (spec_AddNode_ok n x1 i83 s81 x2.value x85 i86 b87 hc88) (And.intro (And.intro rfl rfl) (trivial)) rfl (And.intro rfl (And.intro (And.intro rfl rfl) (trivial))) ?_
            refine WD_all [8] (n := 6) (by kernel_rfl) rfl ?_
            refine WM_op (φ := True) (v := .tup [.e (.sl 2 0 x85.length), .e (cI i86), .e (cB b87)]) (H' := [.row .nod x1 false, .cells [cI x2.kind, cS x2.path, cI x2.value], .row .nod x85 true]) rfl rfl (by kernel_rfl) trivial rfl (And.intro rfl (And.intro (And.intro rfl rfl) (trivial))) ?_
            refine WD_all [9, 10, 11] (n := 5) (by kernel_rfl) rfl (And.intro ?_ (And.intro ?_ (?_)))
            · refine WM_op (φ := True) (v := .one (.e (.sl 2 0 x85.length))) (H' := [.row .nod x1 false, .cells [cI x2.kind, cS x2.path, cI x2.value], .row .nod x85 true]) rfl rfl (by kernel_rfl) trivial rfl (And.intro rfl (And.intro (And.intro rfl rfl) (trivial))) ?_
              refine WD_all [10, 11, 12] (n := 4) (by kernel_rfl) rfl (And.intro ?_ (And.intro ?_ (?_)))
              · refine WM_op (φ := True) (v := I i86) (H' := [.row .nod x1 false, .cells [cI x2.kind, cS x2.path, cI x2.value], .row .nod x85 true]) rfl rfl (by kernel_rfl) trivial rfl (And.intro rfl (And.intro (And.intro rfl rfl) (trivial))) ?_
                refine WD_all [11, 12] (n := 3) (by kernel_rfl) rfl (And.intro ?_ (?_))
                · refine WM_op (φ := True) (v := B b87) (H' := [.row .nod x1 false, .cells [cI x2.kind, cS x2.path, cI x2.value], .row .nod x85 true]) rfl rfl (by kernel_rfl) trivial rfl (And.intro rfl (And.intro (And.intro rfl rfl) (trivial))) ?_
                  refine WD_all [12] (n := 2) (by kernel_rfl) rfl ?_
                  refine WM_op (φ := True) (v := .one (.e (.sl 2 0 x85.length))) (H' := [.row .nod x1 false, .cells [cI x2.kind, cS x2.path, cI x2.value], .row .nod x85 true]) rfl rfl (by kernel_rfl) trivial rfl (And.intro rfl (And.intro (And.intro rfl rfl) (trivial))) ?_
                  refine WD_takeK [13, 14] [3, 11] [3, 9, 11] (φ := True) (ls' := #[true, true, true, true, true, true, true, true, true, true, true, true, true, true, true]) (Ts' := [(3, .one (.e (.p 1 0))), (11, B b87)]) (st' := ⟨[(3, .one (.e (.p 1 0))), (9, .one (.e (.sl 2 0 x85.length))), (11, B b87)], [.row .nod x1 false, .cells [cI x2.kind, cS x2.path, cI x2.value], .row .nod x85 true]⟩) (n2 := 0) (by kernel_rfl) trivial rfl ?_
                  exact WD_done [0, 1, 2] [3, 9, 11] (st' := ⟨[(3, .one (.e (.p 1 0))), (9, .one (.e (.sl 2 0 x85.length))), (11, B b87)], [.row .nod x1 false, .cells [cI x2.kind, cS x2.path, cI x2.value], .row .nod x85 true]⟩) (by kernel_rfl) (by kernel_rfl) (And.intro rfl rfl)
                · refine WM_op (φ := True) (v := .one (.e (.sl 2 0 x85.length))) (H' := [.row .nod x1 false, .cells [cI x2.kind, cS x2.path, cI x2.value], .row .nod x85 true]) rfl rfl (by kernel_rfl) trivial rfl (And.intro rfl (And.intro (And.intro rfl rfl) (trivial))) ?_
                  refine WD_takeK [13] [3] [3, 9, 47] (φ := True) (ls' := #[true, true, true, true, true, true, true, true, true, true, true, false, true, true, false]) (Ts' := [(3, .one (.e (.p 1 0)))]) (st' := ⟨[(3, .one (.e (.p 1 0))), (9, .one (.e (.sl 2 0 x85.length))), (47, .tup [.e (.sl 2 0 x85.length), .e (cI i86), .e (cB b87)])], [.row .nod x1 false, .cells [cI x2.kind, cS x2.path, cI x2.value], .row .nod x85 true]⟩) (n2 := 2) (by kernel_rfl) trivial rfl ?_
                  refine WD_all [11] (n := 1) (by kernel_rfl) rfl ?_
                  refine WM_op (φ := True) (v := B b87) (H' := [.row .nod x1 false, .cells [cI x2.kind, cS x2.path, cI x2.value], .row .nod x85 true]) rfl rfl (by kernel_rfl) trivial rfl (And.intro rfl (And.intro (And.intro rfl rfl) (trivial))) ?_
                  refine WD_takeK [14] [3, 11] [3, 9, 11] (φ := True) (ls' := #[true, true, true, true, true, true, true, true, true, true, true, true, true, true, true]) (Ts' := [(3, .one (.e (.p 1 0))), (11, B b87)]) (st' := ⟨[(3, .one (.e (.p 1 0))), (9, .one (.e (.sl 2 0 x85.length))), (11, B b87)], [.row .nod x1 false, .cells [cI x2.kind, cS x2.path, cI x2.value], .row .nod x85 true]⟩) (n2 := 0) (by kernel_rfl) trivial rfl ?_
                  exact WD_done [0, 1, 2] [3, 9, 11] (st' := ⟨[(3, .one (.e (.p 1 0))), (9, .one (.e (.sl 2 0 x85.length))), (11, B b87)], [.row .nod x1 false, .cells [cI x2.kind, cS x2.path, cI x2.value], .row .nod x85 true]⟩) (by kernel_rfl) (by kernel_rfl) (And.intro rfl rfl)
              · refine WM_op (φ := True) (v := B b87) (H' := [.row .nod x1 false, .cells [cI x2.kind, cS x2.path, cI x2.value], .row .nod x85 true]) rfl rfl (by kernel_rfl) trivial rfl (And.intro rfl (And.intro (And.intro rfl rfl) (trivial))) ?_
                refine WD_all [10, 12] (n := 3) (by kernel_rfl) rfl (And.intro ?_ (?_))
                · refine WM_op (φ := True) (v := I i86) (H' := [.row .nod x1 false, .cells [cI x2.kind, cS x2.path, cI x2.value], .row .nod x85 true]) rfl rfl (by kernel_rfl) trivial rfl (And.intro rfl (And.intro (And.intro rfl rfl) (trivial))) ?_
                  refine WD_all [12] (n := 2) (by kernel_rfl) rfl ?_
                  refine WM_op (φ := True) (v := .one (.e (.sl 2 0 x85.length))) (H' := [.row .nod x1 false, .cells [cI x2.kind, cS x2.path, cI x2.value], .row .nod x85 true]) rfl rfl (by kernel_rfl) trivial rfl (And.intro rfl (And.intro (And.intro rfl rfl) (trivial))) ?_
                  refine WD_takeK [13, 14] [3, 11] [3, 9, 11] (φ := True) (ls' := #[true, true, true, true, true, true, true, true, true, true, true, true, true, true, true]) (Ts' := [(3, .one (.e (.p 1 0))), (11, B b87)]) (st' := ⟨[(3, .one (.e (.p 1 0))), (9, .one (.e (.sl 2 0 x85.length))), (11, B b87)], [.row .nod x1 false, .cells [cI x2.kind, cS x2.path, cI x2.value], .row .nod x85 true]⟩) (n2 := 0) (by kernel_rfl) trivial rfl ?_
                  exact WD_done [0, 1, 2] [3, 9, 11] (st' := ⟨[(3, .one (.e (.p 1 0))), (9, .one (.e (.sl 2 0 x85.length))), (11, B b87)], [.row .nod x1 false, .cells [cI x2.kind, cS x2.path, cI x2.value], .row .nod x85 true]⟩) (by kernel_rfl) (by kernel_rfl) (And.intro rfl rfl)
                · refine WM_op (φ := True) (v := .one (.e (.sl 2 0 x85.length))) (H' := [.row .nod x1 false, .cells [cI x2.kind, cS x2.path, cI x2.value], .row .nod x85 true]) rfl rfl (by kernel_rfl) trivial rfl (And.intro rfl (And.intro (And.intro rfl rfl) (trivial))) ?_
                  refine WD_all [10] (n := 2) (by kernel_rfl) rfl ?_
                  refine WM_op (φ := True) (v := I i86) (H' := [.row .nod x1 false, .cells [cI x2.kind, cS x2.path, cI x2.value], .row .nod x85 true]) rfl rfl (by kernel_rfl) trivial rfl (And.intro rfl (And.intro (And.intro rfl rfl) (trivial))) ?_
                  refine WD_takeK [13, 14] [3, 11] [3, 9, 11] (φ := True) (ls' := #[true, true, true, true, true, true, true, true, true, true, true, true, true, true, true]) (Ts' := [(3, .one (.e (.p 1 0))), (11, B b87)]) (st' := ⟨[(3, .one (.e (.p 1 0))), (9, .one (.e (.sl 2 0 x85.length))), (11, B b87)], [.row .nod x1 false, .cells [cI x2.kind, cS x2.path, cI x2.value], .row .nod x85 true]⟩) (n2 := 0) (by kernel_rfl) trivial rfl ?_
                  exact WD_done [0, 1, 2] [3, 9, 11] (st' := ⟨[(3, .one (.e (.p 1 0))), (9, .one (.e (.sl 2 0 x85.length))), (11, B b87)], [.row .nod x1 false, .cells [cI x2.kind, cS x2.path, cI x2.value], .row .nod x85 true]⟩) (by kernel_rfl) (by kernel_rfl) (And.intro rfl rfl)
              · refine WM_op (φ := True) (v := .one (.e (.sl 2 0 x85.length))) (H' := [.row .nod x1 false, .cells [cI x2.kind, cS x2.path, cI x2.value], .row .nod x85 true]) rfl rfl (by kernel_rfl) trivial rfl (And.intro rfl (And.intro (And.intro rfl rfl) (trivial))) ?_
                refine WD_all [10, 11] (n := 3) (by kernel_rfl) rfl (And.intro ?_ (?_))
                · refine WM_op (φ := True) (v := I i86) (H' := [.row .nod x1 false, .cells [cI x2.kind, cS x2.path, cI x2.value], .row .nod x85 true]) rfl rfl (by kernel_rfl) trivial rfl (And.intro rfl (And.intro (And.intro rfl rfl) (trivial))) ?_
                  refine WD_takeK [13] [3] [3, 9, 47] (φ := True) (ls' := #[true, true, true, true, true, true, true, true, true, true, true, false, true, true, false]) (Ts' := [(3, .one (.e (.p 1 0)))]) (st' := ⟨[(3, .one (.e (.p 1 0))), (9, .one (.e (.sl 2 0 x85.length))), (47, .tup [.e (.sl 2 0 x85.length), .e (cI i86), .e (cB b87)])], [.row .nod x1 false, .cells [cI x2.kind, cS x2.path, cI x2.value], .row .nod x85 true]⟩) (n2 := 2) (by kernel_rfl) trivial rfl ?_
                  refine WD_all [11] (n := 1) (by kernel_rfl) rfl ?_
                  refine WM_op (φ := True) (v := B b87) (H' := [.row .nod x1 false, .cells [cI x2.kind, cS x2.path, cI x2.value], .row .nod x85 true]) rfl rfl (by kernel_rfl) trivial rfl (And.intro rfl (And.intro (And.intro rfl rfl) (trivial))) ?_
                  refine WD_takeK [14] [3, 11] [3, 9, 11] (φ := True) (ls' := #[true, true, true, true, true, true, true, true, true, true, true, true, true, true, true]) (Ts' := [(3, .one (.e (.p 1 0))), (11, B b87)]) (st' := ⟨[(3, .one (.e (.p 1 0))), (9, .one (.e (.sl 2 0 x85.length))), (11, B b87)], [.row .nod x1 false, .cells [cI x2.kind, cS x2.path, cI x2.value], .row .nod x85 true]⟩) (n2 := 0) (by kernel_rfl) trivial rfl ?_
                  exact WD_done [0, 1, 2] [3, 9, 11] (st' := ⟨[(3, .one (.e (.p 1 0))), (9, .one (.e (.sl 2 0 x85.length))), (11, B b87)], [.row .nod x1 false, .cells [cI x2.kind, cS x2.path, cI x2.value], .row .nod x85 true]⟩) (by kernel_rfl) (by kernel_rfl) (And.intro rfl rfl)
                · refine WM_op (φ := True) (v := B b87) (H' := [.row .nod x1 false, .cells [cI x2.kind, cS x2.path, cI x2.value], .row .nod x85 true]) rfl rfl (by kernel_rfl) trivial rfl (And.intro rfl (And.intro (And.intro rfl rfl) (trivial))) ?_
                  refine WD_all [10] (n := 2) (by kernel_rfl) rfl ?_
                  refine WM_op (φ := True) (v := I i86) (H' := [.row .nod x1 false, .cells [cI x2.kind, cS x2.path, cI x2.value], .row .nod x85 true]) rfl rfl (by kernel_rfl) trivial rfl (And.intro rfl (And.intro (And.intro rfl rfl) (trivial))) ?_
                  refine WD_takeK [13, 14] [3, 11] [3, 9, 11] (φ := True) (ls' := #[true, true, true, true, true, true, true, true, true, true, true, true, true, true, true]) (Ts' := [(3, .one (.e (.p 1 0))), (11, B b87)]) (st' := ⟨[(3, .one (.e (.p 1 0))), (9, .one (.e (.sl 2 0 x85.length))), (11, B b87)], [.row .nod x1 false, .cells [cI x2.kind, cS x2.path, cI x2.value], .row .nod x85 true]⟩) (n2 := 0) (by kernel_rfl) trivial rfl ?_
                  exact WD_done [0, 1, 2] [3, 9, 11] (st' := ⟨[(3, .one (.e (.p 1 0))), (9, .one (.e (.sl 2 0 x85.length))), (11, B b87)], [.row .nod x1 false, .cells [cI x2.kind, cS x2.path, cI x2.value], .row .nod x85 true]⟩) (by kernel_rfl) (by kernel_rfl) (And.intro rfl rfl)
            · refine WM_op (φ := True) (v := I i86) (H' := [.row .nod x1 false, .cells [cI x2.kind, cS x2.path, cI x2.value], .row .nod x85 true]) rfl rfl (by kernel_rfl) trivial rfl (And.intro rfl (And.intro (And.intro rfl rfl) (trivial))) ?_
              refine WD_all [9, 11] (n := 4) (by kernel_rfl) rfl (And.intro ?_ (?_))
              · refine WM_op (φ := True) (v := .one (.e (.sl 2 0 x85.length))) (H' := [.row .nod x1 false, .cells [cI x2.kind, cS x2.path, cI x2.value], .row .nod x85 true]) rfl rfl (by kernel_rfl) trivial rfl (And.intro rfl (And.intro (And.intro rfl rfl) (trivial))) ?_
                refine WD_all [11, 12] (n := 3) (by kernel_rfl) rfl (And.intro ?_ (?_))
                · refine WM_op (φ := True) (v := B b87) (H' := [.row .nod x1 false, .cells [cI x2.kind, cS x2.path, cI x2.value], .row .nod x85 true]) rfl rfl (by kernel_rfl) trivial rfl (And.intro rfl (And.intro (And.intro rfl rfl) (trivial))) ?_
                  refine WD_all [12] (n := 2) (by kernel_rfl) rfl ?_
                  refine WM_op (φ := True) (v := .one (.e (.sl 2 0 x85.length))) (H' := [.row .nod x1 false, .cells [cI x2.kind, cS x2.path, cI x2.value], .row .nod x85 true]) rfl rfl (by kernel_rfl) trivial rfl (And.intro rfl (And.intro (And.intro rfl rfl) (trivial))) ?_
                  refine WD_takeK [13, 14] [3, 11] [3, 9, 11] (φ := True) (ls' := #[true, true, true, true, true, true, true, true, true, true, true, true, true, true, true]) (Ts' := [(3, .one (.e (.p 1 0))), (11, B b87)]) (st' := ⟨[(3, .one (.e (.p 1 0))), (9, .one (.e (.sl 2 0 x85.length))), (11, B b87)], [.row .nod x1 false, .cells [cI x2.kind, cS x2.path, cI x2.value], .row .nod x85 true]⟩) (n2 := 0) (by kernel_rfl) trivial rfl ?_
                  exact WD_done [0, 1, 2] [3, 9, 11] (st' := ⟨[(3, .one (.e (.p 1 0))), (9, .one (.e (.sl 2 0 x85.length))), (11, B b87)], [.row .nod x1 false, .cells [cI x2.kind, cS x2.path, cI x2.value], .row .nod x85 true]⟩) (by kernel_rfl) (by kernel_rfl) (And.intro rfl rfl)
                · refine WM_op (φ := True) (v := .one (.e (.sl 2 0 x85.length))) (H' := [.row .nod x1 false, .cells [cI x2.kind, cS x2.path, cI x2.value], .row .nod x85 true]) rfl rfl (by kernel_rfl) trivial rfl (And.intro rfl (And.intro (And.intro rfl rfl) (trivial))) ?_
                  refine WD_takeK [13] [3] [3, 9, 47] (φ := True) (ls' := #[true, true, true, true, true, true, true, true, true, true, true, false, true, true, false]) (Ts' := [(3, .one (.e (.p 1 0)))]) (st' := ⟨[(3, .one (.e (.p 1 0))), (9, .one (.e (.sl 2 0 x85.length))), (47, .tup [.e (.sl 2 0 x85.length), .e (cI i86), .e (cB b87)])], [.row .nod x1 false, .cells [cI x2.kind, cS x2.path, cI x2.value], .row .nod x85 true]⟩) (n2 := 2) (by kernel_rfl) trivial rfl ?_
                  refine WD_all [11] (n := 1) (by kernel_rfl) rfl ?_
                  refine WM_op (φ := True) (v := B b87) (H' := [.row .nod x1 false, .cells [cI x2.kind, cS x2.path, cI x2.value], .row .nod x85 true]) rfl rfl (by kernel_rfl) trivial rfl (And.intro rfl (And.intro (And.intro rfl rfl) (trivial))) ?_
                  refine WD_takeK [14] [3, 11] [3, 9, 11] (φ := True) (ls' := #[true, true, true, true, true, true, true, true, true, true, true, true, true, true, true]) (Ts' := [(3, .one (.e (.p 1 0))), (11, B b87)]) (st' := ⟨[(3, .one (.e (.p 1 0))), (9, .one (.e (.sl 2 0 x85.length))), (11, B b87)], [.row .nod x1 false, .cells [cI x2.kind, cS x2.path, cI x2.value], .row .nod x85 true]⟩) (n2 := 0) (by kernel_rfl) trivial rfl ?_
                  exact WD_done [0, 1, 2] [3, 9, 11] (st' := ⟨[(3, .one (.e (.p 1 0))), (9, .one (.e (.sl 2 0 x85.length))), (11, B b87)], [.row .nod x1 false, .cells [cI x2.kind, cS x2.path, cI x2.value], .row .nod x85 true]⟩) (by kernel_rfl) (by kernel_rfl) (And.intro rfl rfl)
              · refine WM_op (φ := True) (v := B b87) (H' := [.row .nod x1 false, .cells [cI x2.kind, cS x2.path, cI x2.value], .row .nod x85 true]) rfl rfl (by kernel_rfl) trivial rfl (And.intro rfl (And.intro (And.intro rfl rfl) (trivial))) ?_
                refine WD_all [9] (n := 3) (by kernel_rfl) rfl ?_
                refine WM_op (φ := True) (v := .one (.e (.sl 2 0 x85.length))) (H' := [.row .nod x1 false, .cells [cI x2.kind, cS x2.path, cI x2.value], .row .nod x85 true]) rfl rfl (by kernel_rfl) trivial rfl (And.intro rfl (And.intro (And.intro rfl rfl) (trivial))) ?_
                refine WD_all [12] (n := 2) (by kernel_rfl) rfl ?_
                refine WM_op (φ := True) (v := .one (.e (.sl 2 0 x85.length))) (H' := [.row .nod x1 false, .cells [cI x2.kind, cS x2.path, cI x2.value], .row .nod x85 true]) rfl rfl (by kernel_rfl) trivial rfl (And.intro rfl (And.intro (And.intro rfl rfl) (trivial))) ?_
                refine WD_takeK [13, 14] [3, 11] [3, 9, 11] (φ := True) (ls' := #[true, true, true, true, true, true, true, true, true, true, true, true, true, true, true]) (Ts' := [(3, .one (.e (.p 1 0))), (11, B b87)]) (st' := ⟨[(3, .one (.e (.p 1 0))), (9, .one (.e (.sl 2 0 x85.length))), (11, B b87)], [.row .nod x1 false, .cells [cI x2.kind, cS x2.path, cI x2.value], .row .nod x85 true]⟩) (n2 := 0) (by kernel_rfl) trivial rfl ?_
                exact WD_done [0, 1, 2] [3, 9, 11] (st' := ⟨[(3, .one (.e (.p 1 0))), (9, .one (.e (.sl 2 0 x85.length))), (11, B b87)], [.row .nod x1 false, .cells [cI x2.kind, cS x2.path, cI x2.value], .row .nod x85 true]⟩) (by kernel_rfl) (by kernel_rfl) (And.intro rfl rfl)
            · refine WM_op (φ := True) (v := B b87) (H' := [.row .nod x1 false, .cells [cI x2.kind, cS x2.path, cI x2.value], .row .nod x85 true]) rfl rfl (by kernel_rfl) trivial rfl (And.intro rfl (And.intro (And.intro rfl rfl) (trivial))) ?_
              refine WD_all [9, 10] (n := 4) (by kernel_rfl) rfl (And.intro ?_ (?_))
              · refine WM_op (φ := True) (v := .one (.e (.sl 2 0 x85.length))) (H' := [.row .nod x1 false, .cells [cI x2.kind, cS x2.path, cI x2.value], .row .nod x85 true]) rfl rfl (by kernel_rfl) trivial rfl (And.intro rfl (And.intro (And.intro rfl rfl) (trivial))) ?_
                refine WD_all [10, 12] (n := 3) (by kernel_rfl) rfl (And.intro ?_ (?_))
                · refine WM_op (φ := True) (v := I i86) (H' := [.row .nod x1 false, .cells [cI x2.kind, cS x2.path, cI x2.value], .row .nod x85 true]) rfl rfl (by kernel_rfl) trivial rfl (And.intro rfl (And.intro (And.intro rfl rfl) (trivial))) ?_
                  refine WD_all [12] (n := 2) (by kernel_rfl) rfl ?_
                  refine WM_op (φ := True) (v := .one (.e (.sl 2 0 x85.length))) (H' := [.row .nod x1 false, .cells [cI x2.kind, cS x2.path, cI x2.value], .row .nod x85 true]) rfl rfl (by kernel_rfl) trivial rfl (And.intro rfl (And.intro (And.intro rfl rfl) (trivial))) ?_
                  refine WD_takeK [13, 14] [3, 11] [3, 9, 11] (φ := True) (ls' := #[true, true, true, true, true, true, true, true, true, true, true, true, true, true, true]) (Ts' := [(3, .one (.e (.p 1 0))), (11, B b87)]) (st' := ⟨[(3, .one (.e (.p 1 0))), (9, .one (.e (.sl 2 0 x85.length))), (11, B b87)], [.row .nod x1 false, .cells [cI x2.kind, cS x2.path, cI x2.value], .row .nod x85 true]⟩) (n2 := 0) (by kernel_rfl) trivial rfl ?_
                  exact WD_done [0, 1, 2] [3, 9, 11] (st' := ⟨[(3, .one (.e (.p 1 0))), (9, .one (.e (.sl 2 0 x85.length))), (11, B b87)], [.row .nod x1 false, .cells [cI x2.kind, cS x2.path, cI x2.value], .row .nod x85 true]⟩) (by kernel_rfl) (by kernel_rfl) (And.intro rfl rfl)
                · refine WM_op (φ := True) (v := .one (.e (.sl 2 0 x85.length))) (H' := [.row .nod x1 false, .cells [cI x2.kind, cS x2.path, cI x2.value], .row .nod x85 true]) rfl rfl (by kernel_rfl) trivial rfl (And.intro rfl (And.intro (And.intro rfl rfl) (trivial))) ?_
                  refine WD_all [10] (n := 2) (by kernel_rfl) rfl ?_
                  refine WM_op (φ := True) (v := I i86) (H' := [.row .nod x1 false, .cells [cI x2.kind, cS x2.path, cI x2.value], .row .nod x85 true]) rfl rfl (by kernel_rfl) trivial rfl (And.intro rfl (And.intro (And.intro rfl rfl) (trivial))) ?_
                  refine WD_takeK [13, 14] [3, 11] [3, 9, 11] (φ := True) (ls' := #[true, true, true, true, true, true, true, true, true, true, true, true, true, true, true]) (Ts' := [(3, .one (.e (.p 1 0))), (11, B b87)]) (st' := ⟨[(3, .one (.e (.p 1 0))), (9, .one (.e (.sl 2 0 x85.length))), (11, B b87)], [.row .nod x1 false, .cells [cI x2.kind, cS x2.path, cI x2.value], .row .nod x85 true]⟩) (n2 := 0) (by kernel_rfl) trivial rfl ?_
                  exact WD_done [0, 1, 2] [3, 9, 11] (st' := ⟨[(3, .one (.e (.p 1 0))), (9, .one (.e (.sl 2 0 x85.length))), (11, B b87)], [.row .nod x1 false, .cells [cI x2.kind, cS x2.path, cI x2.value], .row .nod x85 true]⟩) (by kernel_rfl) (by kernel_rfl) (And.intro rfl rfl)
              · refine WM_op (φ := True) (v := I i86) (H' := [.row .nod x1 false, .cells [cI x2.kind, cS x2.path, cI x2.value], .row .nod x85 true]) rfl rfl (by kernel_rfl) trivial rfl (And.intro rfl (And.intro (And.intro rfl rfl) (trivial))) ?_
                refine WD_all [9] (n := 3) (by kernel_rfl) rfl ?_
                refine WM_op (φ := True) (v := .one (.e (.sl 2 0 x85.length))) (H' := [.row .nod x1 false, .cells [cI x2.kind, cS x2.path, cI x2.value], .row .nod x85 true]) rfl rfl (by kernel_rfl) trivial rfl (And.intro rfl (And.intro (And.intro rfl rfl) (trivial))) ?_
                refine WD_all [12] (n := 2) (by kernel_rfl) rfl ?_
                refine WM_op (φ := True) (v := .one (.e (.sl 2 0 x85.length))) (H' := [.row .nod x1 false, .cells [cI x2.kind, cS x2.path, cI x2.value], .row .nod x85 true]) rfl rfl (by kernel_rfl) trivial rfl (And.intro rfl (And.intro (And.intro rfl rfl) (trivial))) ?_
                refine WD_takeK [13, 14] [3, 11] [3, 9, 11] (φ := True) (ls' := #[true, true, true, true, true, true, true, true, true, true, true, true, true, true, true]) (Ts' := [(3, .one (.e (.p 1 0))), (11, B b87)]) (st' := ⟨[(3, .one (.e (.p 1 0))), (9, .one (.e (.sl 2 0 x85.length))), (11, B b87)], [.row .nod x1 false, .cells [cI x2.kind, cS x2.path, cI x2.value], .row .nod x85 true]⟩) (n2 := 0) (by kernel_rfl) trivial rfl ?_
                exact WD_done [0, 1, 2] [3, 9, 11] (st' := ⟨[(3, .one (.e (.p 1 0))), (9, .one (.e (.sl 2 0 x85.length))), (11, B b87)], [.row .nod x1 false, .cells [cI x2.kind, cS x2.path, cI x2.value], .row .nod x85 true]⟩) (by kernel_rfl) (by kernel_rfl) (And.intro rfl rfl)
          · rintro _ _ ⟨rfl, rfl⟩
            refine thenS_n ?_
            refine W_seq ?_
            refine W_seq ?_
            refine W_region ?_
            refine WO_step 3 [0, 1, 2] [3, 9, 61] True ⟨[(3, .one (.e (.p 1 0))), (9, .one (.e (.sl 2 0 x85.length))), (61, B (!b87))], [.row .nod x1 false, .cells [cI x2.kind, cS x2.path, cI x2.value], .row .nod x85 true]⟩ (by kernel_rfl) trivial ?_
            refine bindO_e h (fun b93 hv94 h => ?_)
            refine WO_thru ⟨[(9, .one (.e (.sl 1 0 x85.length))), (67, B b93)], [.row .nod x1 false, .row .nod x85 true]⟩ ?_ ?_
            · refine iteO_e hv94 (fun hb95 hv94 => WO_known 61 true rfl hb95 ?_) (fun hb95 hv94 => WO_known 61 false rfl hb95 ?_)
              · refine WO_step 6 [0, 2] [9, 67] True ⟨[(9, .one (.e (.sl 1 0 x85.length))), (67, B true)], [.row .nod x1 false, .row .nod x85 true]⟩ (by kernel_rfl) trivial ?_
                cases hv94
                exact WO_nil rfl ⟨rfl, rfl⟩
              · refine WO_step 3 [0, 2] [9, 61, 62, 64] (True ∧ True) ⟨[(9, .one (.e (.sl 1 0 x85.length))), (61, B false), (62, .one (.e (.sl 1 0 x85.length))), (64, S x2.path)], [.row .nod x1 false, .row .nod x85 true]⟩ (by kernel_rfl) ⟨trivial, trivial⟩ ?_
                refine bindO_e hv94 (fun i96 hc97 hv94 => ?_)
                refine WO_call [.ro 1] Try.f55 rfl rfl rfl (by kernel_rfl) Try.func55 rfl (by kernel_rfl) (spec_resolve_ok n x85 x2.path i96 hc97) (And.intro (And.intro rfl rfl) (trivial)) rfl ?_
                refine WO_step 2 [0, 1] [9, 67] (True ∧ True) ⟨[(9, .one (.e (.sl 1 0 x85.length))), (67, B (decide (i96 < 0)))], [.row .nod x1 false, .row .nod x85 true]⟩ (by kernel_rfl) ⟨trivial, trivial⟩ ?_
                cases hv94
                exact WO_nil rfl ⟨rfl, rfl⟩
            · refine thenS_n ?_
              refine iteO_e h (fun hb99 h => W_true rfl hb99 ?_) (fun hb99 h => W_false rfl hb99 ?_)
              · refine W_seq ?_
                refine W_region ?_
                refine WO_step 2 [0] [4, 5] True ⟨[(4, .one (.e (.nsl))), (5, B false)], [.row .nod x1 false]⟩ (by kernel_rfl) trivial ?_
                refine WO_nilrow 4 .nod rfl ?_
                refine WO_sub [0, 1] [4, 5] (st' := ⟨[(4, .one (.e (.sl 1 0 (([] : List Nod).length)))), (5, B false)], [.row .nod x1 false, .row .nod ([] : List Nod) true]⟩) (by kernel_rfl) ?_
                refine WO_nil rfl ?_
                refine thenS_n ?_
                refine W_ret ?_
                refine thenS_r ?_
                cases h
                exact ⟨[0, 1], True, by kernel_rfl, trivial⟩
              · refine W_sub [0, 1] [9] (st' := ⟨[(9, .one (.e (.sl 1 0 x85.length)))], [.row .nod x1 false, .row .nod x85 true]⟩) (by kernel_rfl) ?_
                refine W_skip ?_
                refine thenS_n ?_
                refine W_seq ?_
                refine W_region ?_
                refine WO_step 3 [0, 1] [4, 5] True ⟨[(4, .one (.e (.sl 1 0 x85.length))), (5, B true)], [.row .nod x1 false, .row .nod x85 true]⟩ (by kernel_rfl) trivial ?_
                refine WO_nil rfl ?_
                refine thenS_n ?_
                refine W_ret ?_
                cases h
                exact ⟨[0, 1], True, by kernel_rfl, trivial⟩

end Go.Proofs.Ythlfcfcfipahiaa
