import Derived.Test.YtdkmgkeaebcobaaTT1
namespace Go.Proofs.Ytdkmgkeaebcobaa
open Go
set_option linter.unusedVariables false
/- laws.eqRecord -/
def laws_eqRecord (x1 : Rcd) (x2 : Rcd) : Option (Bool) :=
 iteO (!decide (x1.who = x2.who))
 (some false)
 (iteO (!decide (x1.node = x2.node))
 (some false)
 (iteO (!decide (x1.value = x2.value))
 (some false)
 (iteO (!(x1.fin == x2.fin))
 (some false)
 (some true))))

theorem laws_eqRecord_ok (x1 : Rcd) (x2 : Rcd) (b11 : Bool) (h : laws_eqRecord x1 x2 = some b11) : FOk EE 56 [AGG [cI x1.who, cI x1.node, cI x1.value, cB x1.fin], AGG [cI x2.who, cI x2.node, cI x2.value, cB x2.fin]] [] (B b11) [] := by
  unfold laws_eqRecord at h
  refine FOk_of_W 25 0 Try.func56 rfl rfl (Nat.le_of_ble_eq_true rfl) rfl (fun w X θ => ?_)
  refine W_seq ?_
  refine W_region ?_
  refine WO_step 3 [0, 1] [2, 3] (True ∧ (True ∧ True)) ⟨[(2, .one (.e (.p 0 0))), (3, .one (.e (.p 1 0)))], [.cells [cI x1.who, cI x1.node, cI x1.value, cB x1.fin], .cells [cI x2.who, cI x2.node, cI x2.value, cB x2.fin]]⟩ (by kernel_rfl) ⟨trivial, trivial, trivial⟩ ?_
  refine WO_nil rfl ?_
  refine thenS_n ?_
  refine W_seq ?_
  refine W_seq ?_
  refine W_region ?_
  refine WO_step 5 [0, 1] [2, 3, 9] (True ∧ (True ∧ (True ∧ True))) ⟨[(2, .one (.e (.p 0 0))), (3, .one (.e (.p 1 0))), (9, B (!decide (x1.who = x2.who)))], [.cells [cI x1.who, cI x1.node, cI x1.value, cB x1.fin], .cells [cI x2.who, cI x2.node, cI x2.value, cB x2.fin]]⟩ (by kernel_rfl) ⟨trivial, trivial, trivial, trivial⟩ ?_
  refine WO_nil rfl ?_
  refine thenS_n ?_
  refine iteO_e h (fun hb13 h => W_true rfl hb13 ?_) (fun hb13 h => W_false rfl hb13 ?_)
  · refine W_seq ?_
    refine W_region ?_
    refine WO_step 1 [] [4] True ⟨[(4, B false)], []⟩ (by kernel_rfl) trivial ?_
    refine WO_nil rfl ?_
    refine thenS_n ?_
    refine W_ret ?_
    refine thenS_r ?_
    cases h
    exact ⟨[], True, by kernel_rfl, trivial⟩
  · refine W_sub [0, 1] [2, 3] (st' := ⟨[(2, .one (.e (.p 0 0))), (3, .one (.e (.p 1 0)))], [.cells [cI x1.who, cI x1.node, cI x1.value, cB x1.fin], .cells [cI x2.who, cI x2.node, cI x2.value, cB x2.fin]]⟩) (by kernel_rfl) ?_
    refine W_skip ?_
    refine thenS_n ?_
    refine W_seq ?_
    refine W_seq ?_
    refine W_region ?_
    refine WO_step 5 [0, 1] [2, 3, 14] (True ∧ (True ∧ (True ∧ True))) ⟨[(2, .one (.e (.p 0 0))), (3, .one (.e (.p 1 0))), (14, B (!decide (x1.node = x2.node)))], [.cells [cI x1.who, cI x1.node, cI x1.value, cB x1.fin], .cells [cI x2.who, cI x2.node, cI x2.value, cB x2.fin]]⟩ (by kernel_rfl) ⟨trivial, trivial, trivial, trivial⟩ ?_
    refine WO_nil rfl ?_
    refine thenS_n ?_
    refine iteO_e h (fun hb15 h => W_true rfl hb15 ?_) (fun hb15 h => W_false rfl hb15 ?_)
    · refine W_seq ?_
      refine W_region ?_
      refine WO_step 1 [] [4] True ⟨[(4, B false)], []⟩ (by kernel_rfl) trivial ?_
      refine WO_nil rfl ?_
      refine thenS_n ?_
      refine W_ret ?_
      refine thenS_r ?_
      cases h
      exact ⟨[], True, by kernel_rfl, trivial⟩
    · refine W_sub [0, 1] [2, 3] (st' := ⟨[(2, .one (.e (.p 0 0))), (3, .one (.e (.p 1 0)))], [.cells [cI x1.who, cI x1.node, cI x1.value, cB x1.fin], .cells [cI x2.who, cI x2.node, cI x2.value, cB x2.fin]]⟩) (by kernel_rfl) ?_
      refine W_skip ?_
      refine thenS_n ?_
      refine W_seq ?_
      refine W_seq ?_
      refine W_region ?_
      refine WO_step 5 [0, 1] [2, 3, 19] (True ∧ (True ∧ (True ∧ True))) ⟨[(2, .one (.e (.p 0 0))), (3, .one (.e (.p 1 0))), (19, B (!decide (x1.value = x2.value)))], [.cells [cI x1.who, cI x1.node, cI x1.value, cB x1.fin], .cells [cI x2.who, cI x2.node, cI x2.value, cB x2.fin]]⟩ (by kernel_rfl) ⟨trivial, trivial, trivial, trivial⟩ ?_
      refine WO_nil rfl ?_
      refine thenS_n ?_
      refine iteO_e h (fun hb17 h => W_true rfl hb17 ?_) (fun hb17 h => W_false rfl hb17 ?_)
      · refine W_seq ?_
        refine W_region ?_
        refine WO_step 1 [] [4] True ⟨[(4, B false)], []⟩ (by kernel_rfl) trivial ?_
        refine WO_nil rfl ?_
        refine thenS_n ?_
        refine W_ret ?_
        refine thenS_r ?_
        cases h
        exact ⟨[], True, by kernel_rfl, trivial⟩
      · refine W_sub [0, 1] [2, 3] (st' := ⟨[(2, .one (.e (.p 0 0))), (3, .one (.e (.p 1 0)))], [.cells [cI x1.who, cI x1.node, cI x1.value, cB x1.fin], .cells [cI x2.who, cI x2.node, cI x2.value, cB x2.fin]]⟩) (by kernel_rfl) ?_
        refine W_skip ?_
        refine thenS_n ?_
        refine W_seq ?_
        refine W_seq ?_
        refine W_region ?_
        refine WO_step 5 [] [24] (True ∧ (True ∧ (True ∧ True))) ⟨[(24, B (!(x1.fin == x2.fin)))], []⟩ (by kernel_rfl) ⟨trivial, trivial, trivial, trivial⟩ ?_
        refine WO_nil rfl ?_
        refine thenS_n ?_
        refine iteO_e h (fun hb19 h => W_true rfl hb19 ?_) (fun hb19 h => W_false rfl hb19 ?_)
        · refine W_seq ?_
          refine W_region ?_
          refine WO_step 1 [] [4] True ⟨[(4, B false)], []⟩ (by kernel_rfl) trivial ?_
          refine WO_nil rfl ?_
          refine thenS_n ?_
          refine W_ret ?_
          refine thenS_r ?_
          cases h
          exact ⟨[], True, by kernel_rfl, trivial⟩
        · refine W_sub [] [] (st' := ⟨[], []⟩) (by kernel_rfl) ?_
          refine W_skip ?_
          refine thenS_n ?_
          refine W_seq ?_
          refine W_region ?_
          refine WO_step 1 [] [4] True ⟨[(4, B true)], []⟩ (by kernel_rfl) trivial ?_
          refine WO_nil rfl ?_
          refine thenS_n ?_
          refine W_ret ?_
          cases h
          exact ⟨[], True, by kernel_rfl, trivial⟩

/- laws.eqRecordS -/
def laws_eqRecordS_L1 (x1 : List Rcd) (x2 : List Rcd) : Nat → Int → Option ((Unit) ⊕ (Unit))
| 0, _ => none
| n + 1, i73 =>
 iteO (decide (i73 < ((x1.length : Nat) : Int)))
 (guardO (0 ≤ i73 ∧ i73 < ((x1.length : Nat) : Int)) <|
 guardO (0 ≤ i73 ∧ i73 < ((x2.length : Nat) : Int)) <|
 bindO (laws_eqRecord (x1.getD i73.toNat drcd) (x2.getD i73.toNat drcd)) fun b100 =>
 iteO (!b100)
 (some (.inl ()))
 (laws_eqRecordS_L1 x1 x2 n (w64 (i73 + 1))))
 (some (.inr ()))

theorem laws_eqRecordS_L1_ok (w : World) (X : Nat → Prop) (θ : List Loc) (x1 : List Rcd) (x2 : List Rcd) (v : (Unit) ⊕ (Unit)) : ∀ (n : Nat) (i73 : Int), laws_eqRecordS_L1 x1 x2 n i73 = some v → WL EE ⟨w, X, θ, 27, 2⟩ (subC [1, 1, 0, 1, 4, 4] (bodyC Try.f31)) (fun (e : Exit) (s : St) => (match v with | (.inl _) => e = .ret ∧ s = ⟨[(4, B false)], [.row .rcd x1 false, .row .rcd x2 false]⟩ | (.inr _) => e = .exit 0 ∧ s = ⟨[], [.row .rcd x1 false, .row .rcd x2 false]⟩ : Prop)) ⟨[(0, .one (.e (.sl 0 0 x1.length))), (1, .one (.e (.sl 1 0 x2.length))), (5, I i73)], [.row .rcd x1 false, .row .rcd x2 false]⟩ := by
  intro n
  induction n with
  | zero => intro _ h; exact none_e h
  | succ n ih =>
    intro i73 h
    rw [laws_eqRecordS_L1] at h
    refine WL_round ?_
    refine W_seq ?_
    refine W_seq ?_
    refine W_region ?_
    refine WO_step 4 [0, 1] [0, 1, 5, 14] (True ∧ (True ∧ True)) ⟨[(0, .one (.e (.sl 0 0 x1.length))), (1, .one (.e (.sl 1 0 x2.length))), (5, I i73), (14, B (decide (i73 < ((x1.length : Nat) : Int))))], [.row .rcd x1 false, .row .rcd x2 false]⟩ (by kernel_rfl) ⟨trivial, trivial, trivial⟩ ?_
    refine WO_nil rfl ?_
    refine thenS_n ?_
    refine iteO_e h (fun hb91 h => W_true rfl hb91 ?_) (fun hb91 h => W_false rfl hb91 ?_)
    · refine W_sub [0, 1] [0, 1, 5] (st' := ⟨[(0, .one (.e (.sl 0 0 x1.length))), (1, .one (.e (.sl 1 0 x2.length))), (5, I i73)], [.row .rcd x1 false, .row .rcd x2 false]⟩) (by kernel_rfl) ?_
      refine W_skip ?_
      refine thenS_n ?_
      refine W_seq ?_
      refine W_block ?_
      refine W_seq ?_
      refine guardO_e h (fun hg98 h => ?_)
      refine guardO_e h (fun hg99 h => ?_)
      refine bindO_e h (fun b100 hc101 h => ?_)
      refine W_cut (Q' := fun (e : Exit) (s : St) => e = .normal ∧ s = ⟨[(0, .one (.e (.sl 0 0 x1.length))), (1, .one (.e (.sl 1 0 x2.length))), (5, I i73), (26, B (!b100))], [.row .rcd x1 false, .row .rcd x2 false]⟩) ?_ ?_
      · refine W_draw [] false (by kernel_rfl) (by kernel_rfl) ?_
        refine WD_takeK [0, 1, 2, 3, 4, 5, 6, 7] [0, 1, 5, 20, 24] [0, 1, 5, 20, 24] (φ := ((0 ≤ i73 ∧ i73 < ((x1.length : Nat) : Int)) ∧ (0 ≤ i73 ∧ i73 < ((x1.length : Nat) : Int)) ∧ (True ∧ True ∧ ((0 ≤ i73 ∧ i73 < ((x2.length : Nat) : Int)) ∧ (0 ≤ i73 ∧ i73 < ((x2.length : Nat) : Int)) ∧ (True ∧ True ∧ True))))) (ls' := #[true, true, true, true, true, true, true, true, false, false]) (Ts' := [(0, .one (.e (.sl 0 0 x1.length))), (1, .one (.e (.sl 1 0 x2.length))), (5, I i73), (20, AGG [cI ((x1.getD i73.toNat drcd).who), cI ((x1.getD i73.toNat drcd).node), cI ((x1.getD i73.toNat drcd).value), cB ((x1.getD i73.toNat drcd).fin)]), (24, AGG [cI ((x2.getD i73.toNat drcd).who), cI ((x2.getD i73.toNat drcd).node), cI ((x2.getD i73.toNat drcd).value), cB ((x2.getD i73.toNat drcd).fin)])]) (st' := ⟨[(0, .one (.e (.sl 0 0 x1.length))), (1, .one (.e (.sl 1 0 x2.length))), (5, I i73), (20, AGG [cI ((x1.getD i73.toNat drcd).who), cI ((x1.getD i73.toNat drcd).node), cI ((x1.getD i73.toNat drcd).value), cB ((x1.getD i73.toNat drcd).fin)]), (24, AGG [cI ((x2.getD i73.toNat drcd).who), cI ((x2.getD i73.toNat drcd).node), cI ((x2.getD i73.toNat drcd).value), cB ((x2.getD i73.toNat drcd).fin)])], [.row .rcd x1 false, .row .rcd x2 false]⟩) (n2 := 2) (by kernel_rfl) ⟨hg98, hg98, trivial, trivial, hg99, hg99, trivial, trivial, trivial⟩ rfl ?_
        refine WD_all [8] (n := 1) (by kernel_rfl) rfl ?_
        refine WM_call [] Try.f56 rfl rfl (by kernel_rfl) rfl rfl (by kernel_rfl) (laws_eqRecord_ok (x1.getD i73.toNat drcd) (x2.getD i73.toNat drcd) b100 hc101) (trivial) rfl (And.intro rfl (And.intro rfl (trivial))) ?_
        refine WD_takeK [9] [0, 1, 5, 26] [0, 1, 5, 26] (φ := True) (ls' := #[true, true, true, true, true, true, true, true, true, true]) (Ts' := [(0, .one (.e (.sl 0 0 x1.length))), (1, .one (.e (.sl 1 0 x2.length))), (5, I i73), (26, B (!b100))]) (st' := ⟨[(0, .one (.e (.sl 0 0 x1.length))), (1, .one (.e (.sl 1 0 x2.length))), (5, I i73), (26, B (!b100))], [.row .rcd x1 false, .row .rcd x2 false]⟩) (n2 := 0) (by kernel_rfl) trivial rfl ?_
        exact WD_done [0, 1] [0, 1, 5, 26] (st' := ⟨[(0, .one (.e (.sl 0 0 x1.length))), (1, .one (.e (.sl 1 0 x2.length))), (5, I i73), (26, B (!b100))], [.row .rcd x1 false, .row .rcd x2 false]⟩) (by kernel_rfl) (by kernel_rfl) (And.intro rfl rfl)
      · rintro _ _ ⟨rfl, rfl⟩
        refine thenS_n ?_
        refine iteO_e h (fun hb103 h => W_true rfl hb103 ?_) (fun hb103 h => W_false rfl hb103 ?_)
        · refine W_seq ?_
          refine W_region ?_
          refine WO_step 1 [0, 1] [4] True ⟨[(4, B false)], [.row .rcd x1 false, .row .rcd x2 false]⟩ (by kernel_rfl) trivial ?_
          refine WO_nil rfl ?_
          refine thenS_n ?_
          refine W_ret ?_
          refine blockS_r ?_
          refine thenS_r ?_
          refine thenS_r ?_
          cases h
          exact And.intro rfl rfl
        · refine W_sub [0, 1] [0, 1, 5] (st' := ⟨[(0, .one (.e (.sl 0 0 x1.length))), (1, .one (.e (.sl 1 0 x2.length))), (5, I i73)], [.row .rcd x1 false, .row .rcd x2 false]⟩) (by kernel_rfl) ?_
          refine W_skip ?_
          refine blockS_n ?_
          refine thenS_n ?_
          refine W_region ?_
          refine WO_step 3 [0, 1] [0, 1, 5] (True ∧ True) ⟨[(0, .one (.e (.sl 0 0 x1.length))), (1, .one (.e (.sl 1 0 x2.length))), (5, I (w64 (i73 + 1)))], [.row .rcd x1 false, .row .rcd x2 false]⟩ (by kernel_rfl) ⟨trivial, trivial⟩ ?_
          refine WO_nil rfl ?_
          refine thenS_n ?_
          exact ih _ h
    · refine W_sub [0, 1] [] (st' := ⟨[], [.row .rcd x1 false, .row .rcd x2 false]⟩) (by kernel_rfl) ?_
      refine W_exit ?_
      refine thenS_e ?_
      refine thenS_e ?_
      cases h
      exact And.intro rfl rfl

def laws_eqRecordS (n : Nat) (x1 : List Rcd) (x2 : List Rcd) : Option (Bool) :=
 iteO (!decide (((x1.length : Nat) : Int) = ((x2.length : Nat) : Int)))
 (some false)
 (bindO (laws_eqRecordS_L1 x1 x2 n 0) fun v104 =>
 match v104 with
 | (.inl _) => (some false)
 | (.inr _) => (some true)
)

theorem laws_eqRecordS_ok (n : Nat) (x1 : List Rcd) (x2 : List Rcd) (b53 : Bool) (h : laws_eqRecordS n x1 x2 = some b53) : FOk EE 31 [.one (.e (.sl 0 0 x1.length)), .one (.e (.sl 1 0 x2.length))] [.row .rcd x1 false, .row .rcd x2 false] (B b53) [.row .rcd x1 false, .row .rcd x2 false] := by
  unfold laws_eqRecordS at h
  refine FOk_of_W 27 2 Try.func31 rfl rfl (Nat.le_of_ble_eq_true rfl) rfl (fun w X θ => ?_)
  refine W_seq ?_
  refine W_region ?_
  refine WO_step 1 [0, 1] [0, 1] True ⟨[(0, .one (.e (.sl 0 0 x1.length))), (1, .one (.e (.sl 1 0 x2.length)))], [.row .rcd x1 false, .row .rcd x2 false]⟩ (by kernel_rfl) trivial ?_
  refine WO_nil rfl ?_
  refine thenS_n ?_
  refine W_seq ?_
  refine W_seq ?_
  refine W_region ?_
  refine WO_step 5 [0, 1] [0, 1, 10] (True ∧ (True ∧ (True ∧ True))) ⟨[(0, .one (.e (.sl 0 0 x1.length))), (1, .one (.e (.sl 1 0 x2.length))), (10, B (!decide (((x1.length : Nat) : Int) = ((x2.length : Nat) : Int))))], [.row .rcd x1 false, .row .rcd x2 false]⟩ (by kernel_rfl) ⟨trivial, trivial, trivial, trivial⟩ ?_
  refine WO_nil rfl ?_
  refine thenS_n ?_
  refine iteO_e h (fun hb55 h => W_true rfl hb55 ?_) (fun hb55 h => W_false rfl hb55 ?_)
  · refine W_seq ?_
    refine W_region ?_
    refine WO_step 1 [0, 1] [4] True ⟨[(4, B false)], [.row .rcd x1 false, .row .rcd x2 false]⟩ (by kernel_rfl) trivial ?_
    refine WO_nil rfl ?_
    refine thenS_n ?_
    refine W_ret ?_
    refine thenS_r ?_
    cases h
    exact ⟨[0, 1], True, by kernel_rfl, trivial⟩
  · refine W_sub [0, 1] [0, 1] (st' := ⟨[(0, .one (.e (.sl 0 0 x1.length))), (1, .one (.e (.sl 1 0 x2.length)))], [.row .rcd x1 false, .row .rcd x2 false]⟩) (by kernel_rfl) ?_
    refine W_skip ?_
    refine thenS_n ?_
    refine W_seq ?_
    refine W_seq ?_
    refine W_region ?_
    refine WO_step 1 [0, 1] [0, 1, 5] True ⟨[(0, .one (.e (.sl 0 0 x1.length))), (1, .one (.e (.sl 1 0 x2.length))), (5, I 0)], [.row .rcd x1 false, .row .rcd x2 false]⟩ (by kernel_rfl) trivial ?_
    refine WO_nil rfl ?_
    refine thenS_n ?_
    refine W_block ?_
    refine W_loop ?_
    refine bindO_e h (fun v104 hv104 h => ?_)
    refine WL_cut (laws_eqRecordS_L1_ok w X θ x1 x2 v104 n 0 hv104) ?_
    rcases v104 with _ | _
    · rintro _ _ ⟨rfl, rfl⟩
      refine blockS_r ?_
      refine thenS_r ?_
      cases h
      exact ⟨[0, 1], True, by kernel_rfl, trivial⟩
    · rintro _ _ ⟨rfl, rfl⟩
      refine blockS_y ?_
      refine thenS_n ?_
      refine W_seq ?_
      refine W_region ?_
      refine WO_step 1 [0, 1] [4] True ⟨[(4, B true)], [.row .rcd x1 false, .row .rcd x2 false]⟩ (by kernel_rfl) trivial ?_
      refine WO_nil rfl ?_
      refine thenS_n ?_
      refine W_ret ?_
      cases h
      exact ⟨[0, 1], True, by kernel_rfl, trivial⟩

/- laws.eqNode -/
def laws_eqNode (x1 : Nod) (x2 : Nod) : Option (Bool) :=
 iteO (!decide (x1.parent = x2.parent))
 (some false)
 (iteO (!decide (x1.name = x2.name))
 (some false)
 (iteO (!decide (x1.value = x2.value))
 (some false)
 (some true)))

theorem laws_eqNode_ok (x1 : Nod) (x2 : Nod) (b9 : Bool) (h : laws_eqNode x1 x2 = some b9) : FOk EE 55 [AGG [cI x1.parent, cS x1.name, cI x1.value], AGG [cI x2.parent, cS x2.name, cI x2.value]] [] (B b9) [] := by
  unfold laws_eqNode at h
  refine FOk_of_W 20 0 Try.func55 rfl rfl (Nat.le_of_ble_eq_true rfl) rfl (fun w X θ => ?_)
  refine W_seq ?_
  refine W_region ?_
  refine WO_step 3 [0, 1] [2, 3] (True ∧ (True ∧ True)) ⟨[(2, .one (.e (.p 0 0))), (3, .one (.e (.p 1 0)))], [.cells [cI x1.parent, cS x1.name, cI x1.value], .cells [cI x2.parent, cS x2.name, cI x2.value]]⟩ (by kernel_rfl) ⟨trivial, trivial, trivial⟩ ?_
  refine WO_nil rfl ?_
  refine thenS_n ?_
  refine W_seq ?_
  refine W_seq ?_
  refine W_region ?_
  refine WO_step 5 [0, 1] [2, 3, 9] (True ∧ (True ∧ (True ∧ True))) ⟨[(2, .one (.e (.p 0 0))), (3, .one (.e (.p 1 0))), (9, B (!decide (x1.parent = x2.parent)))], [.cells [cI x1.parent, cS x1.name, cI x1.value], .cells [cI x2.parent, cS x2.name, cI x2.value]]⟩ (by kernel_rfl) ⟨trivial, trivial, trivial, trivial⟩ ?_
  refine WO_nil rfl ?_
  refine thenS_n ?_
  refine iteO_e h (fun hb11 h => W_true rfl hb11 ?_) (fun hb11 h => W_false rfl hb11 ?_)
  · refine W_seq ?_
    refine W_region ?_
    refine WO_step 1 [] [4] True ⟨[(4, B false)], []⟩ (by kernel_rfl) trivial ?_
    refine WO_nil rfl ?_
    refine thenS_n ?_
    refine W_ret ?_
    refine thenS_r ?_
    cases h
    exact ⟨[], True, by kernel_rfl, trivial⟩
  · refine W_sub [0, 1] [2, 3] (st' := ⟨[(2, .one (.e (.p 0 0))), (3, .one (.e (.p 1 0)))], [.cells [cI x1.parent, cS x1.name, cI x1.value], .cells [cI x2.parent, cS x2.name, cI x2.value]]⟩) (by kernel_rfl) ?_
    refine W_skip ?_
    refine thenS_n ?_
    refine W_seq ?_
    refine W_seq ?_
    refine W_region ?_
    refine WO_step 5 [0, 1] [2, 3, 14] (True ∧ (True ∧ (True ∧ True))) ⟨[(2, .one (.e (.p 0 0))), (3, .one (.e (.p 1 0))), (14, B (!decide (x1.name = x2.name)))], [.cells [cI x1.parent, cS x1.name, cI x1.value], .cells [cI x2.parent, cS x2.name, cI x2.value]]⟩ (by kernel_rfl) ⟨trivial, trivial, trivial, trivial⟩ ?_
    refine WO_nil rfl ?_
    refine thenS_n ?_
    refine iteO_e h (fun hb13 h => W_true rfl hb13 ?_) (fun hb13 h => W_false rfl hb13 ?_)
    · refine W_seq ?_
      refine W_region ?_
      refine WO_step 1 [] [4] True ⟨[(4, B false)], []⟩ (by kernel_rfl) trivial ?_
      refine WO_nil rfl ?_
      refine thenS_n ?_
      refine W_ret ?_
      refine thenS_r ?_
      cases h
      exact ⟨[], True, by kernel_rfl, trivial⟩
    · refine W_sub [0, 1] [2, 3] (st' := ⟨[(2, .one (.e (.p 0 0))), (3, .one (.e (.p 1 0)))], [.cells [cI x1.parent, cS x1.name, cI x1.value], .cells [cI x2.parent, cS x2.name, cI x2.value]]⟩) (by kernel_rfl) ?_
      refine W_skip ?_
      refine thenS_n ?_
      refine W_seq ?_
      refine W_seq ?_
      refine W_region ?_
      refine WO_step 5 [] [19] (True ∧ (True ∧ (True ∧ True))) ⟨[(19, B (!decide (x1.value = x2.value)))], []⟩ (by kernel_rfl) ⟨trivial, trivial, trivial, trivial⟩ ?_
      refine WO_nil rfl ?_
      refine thenS_n ?_
      refine iteO_e h (fun hb15 h => W_true rfl hb15 ?_) (fun hb15 h => W_false rfl hb15 ?_)
      · refine W_seq ?_
        refine W_region ?_
        refine WO_step 1 [] [4] True ⟨[(4, B false)], []⟩ (by kernel_rfl) trivial ?_
        refine WO_nil rfl ?_
        refine thenS_n ?_
        refine W_ret ?_
        refine thenS_r ?_
        cases h
        exact ⟨[], True, by kernel_rfl, trivial⟩
      · refine W_sub [] [] (st' := ⟨[], []⟩) (by kernel_rfl) ?_
        refine W_skip ?_
        refine thenS_n ?_
        refine W_seq ?_
        refine W_region ?_
        refine WO_step 1 [] [4] True ⟨[(4, B true)], []⟩ (by kernel_rfl) trivial ?_
        refine WO_nil rfl ?_
        refine thenS_n ?_
        refine W_ret ?_
        cases h
        exact ⟨[], True, by kernel_rfl, trivial⟩

/- laws.eqNodeS -/
def laws_eqNodeS_L1 (x1 : List Nod) (x2 : List Nod) : Nat → Int → Option ((Unit) ⊕ (Unit))
| 0, _ => none
| n + 1, i73 =>
 iteO (decide (i73 < ((x1.length : Nat) : Int)))
 (guardO (0 ≤ i73 ∧ i73 < ((x1.length : Nat) : Int)) <|
 guardO (0 ≤ i73 ∧ i73 < ((x2.length : Nat) : Int)) <|
 bindO (laws_eqNode (x1.getD i73.toNat dnod) (x2.getD i73.toNat dnod)) fun b100 =>
 iteO (!b100)
 (some (.inl ()))
 (laws_eqNodeS_L1 x1 x2 n (w64 (i73 + 1))))
 (some (.inr ()))

theorem laws_eqNodeS_L1_ok (w : World) (X : Nat → Prop) (θ : List Loc) (x1 : List Nod) (x2 : List Nod) (v : (Unit) ⊕ (Unit)) : ∀ (n : Nat) (i73 : Int), laws_eqNodeS_L1 x1 x2 n i73 = some v → WL EE ⟨w, X, θ, 27, 2⟩ (subC [1, 1, 0, 1, 4, 4] (bodyC Try.f30)) (fun (e : Exit) (s : St) => (match v with | (.inl _) => e = .ret ∧ s = ⟨[(4, B false)], [.row .nod x1 false, .row .nod x2 false]⟩ | (.inr _) => e = .exit 0 ∧ s = ⟨[], [.row .nod x1 false, .row .nod x2 false]⟩ : Prop)) ⟨[(0, .one (.e (.sl 0 0 x1.length))), (1, .one (.e (.sl 1 0 x2.length))), (5, I i73)], [.row .nod x1 false, .row .nod x2 false]⟩ := by
  intro n
  induction n with
  | zero => intro _ h; exact none_e h
  | succ n ih =>
    intro i73 h
    rw [laws_eqNodeS_L1] at h
    refine WL_round ?_
    refine W_seq ?_
    refine W_seq ?_
    refine W_region ?_
    refine WO_step 4 [0, 1] [0, 1, 5, 14] (True ∧ (True ∧ True)) ⟨[(0, .one (.e (.sl 0 0 x1.length))), (1, .one (.e (.sl 1 0 x2.length))), (5, I i73), (14, B (decide (i73 < ((x1.length : Nat) : Int))))], [.row .nod x1 false, .row .nod x2 false]⟩ (by kernel_rfl) ⟨trivial, trivial, trivial⟩ ?_
    refine WO_nil rfl ?_
    refine thenS_n ?_
    refine iteO_e h (fun hb91 h => W_true rfl hb91 ?_) (fun hb91 h => W_false rfl hb91 ?_)
    · refine W_sub [0, 1] [0, 1, 5] (st' := ⟨[(0, .one (.e (.sl 0 0 x1.length))), (1, .one (.e (.sl 1 0 x2.length))), (5, I i73)], [.row .nod x1 false, .row .nod x2 false]⟩) (by kernel_rfl) ?_
      refine W_skip ?_
      refine thenS_n ?_
      refine W_seq ?_
      refine W_block ?_
      refine W_seq ?_
      refine guardO_e h (fun hg98 h => ?_)
      refine guardO_e h (fun hg99 h => ?_)
      refine bindO_e h (fun b100 hc101 h => ?_)
      refine W_cut (Q' := fun (e : Exit) (s : St) => e = .normal ∧ s = ⟨[(0, .one (.e (.sl 0 0 x1.length))), (1, .one (.e (.sl 1 0 x2.length))), (5, I i73), (26, B (!b100))], [.row .nod x1 false, .row .nod x2 false]⟩) ?_ ?_
      · refine W_draw [] false (by kernel_rfl) (by kernel_rfl) ?_
        refine WD_takeK [0, 1, 2, 3, 4, 5, 6, 7] [0, 1, 5, 20, 24] [0, 1, 5, 20, 24] (φ := ((0 ≤ i73 ∧ i73 < ((x1.length : Nat) : Int)) ∧ (0 ≤ i73 ∧ i73 < ((x1.length : Nat) : Int)) ∧ (True ∧ True ∧ ((0 ≤ i73 ∧ i73 < ((x2.length : Nat) : Int)) ∧ (0 ≤ i73 ∧ i73 < ((x2.length : Nat) : Int)) ∧ (True ∧ True ∧ True))))) (ls' := #[true, true, true, true, true, true, true, true, false, false]) (Ts' := [(0, .one (.e (.sl 0 0 x1.length))), (1, .one (.e (.sl 1 0 x2.length))), (5, I i73), (20, AGG [cI ((x1.getD i73.toNat dnod).parent), cS ((x1.getD i73.toNat dnod).name), cI ((x1.getD i73.toNat dnod).value)]), (24, AGG [cI ((x2.getD i73.toNat dnod).parent), cS ((x2.getD i73.toNat dnod).name), cI ((x2.getD i73.toNat dnod).value)])]) (st' := ⟨[(0, .one (.e (.sl 0 0 x1.length))), (1, .one (.e (.sl 1 0 x2.length))), (5, I i73), (20, AGG [cI ((x1.getD i73.toNat dnod).parent), cS ((x1.getD i73.toNat dnod).name), cI ((x1.getD i73.toNat dnod).value)]), (24, AGG [cI ((x2.getD i73.toNat dnod).parent), cS ((x2.getD i73.toNat dnod).name), cI ((x2.getD i73.toNat dnod).value)])], [.row .nod x1 false, .row .nod x2 false]⟩) (n2 := 2) (by kernel_rfl) ⟨hg98, hg98, trivial, trivial, hg99, hg99, trivial, trivial, trivial⟩ rfl ?_
        refine WD_all [8] (n := 1) (by kernel_rfl) rfl ?_
        refine WM_call [] Try.f55 rfl rfl (by kernel_rfl) rfl rfl (by kernel_rfl) (laws_eqNode_ok (x1.getD i73.toNat dnod) (x2.getD i73.toNat dnod) b100 hc101) (trivial) rfl (And.intro rfl (And.intro rfl (trivial))) ?_
        refine WD_takeK [9] [0, 1, 5, 26] [0, 1, 5, 26] (φ := True) (ls' := #[true, true, true, true, true, true, true, true, true, true]) (Ts' := [(0, .one (.e (.sl 0 0 x1.length))), (1, .one (.e (.sl 1 0 x2.length))), (5, I i73), (26, B (!b100))]) (st' := ⟨[(0, .one (.e (.sl 0 0 x1.length))), (1, .one (.e (.sl 1 0 x2.length))), (5, I i73), (26, B (!b100))], [.row .nod x1 false, .row .nod x2 false]⟩) (n2 := 0) (by kernel_rfl) trivial rfl ?_
        exact WD_done [0, 1] [0, 1, 5, 26] (st' := ⟨[(0, .one (.e (.sl 0 0 x1.length))), (1, .one (.e (.sl 1 0 x2.length))), (5, I i73), (26, B (!b100))], [.row .nod x1 false, .row .nod x2 false]⟩) (by kernel_rfl) (by kernel_rfl) (And.intro rfl rfl)
      · rintro _ _ ⟨rfl, rfl⟩
        refine thenS_n ?_
        refine iteO_e h (fun hb103 h => W_true rfl hb103 ?_) (fun hb103 h => W_false rfl hb103 ?_)
        · refine W_seq ?_
          refine W_region ?_
          refine WO_step 1 [0, 1] [4] True ⟨[(4, B false)], [.row .nod x1 false, .row .nod x2 false]⟩ (by kernel_rfl) trivial ?_
          refine WO_nil rfl ?_
          refine thenS_n ?_
          refine W_ret ?_
          refine blockS_r ?_
          refine thenS_r ?_
          refine thenS_r ?_
          cases h
          exact And.intro rfl rfl
        · refine W_sub [0, 1] [0, 1, 5] (st' := ⟨[(0, .one (.e (.sl 0 0 x1.length))), (1, .one (.e (.sl 1 0 x2.length))), (5, I i73)], [.row .nod x1 false, .row .nod x2 false]⟩) (by kernel_rfl) ?_
          refine W_skip ?_
          refine blockS_n ?_
          refine thenS_n ?_
          refine W_region ?_
          refine WO_step 3 [0, 1] [0, 1, 5] (True ∧ True) ⟨[(0, .one (.e (.sl 0 0 x1.length))), (1, .one (.e (.sl 1 0 x2.length))), (5, I (w64 (i73 + 1)))], [.row .nod x1 false, .row .nod x2 false]⟩ (by kernel_rfl) ⟨trivial, trivial⟩ ?_
          refine WO_nil rfl ?_
          refine thenS_n ?_
          exact ih _ h
    · refine W_sub [0, 1] [] (st' := ⟨[], [.row .nod x1 false, .row .nod x2 false]⟩) (by kernel_rfl) ?_
      refine W_exit ?_
      refine thenS_e ?_
      refine thenS_e ?_
      cases h
      exact And.intro rfl rfl

def laws_eqNodeS (n : Nat) (x1 : List Nod) (x2 : List Nod) : Option (Bool) :=
 iteO (!decide (((x1.length : Nat) : Int) = ((x2.length : Nat) : Int)))
 (some false)
 (bindO (laws_eqNodeS_L1 x1 x2 n 0) fun v104 =>
 match v104 with
 | (.inl _) => (some false)
 | (.inr _) => (some true)
)

theorem laws_eqNodeS_ok (n : Nat) (x1 : List Nod) (x2 : List Nod) (b53 : Bool) (h : laws_eqNodeS n x1 x2 = some b53) : FOk EE 30 [.one (.e (.sl 0 0 x1.length)), .one (.e (.sl 1 0 x2.length))] [.row .nod x1 false, .row .nod x2 false] (B b53) [.row .nod x1 false, .row .nod x2 false] := by
  unfold laws_eqNodeS at h
  refine FOk_of_W 27 2 Try.func30 rfl rfl (Nat.le_of_ble_eq_true rfl) rfl (fun w X θ => ?_)
  refine W_seq ?_
  refine W_region ?_
  refine WO_step 1 [0, 1] [0, 1] True ⟨[(0, .one (.e (.sl 0 0 x1.length))), (1, .one (.e (.sl 1 0 x2.length)))], [.row .nod x1 false, .row .nod x2 false]⟩ (by kernel_rfl) trivial ?_
  refine WO_nil rfl ?_
  refine thenS_n ?_
  refine W_seq ?_
  refine W_seq ?_
  refine W_region ?_
  refine WO_step 5 [0, 1] [0, 1, 10] (True ∧ (True ∧ (True ∧ True))) ⟨[(0, .one (.e (.sl 0 0 x1.length))), (1, .one (.e (.sl 1 0 x2.length))), (10, B (!decide (((x1.length : Nat) : Int) = ((x2.length : Nat) : Int))))], [.row .nod x1 false, .row .nod x2 false]⟩ (by kernel_rfl) ⟨trivial, trivial, trivial, trivial⟩ ?_
  refine WO_nil rfl ?_
  refine thenS_n ?_
  refine iteO_e h (fun hb55 h => W_true rfl hb55 ?_) (fun hb55 h => W_false rfl hb55 ?_)
  · refine W_seq ?_
    refine W_region ?_
    refine WO_step 1 [0, 1] [4] True ⟨[(4, B false)], [.row .nod x1 false, .row .nod x2 false]⟩ (by kernel_rfl) trivial ?_
    refine WO_nil rfl ?_
    refine thenS_n ?_
    refine W_ret ?_
    refine thenS_r ?_
    cases h
    exact ⟨[0, 1], True, by kernel_rfl, trivial⟩
  · refine W_sub [0, 1] [0, 1] (st' := ⟨[(0, .one (.e (.sl 0 0 x1.length))), (1, .one (.e (.sl 1 0 x2.length)))], [.row .nod x1 false, .row .nod x2 false]⟩) (by kernel_rfl) ?_
    refine W_skip ?_
    refine thenS_n ?_
    refine W_seq ?_
    refine W_seq ?_
    refine W_region ?_
    refine WO_step 1 [0, 1] [0, 1, 5] True ⟨[(0, .one (.e (.sl 0 0 x1.length))), (1, .one (.e (.sl 1 0 x2.length))), (5, I 0)], [.row .nod x1 false, .row .nod x2 false]⟩ (by kernel_rfl) trivial ?_
    refine WO_nil rfl ?_
    refine thenS_n ?_
    refine W_block ?_
    refine W_loop ?_
    refine bindO_e h (fun v104 hv104 h => ?_)
    refine WL_cut (laws_eqNodeS_L1_ok w X θ x1 x2 v104 n 0 hv104) ?_
    rcases v104 with _ | _
    · rintro _ _ ⟨rfl, rfl⟩
      refine blockS_r ?_
      refine thenS_r ?_
      cases h
      exact ⟨[0, 1], True, by kernel_rfl, trivial⟩
    · rintro _ _ ⟨rfl, rfl⟩
      refine blockS_y ?_
      refine thenS_n ?_
      refine W_seq ?_
      refine W_region ?_
      refine WO_step 1 [0, 1] [4] True ⟨[(4, B true)], [.row .nod x1 false, .row .nod x2 false]⟩ (by kernel_rfl) trivial ?_
      refine WO_nil rfl ?_
      refine thenS_n ?_
      refine W_ret ?_
      cases h
      exact ⟨[0, 1], True, by kernel_rfl, trivial⟩

/- laws.markText -/
def laws_markText_L1 : Nat → Int → Str → Option (Str)
| 0, _, _ => none
| n + 1, i42, s43 =>
 iteO (decide (0 < i42))
 (guardO ((bytesOf (([(IntKind.u8.wrap (w64 (48 + (i42.tmod 10))))].drop 0).take ([(IntKind.u8.wrap (w64 (48 + (i42.tmod 10))))].length))).length + s43.length ≤ 1099511627776) <|
 laws_markText_L1  n (w64 (i42.tdiv 10)) ((bytesOf (([(IntKind.u8.wrap (w64 (48 + (i42.tmod 10))))].drop 0).take ([(IntKind.u8.wrap (w64 (48 + (i42.tmod 10))))].length))) ++ s43))
 (some s43)

theorem laws_markText_L1_ok (w : World) (X : Nat → Prop) (θ : List Loc)  (s50 : Str) : ∀ (n : Nat) (i42 : Int) (s43 : Str), laws_markText_L1  n i42 s43 = some s50 → WL EE ⟨w, X, θ, 20, 0⟩ (subC [1, 1, 1, 0, 4, 4] (bodyC Try.f57)) (fun (e : Exit) (s : St) => e = .exit 0 ∧ s = ⟨[(3, S s50)], []⟩) ⟨[(0, I i42), (3, S s43)], []⟩ := by
  intro n
  induction n with
  | zero => intro _ _ h; exact none_e h
  | succ n ih =>
    intro i42 s43 h
    rw [laws_markText_L1] at h
    refine WL_round ?_
    refine W_seq ?_
    refine W_seq ?_
    refine W_region ?_
    refine WO_step 2 [] [0, 3, 7] (True ∧ True) ⟨[(0, I i42), (3, S s43), (7, B (decide (0 < i42)))], []⟩ (by kernel_rfl) ⟨trivial, trivial⟩ ?_
    refine WO_nil rfl ?_
    refine thenS_n ?_
    refine iteO_e h (fun hb53 h => W_true rfl hb53 ?_) (fun hb53 h => W_false rfl hb53 ?_)
    · refine W_sub [] [0, 3] (st' := ⟨[(0, I i42), (3, S s43)], []⟩) (by kernel_rfl) ?_
      refine W_skip ?_
      refine thenS_n ?_
      refine W_block ?_
      refine W_seq ?_
      refine W_region ?_
      refine guardO_e h (fun hg55 h => ?_)
      refine WO_step 9 [] [0, 3] (((10 : Int) ≠ 0) ∧ (True ∧ (True ∧ (True ∧ (((bytesOf (([(IntKind.u8.wrap (w64 (48 + (i42.tmod 10))))].drop 0).take ([(IntKind.u8.wrap (w64 (48 + (i42.tmod 10))))].length))).length + s43.length ≤ 1099511627776) ∧ True))))) ⟨[(0, I i42), (3, S ((bytesOf (([(IntKind.u8.wrap (w64 (48 + (i42.tmod 10))))].drop 0).take ([(IntKind.u8.wrap (w64 (48 + (i42.tmod 10))))].length))) ++ s43))], []⟩ (by kernel_rfl) ⟨(by decide), trivial, trivial, trivial, hg55, trivial⟩ ?_
      refine WO_nil rfl ?_
      refine thenS_n ?_
      refine W_region ?_
      refine WO_step 3 [] [0, 3] (((10 : Int) ≠ 0) ∧ True) ⟨[(0, I (w64 (i42.tdiv 10))), (3, S ((bytesOf (([(IntKind.u8.wrap (w64 (48 + (i42.tmod 10))))].drop 0).take ([(IntKind.u8.wrap (w64 (48 + (i42.tmod 10))))].length))) ++ s43))], []⟩ (by kernel_rfl) ⟨(by decide), trivial⟩ ?_
      refine WO_nil rfl ?_
      refine blockS_n ?_
      refine thenS_n ?_
      exact ih _ _ h
    · refine W_sub [] [3] (st' := ⟨[(3, S s43)], []⟩) (by kernel_rfl) ?_
      refine W_exit ?_
      refine thenS_e ?_
      refine thenS_e ?_
      cases h
      exact And.intro rfl rfl

def laws_markText (n : Nat) (i1 : Int) : Option (Str) :=
 iteO (decide (i1 ≤ 0))
 (some [109, 48])
 (bindO (laws_markText_L1  n i1 []) fun s50 =>
 guardO ([109].length + s50.length ≤ 1099511627776) <|
 some ([109] ++ s50))

theorem laws_markText_ok (n : Nat) (i1 : Int) (s29 : Str) (h : laws_markText n i1 = some s29) : FOk EE 57 [I i1] [] (S s29) [] := by
  unfold laws_markText at h
  refine FOk_of_W 20 0 Try.func57 rfl rfl (Nat.le_of_ble_eq_true rfl) rfl (fun w X θ => ?_)
  refine W_seq ?_
  refine W_region ?_
  refine WO_step 1 [] [0] True ⟨[(0, I i1)], []⟩ (by kernel_rfl) trivial ?_
  refine WO_nil rfl ?_
  refine thenS_n ?_
  refine W_seq ?_
  refine W_seq ?_
  refine W_region ?_
  refine WO_step 2 [] [0, 5] (True ∧ True) ⟨[(0, I i1), (5, B (decide (i1 ≤ 0)))], []⟩ (by kernel_rfl) ⟨trivial, trivial⟩ ?_
  refine WO_nil rfl ?_
  refine thenS_n ?_
  refine iteO_e h (fun hb31 h => W_true rfl hb31 ?_) (fun hb31 h => W_false rfl hb31 ?_)
  · refine W_seq ?_
    refine W_region ?_
    refine WO_step 1 [] [2] True ⟨[(2, S [109, 48])], []⟩ (by kernel_rfl) trivial ?_
    refine WO_nil rfl ?_
    refine thenS_n ?_
    refine W_ret ?_
    refine thenS_r ?_
    cases h
    exact ⟨[], True, by kernel_rfl, trivial⟩
  · refine W_sub [] [0] (st' := ⟨[(0, I i1)], []⟩) (by kernel_rfl) ?_
    refine W_skip ?_
    refine thenS_n ?_
    refine W_seq ?_
    refine W_region ?_
    refine WO_step 1 [] [0, 3] True ⟨[(0, I i1), (3, S [])], []⟩ (by kernel_rfl) trivial ?_
    refine WO_nil rfl ?_
    refine thenS_n ?_
    refine W_seq ?_
    refine W_block ?_
    refine W_loop ?_
    refine bindO_e h (fun s50 hs50 h => ?_)
    refine WL_cut (laws_markText_L1_ok w X θ  s50 n i1 [] hs50) ?_
    rintro _ _ ⟨rfl, rfl⟩
    refine blockS_y ?_
    refine thenS_n ?_
    refine W_seq ?_
    refine W_region ?_
    refine guardO_e h (fun hg57 h => ?_)
    refine WO_step 3 [] [2] (([109].length + s50.length ≤ 1099511627776) ∧ True) ⟨[(2, S ([109] ++ s50))], []⟩ (by kernel_rfl) ⟨hg57, trivial⟩ ?_
    refine WO_nil rfl ?_
    refine thenS_n ?_
    refine W_ret ?_
    cases h
    exact ⟨[], True, by kernel_rfl, trivial⟩

/- laws.markNodeS -/
def laws_markNodeS_L1 (k2 : Nat) : Nat → (List Nod) → Int → Int → Option (((List Nod) × Int))
| 0, _, _, _ => none
| n + 1, x81, i82, i83 =>
 iteO (decide (i83 < ((k2 : Nat) : Int)))
 (guardO (0 ≤ i83 ∧ i83 < ((k2 : Nat) : Int)) <|
 bindO (laws_markText n (w64 (i82 + 1))) fun s110 =>
 guardO (0 ≤ i83 ∧ i83 < ((k2 : Nat) : Int)) <|
 guardO (0 ≤ i83 ∧ i83 < ((k2 : Nat) : Int)) <|
 laws_markNodeS_L1 k2 n (((x81.set i83.toNat (⟨i82, (x81.getD i83.toNat dnod).name, (x81.getD i83.toNat dnod).value⟩ : Nod)).set i83.toNat (⟨((x81.set i83.toNat (⟨i82, (x81.getD i83.toNat dnod).name, (x81.getD i83.toNat dnod).value⟩ : Nod)).getD i83.toNat dnod).parent, s110, ((x81.set i83.toNat (⟨i82, (x81.getD i83.toNat dnod).name, (x81.getD i83.toNat dnod).value⟩ : Nod)).getD i83.toNat dnod).value⟩ : Nod)).set i83.toNat (⟨(((x81.set i83.toNat (⟨i82, (x81.getD i83.toNat dnod).name, (x81.getD i83.toNat dnod).value⟩ : Nod)).set i83.toNat (⟨((x81.set i83.toNat (⟨i82, (x81.getD i83.toNat dnod).name, (x81.getD i83.toNat dnod).value⟩ : Nod)).getD i83.toNat dnod).parent, s110, ((x81.set i83.toNat (⟨i82, (x81.getD i83.toNat dnod).name, (x81.getD i83.toNat dnod).value⟩ : Nod)).getD i83.toNat dnod).value⟩ : Nod)).getD i83.toNat dnod).parent, (((x81.set i83.toNat (⟨i82, (x81.getD i83.toNat dnod).name, (x81.getD i83.toNat dnod).value⟩ : Nod)).set i83.toNat (⟨((x81.set i83.toNat (⟨i82, (x81.getD i83.toNat dnod).name, (x81.getD i83.toNat dnod).value⟩ : Nod)).getD i83.toNat dnod).parent, s110, ((x81.set i83.toNat (⟨i82, (x81.getD i83.toNat dnod).name, (x81.getD i83.toNat dnod).value⟩ : Nod)).getD i83.toNat dnod).value⟩ : Nod)).getD i83.toNat dnod).name, (w64 ((w64 (i82 + 1)) + 1))⟩ : Nod)) (w64 ((w64 ((w64 (i82 + 1)) + 1)) + 1)) (w64 (i83 + 1)))
 (some (x81, i82))

theorem laws_markNodeS_L1_ok (w : World) (X : Nat → Prop) (θ : List Loc) (k2 : Nat) (v : ((List Nod) × Int)) : ∀ (n : Nat) (x81 : List Nod) (i82 : Int) (i83 : Int), laws_markNodeS_L1 k2 n x81 i82 i83 = some v → WL EE ⟨w, X, θ, 35, 1⟩ (subC [1, 0, 1, 4, 4] (bodyC Try.f32)) (fun (e : Exit) (s : St) => (match v with | (x99, i100) => e = .exit 0 ∧ s = ⟨[(1, I i100)], [.row .nod x99 true]⟩ : Prop)) ⟨[(0, .one (.e (.sl 0 0 k2))), (1, I i82), (5, I i83)], [.row .nod x81 true]⟩ := by
  intro n
  induction n with
  | zero => intro _ _ _ h; exact none_e h
  | succ n ih =>
    intro x81 i82 i83 h
    rw [laws_markNodeS_L1] at h
    refine WL_round ?_
    refine W_seq ?_
    refine W_seq ?_
    refine W_region ?_
    refine WO_step 4 [0] [0, 1, 5, 9] (True ∧ (True ∧ True)) ⟨[(0, .one (.e (.sl 0 0 k2))), (1, I i82), (5, I i83), (9, B (decide (i83 < ((k2 : Nat) : Int))))], [.row .nod x81 true]⟩ (by kernel_rfl) ⟨trivial, trivial, trivial⟩ ?_
    refine WO_nil rfl ?_
    refine thenS_n ?_
    refine iteO_e h (fun hb103 h => W_true rfl hb103 ?_) (fun hb103 h => W_false rfl hb103 ?_)
    · refine W_sub [0] [0, 1, 5] (st' := ⟨[(0, .one (.e (.sl 0 0 k2))), (1, I i82), (5, I i83)], [.row .nod x81 true]⟩) (by kernel_rfl) ?_
      refine W_skip ?_
      refine thenS_n ?_
      refine W_seq ?_
      refine W_block ?_
      refine W_seq ?_
      refine W_region ?_
      refine guardO_e h (fun hg109 h => ?_)
      refine WO_step 6 [0] [0, 1, 5] ((0 ≤ i83 ∧ i83 < ((k2 : Nat) : Int)) ∧ (True ∧ True)) ⟨[(0, .one (.e (.sl 0 0 k2))), (1, I i82), (5, I i83)], [.row .nod (x81.set i83.toNat (⟨i82, (x81.getD i83.toNat dnod).name, (x81.getD i83.toNat dnod).value⟩ : Nod)) true]⟩ (by kernel_rfl) ⟨hg109, trivial, trivial⟩ ?_
      refine WO_nil rfl ?_
      refine thenS_n ?_
      refine W_seq ?_
      refine W_region ?_
      refine WO_step 3 [0] [0, 1, 5] (True ∧ True) ⟨[(0, .one (.e (.sl 0 0 k2))), (1, I (w64 (i82 + 1))), (5, I i83)], [.row .nod (x81.set i83.toNat (⟨i82, (x81.getD i83.toNat dnod).name, (x81.getD i83.toNat dnod).value⟩ : Nod)) true]⟩ (by kernel_rfl) ⟨trivial, trivial⟩ ?_
      refine WO_nil rfl ?_
      refine thenS_n ?_
      refine W_seq ?_
      refine W_region ?_
      refine WO_step 3 [0] [0, 1, 5, 19, 20, 21] True ⟨[(0, .one (.e (.sl 0 0 k2))), (1, I (w64 (i82 + 1))), (5, I i83), (19, .one (.e (.sl 0 0 k2))), (20, I i83), (21, I (w64 (i82 + 1)))], [.row .nod (x81.set i83.toNat (⟨i82, (x81.getD i83.toNat dnod).name, (x81.getD i83.toNat dnod).value⟩ : Nod)) true]⟩ (by kernel_rfl) trivial ?_
      refine bindO_e h (fun s110 hc111 h => ?_)
      refine WO_call [] Try.f57 rfl rfl rfl (by kernel_rfl) rfl rfl (by kernel_rfl) (laws_markText_ok n (w64 (i82 + 1)) s110 hc111) (trivial) rfl ?_
      refine guardO_e h (fun hg112 h => ?_)
      refine WO_step 3 [0] [0, 1, 5] ((0 ≤ i83 ∧ i83 < ((k2 : Nat) : Int)) ∧ (True ∧ True)) ⟨[(0, .one (.e (.sl 0 0 k2))), (1, I (w64 (i82 + 1))), (5, I i83)], [.row .nod ((x81.set i83.toNat (⟨i82, (x81.getD i83.toNat dnod).name, (x81.getD i83.toNat dnod).value⟩ : Nod)).set i83.toNat (⟨((x81.set i83.toNat (⟨i82, (x81.getD i83.toNat dnod).name, (x81.getD i83.toNat dnod).value⟩ : Nod)).getD i83.toNat dnod).parent, s110, ((x81.set i83.toNat (⟨i82, (x81.getD i83.toNat dnod).name, (x81.getD i83.toNat dnod).value⟩ : Nod)).getD i83.toNat dnod).value⟩ : Nod)) true]⟩ (by kernel_rfl) ⟨hg112, trivial, trivial⟩ ?_
      refine WO_nil rfl ?_
      refine thenS_n ?_
      refine W_seq ?_
      refine W_region ?_
      refine WO_step 3 [0] [0, 1, 5] (True ∧ True) ⟨[(0, .one (.e (.sl 0 0 k2))), (1, I (w64 ((w64 (i82 + 1)) + 1))), (5, I i83)], [.row .nod ((x81.set i83.toNat (⟨i82, (x81.getD i83.toNat dnod).name, (x81.getD i83.toNat dnod).value⟩ : Nod)).set i83.toNat (⟨((x81.set i83.toNat (⟨i82, (x81.getD i83.toNat dnod).name, (x81.getD i83.toNat dnod).value⟩ : Nod)).getD i83.toNat dnod).parent, s110, ((x81.set i83.toNat (⟨i82, (x81.getD i83.toNat dnod).name, (x81.getD i83.toNat dnod).value⟩ : Nod)).getD i83.toNat dnod).value⟩ : Nod)) true]⟩ (by kernel_rfl) ⟨trivial, trivial⟩ ?_
      refine WO_nil rfl ?_
      refine thenS_n ?_
      refine W_seq ?_
      refine W_region ?_
      refine guardO_e h (fun hg113 h => ?_)
      refine WO_step 6 [0] [0, 1, 5] ((0 ≤ i83 ∧ i83 < ((k2 : Nat) : Int)) ∧ (True ∧ True)) ⟨[(0, .one (.e (.sl 0 0 k2))), (1, I (w64 ((w64 (i82 + 1)) + 1))), (5, I i83)], [.row .nod (((x81.set i83.toNat (⟨i82, (x81.getD i83.toNat dnod).name, (x81.getD i83.toNat dnod).value⟩ : Nod)).set i83.toNat (⟨((x81.set i83.toNat (⟨i82, (x81.getD i83.toNat dnod).name, (x81.getD i83.toNat dnod).value⟩ : Nod)).getD i83.toNat dnod).parent, s110, ((x81.set i83.toNat (⟨i82, (x81.getD i83.toNat dnod).name, (x81.getD i83.toNat dnod).value⟩ : Nod)).getD i83.toNat dnod).value⟩ : Nod)).set i83.toNat (⟨(((x81.set i83.toNat (⟨i82, (x81.getD i83.toNat dnod).name, (x81.getD i83.toNat dnod).value⟩ : Nod)).set i83.toNat (⟨((x81.set i83.toNat (⟨i82, (x81.getD i83.toNat dnod).name, (x81.getD i83.toNat dnod).value⟩ : Nod)).getD i83.toNat dnod).parent, s110, ((x81.set i83.toNat (⟨i82, (x81.getD i83.toNat dnod).name, (x81.getD i83.toNat dnod).value⟩ : Nod)).getD i83.toNat dnod).value⟩ : Nod)).getD i83.toNat dnod).parent, (((x81.set i83.toNat (⟨i82, (x81.getD i83.toNat dnod).name, (x81.getD i83.toNat dnod).value⟩ : Nod)).set i83.toNat (⟨((x81.set i83.toNat (⟨i82, (x81.getD i83.toNat dnod).name, (x81.getD i83.toNat dnod).value⟩ : Nod)).getD i83.toNat dnod).parent, s110, ((x81.set i83.toNat (⟨i82, (x81.getD i83.toNat dnod).name, (x81.getD i83.toNat dnod).value⟩ : Nod)).getD i83.toNat dnod).value⟩ : Nod)).getD i83.toNat dnod).name, (w64 ((w64 (i82 + 1)) + 1))⟩ : Nod)) true]⟩ (by kernel_rfl) ⟨hg113, trivial, trivial⟩ ?_
      refine WO_nil rfl ?_
      refine thenS_n ?_
      refine W_region ?_
      refine WO_step 3 [0] [0, 1, 5] (True ∧ True) ⟨[(0, .one (.e (.sl 0 0 k2))), (1, I (w64 ((w64 ((w64 (i82 + 1)) + 1)) + 1))), (5, I i83)], [.row .nod (((x81.set i83.toNat (⟨i82, (x81.getD i83.toNat dnod).name, (x81.getD i83.toNat dnod).value⟩ : Nod)).set i83.toNat (⟨((x81.set i83.toNat (⟨i82, (x81.getD i83.toNat dnod).name, (x81.getD i83.toNat dnod).value⟩ : Nod)).getD i83.toNat dnod).parent, s110, ((x81.set i83.toNat (⟨i82, (x81.getD i83.toNat dnod).name, (x81.getD i83.toNat dnod).value⟩ : Nod)).getD i83.toNat dnod).value⟩ : Nod)).set i83.toNat (⟨(((x81.set i83.toNat (⟨i82, (x81.getD i83.toNat dnod).name, (x81.getD i83.toNat dnod).value⟩ : Nod)).set i83.toNat (⟨((x81.set i83.toNat (⟨i82, (x81.getD i83.toNat dnod).name, (x81.getD i83.toNat dnod).value⟩ : Nod)).getD i83.toNat dnod).parent, s110, ((x81.set i83.toNat (⟨i82, (x81.getD i83.toNat dnod).name, (x81.getD i83.toNat dnod).value⟩ : Nod)).getD i83.toNat dnod).value⟩ : Nod)).getD i83.toNat dnod).parent, (((x81.set i83.toNat (⟨i82, (x81.getD i83.toNat dnod).name, (x81.getD i83.toNat dnod).value⟩ : Nod)).set i83.toNat (⟨((x81.set i83.toNat (⟨i82, (x81.getD i83.toNat dnod).name, (x81.getD i83.toNat dnod).value⟩ : Nod)).getD i83.toNat dnod).parent, s110, ((x81.set i83.toNat (⟨i82, (x81.getD i83.toNat dnod).name, (x81.getD i83.toNat dnod).value⟩ : Nod)).getD i83.toNat dnod).value⟩ : Nod)).getD i83.toNat dnod).name, (w64 ((w64 (i82 + 1)) + 1))⟩ : Nod)) true]⟩ (by kernel_rfl) ⟨trivial, trivial⟩ ?_
      refine WO_nil rfl ?_
      refine blockS_n ?_
      refine thenS_n ?_
      refine W_region ?_
      refine WO_step 3 [0] [0, 1, 5] (True ∧ True) ⟨[(0, .one (.e (.sl 0 0 k2))), (1, I (w64 ((w64 ((w64 (i82 + 1)) + 1)) + 1))), (5, I (w64 (i83 + 1)))], [.row .nod (((x81.set i83.toNat (⟨i82, (x81.getD i83.toNat dnod).name, (x81.getD i83.toNat dnod).value⟩ : Nod)).set i83.toNat (⟨((x81.set i83.toNat (⟨i82, (x81.getD i83.toNat dnod).name, (x81.getD i83.toNat dnod).value⟩ : Nod)).getD i83.toNat dnod).parent, s110, ((x81.set i83.toNat (⟨i82, (x81.getD i83.toNat dnod).name, (x81.getD i83.toNat dnod).value⟩ : Nod)).getD i83.toNat dnod).value⟩ : Nod)).set i83.toNat (⟨(((x81.set i83.toNat (⟨i82, (x81.getD i83.toNat dnod).name, (x81.getD i83.toNat dnod).value⟩ : Nod)).set i83.toNat (⟨((x81.set i83.toNat (⟨i82, (x81.getD i83.toNat dnod).name, (x81.getD i83.toNat dnod).value⟩ : Nod)).getD i83.toNat dnod).parent, s110, ((x81.set i83.toNat (⟨i82, (x81.getD i83.toNat dnod).name, (x81.getD i83.toNat dnod).value⟩ : Nod)).getD i83.toNat dnod).value⟩ : Nod)).getD i83.toNat dnod).parent, (((x81.set i83.toNat (⟨i82, (x81.getD i83.toNat dnod).name, (x81.getD i83.toNat dnod).value⟩ : Nod)).set i83.toNat (⟨((x81.set i83.toNat (⟨i82, (x81.getD i83.toNat dnod).name, (x81.getD i83.toNat dnod).value⟩ : Nod)).getD i83.toNat dnod).parent, s110, ((x81.set i83.toNat (⟨i82, (x81.getD i83.toNat dnod).name, (x81.getD i83.toNat dnod).value⟩ : Nod)).getD i83.toNat dnod).value⟩ : Nod)).getD i83.toNat dnod).name, (w64 ((w64 (i82 + 1)) + 1))⟩ : Nod)) true]⟩ (by kernel_rfl) ⟨trivial, trivial⟩ ?_
      refine WO_nil rfl ?_
      refine thenS_n ?_
      exact ih _ _ _ h
    · refine W_sub [0] [1] (st' := ⟨[(1, I i82)], [.row .nod x81 true]⟩) (by kernel_rfl) ?_
      refine W_exit ?_
      refine thenS_e ?_
      refine thenS_e ?_
      cases h
      exact And.intro rfl rfl

def laws_markNodeS (n : Nat) (x1 : List Nod) (k2 : Nat) (i3 : Int) : Option ((List Nod) × Int) :=
 bindO (laws_markNodeS_L1 k2 n x1 i3 0) fun v114 =>
 match v114 with
 | (x99, i100) => (some (x99, i100))


theorem laws_markNodeS_ok (n : Nat) (x1 : List Nod) (k2 : Nat) (i3 : Int) (x58 : List Nod) (i59 : Int) (h : laws_markNodeS n x1 k2 i3 = some (x58, i59)) : FOk EE 32 [.one (.e (.sl 0 0 k2)), I i3] [.row .nod x1 true] (I i59) [.row .nod x58 true] := by
  unfold laws_markNodeS at h
  refine FOk_of_W 35 1 Try.func32 rfl rfl (Nat.le_of_ble_eq_true rfl) rfl (fun w X θ => ?_)
  refine W_seq ?_
  refine W_region ?_
  refine WO_step 1 [0] [0, 1] True ⟨[(0, .one (.e (.sl 0 0 k2))), (1, I i3)], [.row .nod x1 true]⟩ (by kernel_rfl) trivial ?_
  refine WO_nil rfl ?_
  refine thenS_n ?_
  refine W_seq ?_
  refine W_seq ?_
  refine W_region ?_
  refine WO_step 1 [0] [0, 1, 5] True ⟨[(0, .one (.e (.sl 0 0 k2))), (1, I i3), (5, I 0)], [.row .nod x1 true]⟩ (by kernel_rfl) trivial ?_
  refine WO_nil rfl ?_
  refine thenS_n ?_
  refine W_block ?_
  refine W_loop ?_
  refine bindO_e h (fun v114 hv114 h => ?_)
  refine WL_cut (laws_markNodeS_L1_ok w X θ k2 v114 n x1 i3 0 hv114) ?_
  obtain ⟨x99, i100⟩ := v114
  rintro _ _ ⟨rfl, rfl⟩
  refine blockS_y ?_
  refine thenS_n ?_
  refine W_seq ?_
  refine W_region ?_
  refine WO_step 2 [0] [4] True ⟨[(4, I i100)], [.row .nod x99 true]⟩ (by kernel_rfl) trivial ?_
  refine WO_nil rfl ?_
  refine thenS_n ?_
  refine W_ret ?_
  cases h
  exact ⟨[0], True, by kernel_rfl, trivial⟩

/- laws.markRecordS -/
def laws_markRecordS_L1 (k2 : Nat) : Nat → (List Rcd) → Int → Int → Option (((List Rcd) × Int))
| 0, _, _, _ => none
| n + 1, x73, i74, i75 =>
 iteO (decide (i75 < ((k2 : Nat) : Int)))
 (guardO (0 ≤ i75 ∧ i75 < ((k2 : Nat) : Int)) <|
 guardO (0 ≤ i75 ∧ i75 < ((k2 : Nat) : Int)) <|
 guardO (0 ≤ i75 ∧ i75 < ((k2 : Nat) : Int)) <|
 guardO (0 ≤ i75 ∧ i75 < ((k2 : Nat) : Int)) <|
 laws_markRecordS_L1 k2 n ((((x73.set i75.toNat (⟨i74, (x73.getD i75.toNat drcd).node, (x73.getD i75.toNat drcd).value, (x73.getD i75.toNat drcd).fin⟩ : Rcd)).set i75.toNat (⟨((x73.set i75.toNat (⟨i74, (x73.getD i75.toNat drcd).node, (x73.getD i75.toNat drcd).value, (x73.getD i75.toNat drcd).fin⟩ : Rcd)).getD i75.toNat drcd).who, (w64 (i74 + 1)), ((x73.set i75.toNat (⟨i74, (x73.getD i75.toNat drcd).node, (x73.getD i75.toNat drcd).value, (x73.getD i75.toNat drcd).fin⟩ : Rcd)).getD i75.toNat drcd).value, ((x73.set i75.toNat (⟨i74, (x73.getD i75.toNat drcd).node, (x73.getD i75.toNat drcd).value, (x73.getD i75.toNat drcd).fin⟩ : Rcd)).getD i75.toNat drcd).fin⟩ : Rcd)).set i75.toNat (⟨(((x73.set i75.toNat (⟨i74, (x73.getD i75.toNat drcd).node, (x73.getD i75.toNat drcd).value, (x73.getD i75.toNat drcd).fin⟩ : Rcd)).set i75.toNat (⟨((x73.set i75.toNat (⟨i74, (x73.getD i75.toNat drcd).node, (x73.getD i75.toNat drcd).value, (x73.getD i75.toNat drcd).fin⟩ : Rcd)).getD i75.toNat drcd).who, (w64 (i74 + 1)), ((x73.set i75.toNat (⟨i74, (x73.getD i75.toNat drcd).node, (x73.getD i75.toNat drcd).value, (x73.getD i75.toNat drcd).fin⟩ : Rcd)).getD i75.toNat drcd).value, ((x73.set i75.toNat (⟨i74, (x73.getD i75.toNat drcd).node, (x73.getD i75.toNat drcd).value, (x73.getD i75.toNat drcd).fin⟩ : Rcd)).getD i75.toNat drcd).fin⟩ : Rcd)).getD i75.toNat drcd).who, (((x73.set i75.toNat (⟨i74, (x73.getD i75.toNat drcd).node, (x73.getD i75.toNat drcd).value, (x73.getD i75.toNat drcd).fin⟩ : Rcd)).set i75.toNat (⟨((x73.set i75.toNat (⟨i74, (x73.getD i75.toNat drcd).node, (x73.getD i75.toNat drcd).value, (x73.getD i75.toNat drcd).fin⟩ : Rcd)).getD i75.toNat drcd).who, (w64 (i74 + 1)), ((x73.set i75.toNat (⟨i74, (x73.getD i75.toNat drcd).node, (x73.getD i75.toNat drcd).value, (x73.getD i75.toNat drcd).fin⟩ : Rcd)).getD i75.toNat drcd).value, ((x73.set i75.toNat (⟨i74, (x73.getD i75.toNat drcd).node, (x73.getD i75.toNat drcd).value, (x73.getD i75.toNat drcd).fin⟩ : Rcd)).getD i75.toNat drcd).fin⟩ : Rcd)).getD i75.toNat drcd).node, (w64 ((w64 (i74 + 1)) + 1)), (((x73.set i75.toNat (⟨i74, (x73.getD i75.toNat drcd).node, (x73.getD i75.toNat drcd).value, (x73.getD i75.toNat drcd).fin⟩ : Rcd)).set i75.toNat (⟨((x73.set i75.toNat (⟨i74, (x73.getD i75.toNat drcd).node, (x73.getD i75.toNat drcd).value, (x73.getD i75.toNat drcd).fin⟩ : Rcd)).getD i75.toNat drcd).who, (w64 (i74 + 1)), ((x73.set i75.toNat (⟨i74, (x73.getD i75.toNat drcd).node, (x73.getD i75.toNat drcd).value, (x73.getD i75.toNat drcd).fin⟩ : Rcd)).getD i75.toNat drcd).value, ((x73.set i75.toNat (⟨i74, (x73.getD i75.toNat drcd).node, (x73.getD i75.toNat drcd).value, (x73.getD i75.toNat drcd).fin⟩ : Rcd)).getD i75.toNat drcd).fin⟩ : Rcd)).getD i75.toNat drcd).fin⟩ : Rcd)).set i75.toNat (⟨((((x73.set i75.toNat (⟨i74, (x73.getD i75.toNat drcd).node, (x73.getD i75.toNat drcd).value, (x73.getD i75.toNat drcd).fin⟩ : Rcd)).set i75.toNat (⟨((x73.set i75.toNat (⟨i74, (x73.getD i75.toNat drcd).node, (x73.getD i75.toNat drcd).value, (x73.getD i75.toNat drcd).fin⟩ : Rcd)).getD i75.toNat drcd).who, (w64 (i74 + 1)), ((x73.set i75.toNat (⟨i74, (x73.getD i75.toNat drcd).node, (x73.getD i75.toNat drcd).value, (x73.getD i75.toNat drcd).fin⟩ : Rcd)).getD i75.toNat drcd).value, ((x73.set i75.toNat (⟨i74, (x73.getD i75.toNat drcd).node, (x73.getD i75.toNat drcd).value, (x73.getD i75.toNat drcd).fin⟩ : Rcd)).getD i75.toNat drcd).fin⟩ : Rcd)).set i75.toNat (⟨(((x73.set i75.toNat (⟨i74, (x73.getD i75.toNat drcd).node, (x73.getD i75.toNat drcd).value, (x73.getD i75.toNat drcd).fin⟩ : Rcd)).set i75.toNat (⟨((x73.set i75.toNat (⟨i74, (x73.getD i75.toNat drcd).node, (x73.getD i75.toNat drcd).value, (x73.getD i75.toNat drcd).fin⟩ : Rcd)).getD i75.toNat drcd).who, (w64 (i74 + 1)), ((x73.set i75.toNat (⟨i74, (x73.getD i75.toNat drcd).node, (x73.getD i75.toNat drcd).value, (x73.getD i75.toNat drcd).fin⟩ : Rcd)).getD i75.toNat drcd).value, ((x73.set i75.toNat (⟨i74, (x73.getD i75.toNat drcd).node, (x73.getD i75.toNat drcd).value, (x73.getD i75.toNat drcd).fin⟩ : Rcd)).getD i75.toNat drcd).fin⟩ : Rcd)).getD i75.toNat drcd).who, (((x73.set i75.toNat (⟨i74, (x73.getD i75.toNat drcd).node, (x73.getD i75.toNat drcd).value, (x73.getD i75.toNat drcd).fin⟩ : Rcd)).set i75.toNat (⟨((x73.set i75.toNat (⟨i74, (x73.getD i75.toNat drcd).node, (x73.getD i75.toNat drcd).value, (x73.getD i75.toNat drcd).fin⟩ : Rcd)).getD i75.toNat drcd).who, (w64 (i74 + 1)), ((x73.set i75.toNat (⟨i74, (x73.getD i75.toNat drcd).node, (x73.getD i75.toNat drcd).value, (x73.getD i75.toNat drcd).fin⟩ : Rcd)).getD i75.toNat drcd).value, ((x73.set i75.toNat (⟨i74, (x73.getD i75.toNat drcd).node, (x73.getD i75.toNat drcd).value, (x73.getD i75.toNat drcd).fin⟩ : Rcd)).getD i75.toNat drcd).fin⟩ : Rcd)).getD i75.toNat drcd).node, (w64 ((w64 (i74 + 1)) + 1)), (((x73.set i75.toNat (⟨i74, (x73.getD i75.toNat drcd).node, (x73.getD i75.toNat drcd).value, (x73.getD i75.toNat drcd).fin⟩ : Rcd)).set i75.toNat (⟨((x73.set i75.toNat (⟨i74, (x73.getD i75.toNat drcd).node, (x73.getD i75.toNat drcd).value, (x73.getD i75.toNat drcd).fin⟩ : Rcd)).getD i75.toNat drcd).who, (w64 (i74 + 1)), ((x73.set i75.toNat (⟨i74, (x73.getD i75.toNat drcd).node, (x73.getD i75.toNat drcd).value, (x73.getD i75.toNat drcd).fin⟩ : Rcd)).getD i75.toNat drcd).value, ((x73.set i75.toNat (⟨i74, (x73.getD i75.toNat drcd).node, (x73.getD i75.toNat drcd).value, (x73.getD i75.toNat drcd).fin⟩ : Rcd)).getD i75.toNat drcd).fin⟩ : Rcd)).getD i75.toNat drcd).fin⟩ : Rcd)).getD i75.toNat drcd).who, ((((x73.set i75.toNat (⟨i74, (x73.getD i75.toNat drcd).node, (x73.getD i75.toNat drcd).value, (x73.getD i75.toNat drcd).fin⟩ : Rcd)).set i75.toNat (⟨((x73.set i75.toNat (⟨i74, (x73.getD i75.toNat drcd).node, (x73.getD i75.toNat drcd).value, (x73.getD i75.toNat drcd).fin⟩ : Rcd)).getD i75.toNat drcd).who, (w64 (i74 + 1)), ((x73.set i75.toNat (⟨i74, (x73.getD i75.toNat drcd).node, (x73.getD i75.toNat drcd).value, (x73.getD i75.toNat drcd).fin⟩ : Rcd)).getD i75.toNat drcd).value, ((x73.set i75.toNat (⟨i74, (x73.getD i75.toNat drcd).node, (x73.getD i75.toNat drcd).value, (x73.getD i75.toNat drcd).fin⟩ : Rcd)).getD i75.toNat drcd).fin⟩ : Rcd)).set i75.toNat (⟨(((x73.set i75.toNat (⟨i74, (x73.getD i75.toNat drcd).node, (x73.getD i75.toNat drcd).value, (x73.getD i75.toNat drcd).fin⟩ : Rcd)).set i75.toNat (⟨((x73.set i75.toNat (⟨i74, (x73.getD i75.toNat drcd).node, (x73.getD i75.toNat drcd).value, (x73.getD i75.toNat drcd).fin⟩ : Rcd)).getD i75.toNat drcd).who, (w64 (i74 + 1)), ((x73.set i75.toNat (⟨i74, (x73.getD i75.toNat drcd).node, (x73.getD i75.toNat drcd).value, (x73.getD i75.toNat drcd).fin⟩ : Rcd)).getD i75.toNat drcd).value, ((x73.set i75.toNat (⟨i74, (x73.getD i75.toNat drcd).node, (x73.getD i75.toNat drcd).value, (x73.getD i75.toNat drcd).fin⟩ : Rcd)).getD i75.toNat drcd).fin⟩ : Rcd)).getD i75.toNat drcd).who, (((x73.set i75.toNat (⟨i74, (x73.getD i75.toNat drcd).node, (x73.getD i75.toNat drcd).value, (x73.getD i75.toNat drcd).fin⟩ : Rcd)).set i75.toNat (⟨((x73.set i75.toNat (⟨i74, (x73.getD i75.toNat drcd).node, (x73.getD i75.toNat drcd).value, (x73.getD i75.toNat drcd).fin⟩ : Rcd)).getD i75.toNat drcd).who, (w64 (i74 + 1)), ((x73.set i75.toNat (⟨i74, (x73.getD i75.toNat drcd).node, (x73.getD i75.toNat drcd).value, (x73.getD i75.toNat drcd).fin⟩ : Rcd)).getD i75.toNat drcd).value, ((x73.set i75.toNat (⟨i74, (x73.getD i75.toNat drcd).node, (x73.getD i75.toNat drcd).value, (x73.getD i75.toNat drcd).fin⟩ : Rcd)).getD i75.toNat drcd).fin⟩ : Rcd)).getD i75.toNat drcd).node, (w64 ((w64 (i74 + 1)) + 1)), (((x73.set i75.toNat (⟨i74, (x73.getD i75.toNat drcd).node, (x73.getD i75.toNat drcd).value, (x73.getD i75.toNat drcd).fin⟩ : Rcd)).set i75.toNat (⟨((x73.set i75.toNat (⟨i74, (x73.getD i75.toNat drcd).node, (x73.getD i75.toNat drcd).value, (x73.getD i75.toNat drcd).fin⟩ : Rcd)).getD i75.toNat drcd).who, (w64 (i74 + 1)), ((x73.set i75.toNat (⟨i74, (x73.getD i75.toNat drcd).node, (x73.getD i75.toNat drcd).value, (x73.getD i75.toNat drcd).fin⟩ : Rcd)).getD i75.toNat drcd).value, ((x73.set i75.toNat (⟨i74, (x73.getD i75.toNat drcd).node, (x73.getD i75.toNat drcd).value, (x73.getD i75.toNat drcd).fin⟩ : Rcd)).getD i75.toNat drcd).fin⟩ : Rcd)).getD i75.toNat drcd).fin⟩ : Rcd)).getD i75.toNat drcd).node, ((((x73.set i75.toNat (⟨i74, (x73.getD i75.toNat drcd).node, (x73.getD i75.toNat drcd).value, (x73.getD i75.toNat drcd).fin⟩ : Rcd)).set i75.toNat (⟨((x73.set i75.toNat (⟨i74, (x73.getD i75.toNat drcd).node, (x73.getD i75.toNat drcd).value, (x73.getD i75.toNat drcd).fin⟩ : Rcd)).getD i75.toNat drcd).who, (w64 (i74 + 1)), ((x73.set i75.toNat (⟨i74, (x73.getD i75.toNat drcd).node, (x73.getD i75.toNat drcd).value, (x73.getD i75.toNat drcd).fin⟩ : Rcd)).getD i75.toNat drcd).value, ((x73.set i75.toNat (⟨i74, (x73.getD i75.toNat drcd).node, (x73.getD i75.toNat drcd).value, (x73.getD i75.toNat drcd).fin⟩ : Rcd)).getD i75.toNat drcd).fin⟩ : Rcd)).set i75.toNat (⟨(((x73.set i75.toNat (⟨i74, (x73.getD i75.toNat drcd).node, (x73.getD i75.toNat drcd).value, (x73.getD i75.toNat drcd).fin⟩ : Rcd)).set i75.toNat (⟨((x73.set i75.toNat (⟨i74, (x73.getD i75.toNat drcd).node, (x73.getD i75.toNat drcd).value, (x73.getD i75.toNat drcd).fin⟩ : Rcd)).getD i75.toNat drcd).who, (w64 (i74 + 1)), ((x73.set i75.toNat (⟨i74, (x73.getD i75.toNat drcd).node, (x73.getD i75.toNat drcd).value, (x73.getD i75.toNat drcd).fin⟩ : Rcd)).getD i75.toNat drcd).value, ((x73.set i75.toNat (⟨i74, (x73.getD i75.toNat drcd).node, (x73.getD i75.toNat drcd).value, (x73.getD i75.toNat drcd).fin⟩ : Rcd)).getD i75.toNat drcd).fin⟩ : Rcd)).getD i75.toNat drcd).who, (((x73.set i75.toNat (⟨i74, (x73.getD i75.toNat drcd).node, (x73.getD i75.toNat drcd).value, (x73.getD i75.toNat drcd).fin⟩ : Rcd)).set i75.toNat (⟨((x73.set i75.toNat (⟨i74, (x73.getD i75.toNat drcd).node, (x73.getD i75.toNat drcd).value, (x73.getD i75.toNat drcd).fin⟩ : Rcd)).getD i75.toNat drcd).who, (w64 (i74 + 1)), ((x73.set i75.toNat (⟨i74, (x73.getD i75.toNat drcd).node, (x73.getD i75.toNat drcd).value, (x73.getD i75.toNat drcd).fin⟩ : Rcd)).getD i75.toNat drcd).value, ((x73.set i75.toNat (⟨i74, (x73.getD i75.toNat drcd).node, (x73.getD i75.toNat drcd).value, (x73.getD i75.toNat drcd).fin⟩ : Rcd)).getD i75.toNat drcd).fin⟩ : Rcd)).getD i75.toNat drcd).node, (w64 ((w64 (i74 + 1)) + 1)), (((x73.set i75.toNat (⟨i74, (x73.getD i75.toNat drcd).node, (x73.getD i75.toNat drcd).value, (x73.getD i75.toNat drcd).fin⟩ : Rcd)).set i75.toNat (⟨((x73.set i75.toNat (⟨i74, (x73.getD i75.toNat drcd).node, (x73.getD i75.toNat drcd).value, (x73.getD i75.toNat drcd).fin⟩ : Rcd)).getD i75.toNat drcd).who, (w64 (i74 + 1)), ((x73.set i75.toNat (⟨i74, (x73.getD i75.toNat drcd).node, (x73.getD i75.toNat drcd).value, (x73.getD i75.toNat drcd).fin⟩ : Rcd)).getD i75.toNat drcd).value, ((x73.set i75.toNat (⟨i74, (x73.getD i75.toNat drcd).node, (x73.getD i75.toNat drcd).value, (x73.getD i75.toNat drcd).fin⟩ : Rcd)).getD i75.toNat drcd).fin⟩ : Rcd)).getD i75.toNat drcd).fin⟩ : Rcd)).getD i75.toNat drcd).value, (decide (((w64 ((w64 ((w64 (i74 + 1)) + 1)) + 1)).tmod 3) = 0))⟩ : Rcd)) (w64 ((w64 ((w64 ((w64 (i74 + 1)) + 1)) + 1)) + 1)) (w64 (i75 + 1)))
 (some (x73, i74))

theorem laws_markRecordS_L1_ok (w : World) (X : Nat → Prop) (θ : List Loc) (k2 : Nat) (v : ((List Rcd) × Int)) : ∀ (n : Nat) (x73 : List Rcd) (i74 : Int) (i75 : Int), laws_markRecordS_L1 k2 n x73 i74 i75 = some v → WL EE ⟨w, X, θ, 43, 1⟩ (subC [1, 0, 1, 4, 4] (bodyC Try.f33)) (fun (e : Exit) (s : St) => (match v with | (x89, i90) => e = .exit 0 ∧ s = ⟨[(1, I i90)], [.row .rcd x89 true]⟩ : Prop)) ⟨[(0, .one (.e (.sl 0 0 k2))), (1, I i74), (5, I i75)], [.row .rcd x73 true]⟩ := by
  intro n
  induction n with
  | zero => intro _ _ _ h; exact none_e h
  | succ n ih =>
    intro x73 i74 i75 h
    rw [laws_markRecordS_L1] at h
    refine WL_round ?_
    refine W_seq ?_
    refine W_seq ?_
    refine W_region ?_
    refine WO_step 4 [0] [0, 1, 5, 9] (True ∧ (True ∧ True)) ⟨[(0, .one (.e (.sl 0 0 k2))), (1, I i74), (5, I i75), (9, B (decide (i75 < ((k2 : Nat) : Int))))], [.row .rcd x73 true]⟩ (by kernel_rfl) ⟨trivial, trivial, trivial⟩ ?_
    refine WO_nil rfl ?_
    refine thenS_n ?_
    refine iteO_e h (fun hb93 h => W_true rfl hb93 ?_) (fun hb93 h => W_false rfl hb93 ?_)
    · refine W_sub [0] [0, 1, 5] (st' := ⟨[(0, .one (.e (.sl 0 0 k2))), (1, I i74), (5, I i75)], [.row .rcd x73 true]⟩) (by kernel_rfl) ?_
      refine W_skip ?_
      refine thenS_n ?_
      refine W_seq ?_
      refine W_block ?_
      refine W_seq ?_
      refine W_region ?_
      refine guardO_e h (fun hg98 h => ?_)
      refine WO_step 6 [0] [0, 1, 5] ((0 ≤ i75 ∧ i75 < ((k2 : Nat) : Int)) ∧ (True ∧ True)) ⟨[(0, .one (.e (.sl 0 0 k2))), (1, I i74), (5, I i75)], [.row .rcd (x73.set i75.toNat (⟨i74, (x73.getD i75.toNat drcd).node, (x73.getD i75.toNat drcd).value, (x73.getD i75.toNat drcd).fin⟩ : Rcd)) true]⟩ (by kernel_rfl) ⟨hg98, trivial, trivial⟩ ?_
      refine WO_nil rfl ?_
      refine thenS_n ?_
      refine W_seq ?_
      refine W_region ?_
      refine WO_step 3 [0] [0, 1, 5] (True ∧ True) ⟨[(0, .one (.e (.sl 0 0 k2))), (1, I (w64 (i74 + 1))), (5, I i75)], [.row .rcd (x73.set i75.toNat (⟨i74, (x73.getD i75.toNat drcd).node, (x73.getD i75.toNat drcd).value, (x73.getD i75.toNat drcd).fin⟩ : Rcd)) true]⟩ (by kernel_rfl) ⟨trivial, trivial⟩ ?_
      refine WO_nil rfl ?_
      refine thenS_n ?_
      refine W_seq ?_
      refine W_region ?_
      refine guardO_e h (fun hg99 h => ?_)
      refine WO_step 6 [0] [0, 1, 5] ((0 ≤ i75 ∧ i75 < ((k2 : Nat) : Int)) ∧ (True ∧ True)) ⟨[(0, .one (.e (.sl 0 0 k2))), (1, I (w64 (i74 + 1))), (5, I i75)], [.row .rcd ((x73.set i75.toNat (⟨i74, (x73.getD i75.toNat drcd).node, (x73.getD i75.toNat drcd).value, (x73.getD i75.toNat drcd).fin⟩ : Rcd)).set i75.toNat (⟨((x73.set i75.toNat (⟨i74, (x73.getD i75.toNat drcd).node, (x73.getD i75.toNat drcd).value, (x73.getD i75.toNat drcd).fin⟩ : Rcd)).getD i75.toNat drcd).who, (w64 (i74 + 1)), ((x73.set i75.toNat (⟨i74, (x73.getD i75.toNat drcd).node, (x73.getD i75.toNat drcd).value, (x73.getD i75.toNat drcd).fin⟩ : Rcd)).getD i75.toNat drcd).value, ((x73.set i75.toNat (⟨i74, (x73.getD i75.toNat drcd).node, (x73.getD i75.toNat drcd).value, (x73.getD i75.toNat drcd).fin⟩ : Rcd)).getD i75.toNat drcd).fin⟩ : Rcd)) true]⟩ (by kernel_rfl) ⟨hg99, trivial, trivial⟩ ?_
      refine WO_nil rfl ?_
      refine thenS_n ?_
      refine W_seq ?_
      refine W_region ?_
      refine WO_step 3 [0] [0, 1, 5] (True ∧ True) ⟨[(0, .one (.e (.sl 0 0 k2))), (1, I (w64 ((w64 (i74 + 1)) + 1))), (5, I i75)], [.row .rcd ((x73.set i75.toNat (⟨i74, (x73.getD i75.toNat drcd).node, (x73.getD i75.toNat drcd).value, (x73.getD i75.toNat drcd).fin⟩ : Rcd)).set i75.toNat (⟨((x73.set i75.toNat (⟨i74, (x73.getD i75.toNat drcd).node, (x73.getD i75.toNat drcd).value, (x73.getD i75.toNat drcd).fin⟩ : Rcd)).getD i75.toNat drcd).who, (w64 (i74 + 1)), ((x73.set i75.toNat (⟨i74, (x73.getD i75.toNat drcd).node, (x73.getD i75.toNat drcd).value, (x73.getD i75.toNat drcd).fin⟩ : Rcd)).getD i75.toNat drcd).value, ((x73.set i75.toNat (⟨i74, (x73.getD i75.toNat drcd).node, (x73.getD i75.toNat drcd).value, (x73.getD i75.toNat drcd).fin⟩ : Rcd)).getD i75.toNat drcd).fin⟩ : Rcd)) true]⟩ (by kernel_rfl) ⟨trivial, trivial⟩ ?_
      refine WO_nil rfl ?_
      refine thenS_n ?_
      refine W_seq ?_
      refine W_region ?_
      refine guardO_e h (fun hg100 h => ?_)
      refine WO_step 6 [0] [0, 1, 5] ((0 ≤ i75 ∧ i75 < ((k2 : Nat) : Int)) ∧ (True ∧ True)) ⟨[(0, .one (.e (.sl 0 0 k2))), (1, I (w64 ((w64 (i74 + 1)) + 1))), (5, I i75)], [.row .rcd (((x73.set i75.toNat (⟨i74, (x73.getD i75.toNat drcd).node, (x73.getD i75.toNat drcd).value, (x73.getD i75.toNat drcd).fin⟩ : Rcd)).set i75.toNat (⟨((x73.set i75.toNat (⟨i74, (x73.getD i75.toNat drcd).node, (x73.getD i75.toNat drcd).value, (x73.getD i75.toNat drcd).fin⟩ : Rcd)).getD i75.toNat drcd).who, (w64 (i74 + 1)), ((x73.set i75.toNat (⟨i74, (x73.getD i75.toNat drcd).node, (x73.getD i75.toNat drcd).value, (x73.getD i75.toNat drcd).fin⟩ : Rcd)).getD i75.toNat drcd).value, ((x73.set i75.toNat (⟨i74, (x73.getD i75.toNat drcd).node, (x73.getD i75.toNat drcd).value, (x73.getD i75.toNat drcd).fin⟩ : Rcd)).getD i75.toNat drcd).fin⟩ : Rcd)).set i75.toNat (⟨(((x73.set i75.toNat (⟨i74, (x73.getD i75.toNat drcd).node, (x73.getD i75.toNat drcd).value, (x73.getD i75.toNat drcd).fin⟩ : Rcd)).set i75.toNat (⟨((x73.set i75.toNat (⟨i74, (x73.getD i75.toNat drcd).node, (x73.getD i75.toNat drcd).value, (x73.getD i75.toNat drcd).fin⟩ : Rcd)).getD i75.toNat drcd).who, (w64 (i74 + 1)), ((x73.set i75.toNat (⟨i74, (x73.getD i75.toNat drcd).node, (x73.getD i75.toNat drcd).value, (x73.getD i75.toNat drcd).fin⟩ : Rcd)).getD i75.toNat drcd).value, ((x73.set i75.toNat (⟨i74, (x73.getD i75.toNat drcd).node, (x73.getD i75.toNat drcd).value, (x73.getD i75.toNat drcd).fin⟩ : Rcd)).getD i75.toNat drcd).fin⟩ : Rcd)).getD i75.toNat drcd).who, (((x73.set i75.toNat (⟨i74, (x73.getD i75.toNat drcd).node, (x73.getD i75.toNat drcd).value, (x73.getD i75.toNat drcd).fin⟩ : Rcd)).set i75.toNat (⟨((x73.set i75.toNat (⟨i74, (x73.getD i75.toNat drcd).node, (x73.getD i75.toNat drcd).value, (x73.getD i75.toNat drcd).fin⟩ : Rcd)).getD i75.toNat drcd).who, (w64 (i74 + 1)), ((x73.set i75.toNat (⟨i74, (x73.getD i75.toNat drcd).node, (x73.getD i75.toNat drcd).value, (x73.getD i75.toNat drcd).fin⟩ : Rcd)).getD i75.toNat drcd).value, ((x73.set i75.toNat (⟨i74, (x73.getD i75.toNat drcd).node, (x73.getD i75.toNat drcd).value, (x73.getD i75.toNat drcd).fin⟩ : Rcd)).getD i75.toNat drcd).fin⟩ : Rcd)).getD i75.toNat drcd).node, (w64 ((w64 (i74 + 1)) + 1)), (((x73.set i75.toNat (⟨i74, (x73.getD i75.toNat drcd).node, (x73.getD i75.toNat drcd).value, (x73.getD i75.toNat drcd).fin⟩ : Rcd)).set i75.toNat (⟨((x73.set i75.toNat (⟨i74, (x73.getD i75.toNat drcd).node, (x73.getD i75.toNat drcd).value, (x73.getD i75.toNat drcd).fin⟩ : Rcd)).getD i75.toNat drcd).who, (w64 (i74 + 1)), ((x73.set i75.toNat (⟨i74, (x73.getD i75.toNat drcd).node, (x73.getD i75.toNat drcd).value, (x73.getD i75.toNat drcd).fin⟩ : Rcd)).getD i75.toNat drcd).value, ((x73.set i75.toNat (⟨i74, (x73.getD i75.toNat drcd).node, (x73.getD i75.toNat drcd).value, (x73.getD i75.toNat drcd).fin⟩ : Rcd)).getD i75.toNat drcd).fin⟩ : Rcd)).getD i75.toNat drcd).fin⟩ : Rcd)) true]⟩ (by kernel_rfl) ⟨hg100, trivial, trivial⟩ ?_
      refine WO_nil rfl ?_
      refine thenS_n ?_
      refine W_seq ?_
      refine W_region ?_
      refine WO_step 3 [0] [0, 1, 5] (True ∧ True) ⟨[(0, .one (.e (.sl 0 0 k2))), (1, I (w64 ((w64 ((w64 (i74 + 1)) + 1)) + 1))), (5, I i75)], [.row .rcd (((x73.set i75.toNat (⟨i74, (x73.getD i75.toNat drcd).node, (x73.getD i75.toNat drcd).value, (x73.getD i75.toNat drcd).fin⟩ : Rcd)).set i75.toNat (⟨((x73.set i75.toNat (⟨i74, (x73.getD i75.toNat drcd).node, (x73.getD i75.toNat drcd).value, (x73.getD i75.toNat drcd).fin⟩ : Rcd)).getD i75.toNat drcd).who, (w64 (i74 + 1)), ((x73.set i75.toNat (⟨i74, (x73.getD i75.toNat drcd).node, (x73.getD i75.toNat drcd).value, (x73.getD i75.toNat drcd).fin⟩ : Rcd)).getD i75.toNat drcd).value, ((x73.set i75.toNat (⟨i74, (x73.getD i75.toNat drcd).node, (x73.getD i75.toNat drcd).value, (x73.getD i75.toNat drcd).fin⟩ : Rcd)).getD i75.toNat drcd).fin⟩ : Rcd)).set i75.toNat (⟨(((x73.set i75.toNat (⟨i74, (x73.getD i75.toNat drcd).node, (x73.getD i75.toNat drcd).value, (x73.getD i75.toNat drcd).fin⟩ : Rcd)).set i75.toNat (⟨((x73.set i75.toNat (⟨i74, (x73.getD i75.toNat drcd).node, (x73.getD i75.toNat drcd).value, (x73.getD i75.toNat drcd).fin⟩ : Rcd)).getD i75.toNat drcd).who, (w64 (i74 + 1)), ((x73.set i75.toNat (⟨i74, (x73.getD i75.toNat drcd).node, (x73.getD i75.toNat drcd).value, (x73.getD i75.toNat drcd).fin⟩ : Rcd)).getD i75.toNat drcd).value, ((x73.set i75.toNat (⟨i74, (x73.getD i75.toNat drcd).node, (x73.getD i75.toNat drcd).value, (x73.getD i75.toNat drcd).fin⟩ : Rcd)).getD i75.toNat drcd).fin⟩ : Rcd)).getD i75.toNat drcd).who, (((x73.set i75.toNat (⟨i74, (x73.getD i75.toNat drcd).node, (x73.getD i75.toNat drcd).value, (x73.getD i75.toNat drcd).fin⟩ : Rcd)).set i75.toNat (⟨((x73.set i75.toNat (⟨i74, (x73.getD i75.toNat drcd).node, (x73.getD i75.toNat drcd).value, (x73.getD i75.toNat drcd).fin⟩ : Rcd)).getD i75.toNat drcd).who, (w64 (i74 + 1)), ((x73.set i75.toNat (⟨i74, (x73.getD i75.toNat drcd).node, (x73.getD i75.toNat drcd).value, (x73.getD i75.toNat drcd).fin⟩ : Rcd)).getD i75.toNat drcd).value, ((x73.set i75.toNat (⟨i74, (x73.getD i75.toNat drcd).node, (x73.getD i75.toNat drcd).value, (x73.getD i75.toNat drcd).fin⟩ : Rcd)).getD i75.toNat drcd).fin⟩ : Rcd)).getD i75.toNat drcd).node, (w64 ((w64 (i74 + 1)) + 1)), (((x73.set i75.toNat (⟨i74, (x73.getD i75.toNat drcd).node, (x73.getD i75.toNat drcd).value, (x73.getD i75.toNat drcd).fin⟩ : Rcd)).set i75.toNat (⟨((x73.set i75.toNat (⟨i74, (x73.getD i75.toNat drcd).node, (x73.getD i75.toNat drcd).value, (x73.getD i75.toNat drcd).fin⟩ : Rcd)).getD i75.toNat drcd).who, (w64 (i74 + 1)), ((x73.set i75.toNat (⟨i74, (x73.getD i75.toNat drcd).node, (x73.getD i75.toNat drcd).value, (x73.getD i75.toNat drcd).fin⟩ : Rcd)).getD i75.toNat drcd).value, ((x73.set i75.toNat (⟨i74, (x73.getD i75.toNat drcd).node, (x73.getD i75.toNat drcd).value, (x73.getD i75.toNat drcd).fin⟩ : Rcd)).getD i75.toNat drcd).fin⟩ : Rcd)).getD i75.toNat drcd).fin⟩ : Rcd)) true]⟩ (by kernel_rfl) ⟨trivial, trivial⟩ ?_
      refine WO_nil rfl ?_
      refine thenS_n ?_
      refine W_seq ?_
      refine W_region ?_
      refine guardO_e h (fun hg101 h => ?_)
      refine WO_step 8 [0] [0, 1, 5] (((3 : Int) ≠ 0) ∧ (True ∧ ((0 ≤ i75 ∧ i75 < ((k2 : Nat) : Int)) ∧ (True ∧ True)))) ⟨[(0, .one (.e (.sl 0 0 k2))), (1, I (w64 ((w64 ((w64 (i74 + 1)) + 1)) + 1))), (5, I i75)], [.row .rcd ((((x73.set i75.toNat (⟨i74, (x73.getD i75.toNat drcd).node, (x73.getD i75.toNat drcd).value, (x73.getD i75.toNat drcd).fin⟩ : Rcd)).set i75.toNat (⟨((x73.set i75.toNat (⟨i74, (x73.getD i75.toNat drcd).node, (x73.getD i75.toNat drcd).value, (x73.getD i75.toNat drcd).fin⟩ : Rcd)).getD i75.toNat drcd).who, (w64 (i74 + 1)), ((x73.set i75.toNat (⟨i74, (x73.getD i75.toNat drcd).node, (x73.getD i75.toNat drcd).value, (x73.getD i75.toNat drcd).fin⟩ : Rcd)).getD i75.toNat drcd).value, ((x73.set i75.toNat (⟨i74, (x73.getD i75.toNat drcd).node, (x73.getD i75.toNat drcd).value, (x73.getD i75.toNat drcd).fin⟩ : Rcd)).getD i75.toNat drcd).fin⟩ : Rcd)).set i75.toNat (⟨(((x73.set i75.toNat (⟨i74, (x73.getD i75.toNat drcd).node, (x73.getD i75.toNat drcd).value, (x73.getD i75.toNat drcd).fin⟩ : Rcd)).set i75.toNat (⟨((x73.set i75.toNat (⟨i74, (x73.getD i75.toNat drcd).node, (x73.getD i75.toNat drcd).value, (x73.getD i75.toNat drcd).fin⟩ : Rcd)).getD i75.toNat drcd).who, (w64 (i74 + 1)), ((x73.set i75.toNat (⟨i74, (x73.getD i75.toNat drcd).node, (x73.getD i75.toNat drcd).value, (x73.getD i75.toNat drcd).fin⟩ : Rcd)).getD i75.toNat drcd).value, ((x73.set i75.toNat (⟨i74, (x73.getD i75.toNat drcd).node, (x73.getD i75.toNat drcd).value, (x73.getD i75.toNat drcd).fin⟩ : Rcd)).getD i75.toNat drcd).fin⟩ : Rcd)).getD i75.toNat drcd).who, (((x73.set i75.toNat (⟨i74, (x73.getD i75.toNat drcd).node, (x73.getD i75.toNat drcd).value, (x73.getD i75.toNat drcd).fin⟩ : Rcd)).set i75.toNat (⟨((x73.set i75.toNat (⟨i74, (x73.getD i75.toNat drcd).node, (x73.getD i75.toNat drcd).value, (x73.getD i75.toNat drcd).fin⟩ : Rcd)).getD i75.toNat drcd).who, (w64 (i74 + 1)), ((x73.set i75.toNat (⟨i74, (x73.getD i75.toNat drcd).node, (x73.getD i75.toNat drcd).value, (x73.getD i75.toNat drcd).fin⟩ : Rcd)).getD i75.toNat drcd).value, ((x73.set i75.toNat (⟨i74, (x73.getD i75.toNat drcd).node, (x73.getD i75.toNat drcd).value, (x73.getD i75.toNat drcd).fin⟩ : Rcd)).getD i75.toNat drcd).fin⟩ : Rcd)).getD i75.toNat drcd).node, (w64 ((w64 (i74 + 1)) + 1)), (((x73.set i75.toNat (⟨i74, (x73.getD i75.toNat drcd).node, (x73.getD i75.toNat drcd).value, (x73.getD i75.toNat drcd).fin⟩ : Rcd)).set i75.toNat (⟨((x73.set i75.toNat (⟨i74, (x73.getD i75.toNat drcd).node, (x73.getD i75.toNat drcd).value, (x73.getD i75.toNat drcd).fin⟩ : Rcd)).getD i75.toNat drcd).who, (w64 (i74 + 1)), ((x73.set i75.toNat (⟨i74, (x73.getD i75.toNat drcd).node, (x73.getD i75.toNat drcd).value, (x73.getD i75.toNat drcd).fin⟩ : Rcd)).getD i75.toNat drcd).value, ((x73.set i75.toNat (⟨i74, (x73.getD i75.toNat drcd).node, (x73.getD i75.toNat drcd).value, (x73.getD i75.toNat drcd).fin⟩ : Rcd)).getD i75.toNat drcd).fin⟩ : Rcd)).getD i75.toNat drcd).fin⟩ : Rcd)).set i75.toNat (⟨((((x73.set i75.toNat (⟨i74, (x73.getD i75.toNat drcd).node, (x73.getD i75.toNat drcd).value, (x73.getD i75.toNat drcd).fin⟩ : Rcd)).set i75.toNat (⟨((x73.set i75.toNat (⟨i74, (x73.getD i75.toNat drcd).node, (x73.getD i75.toNat drcd).value, (x73.getD i75.toNat drcd).fin⟩ : Rcd)).getD i75.toNat drcd).who, (w64 (i74 + 1)), ((x73.set i75.toNat (⟨i74, (x73.getD i75.toNat drcd).node, (x73.getD i75.toNat drcd).value, (x73.getD i75.toNat drcd).fin⟩ : Rcd)).getD i75.toNat drcd).value, ((x73.set i75.toNat (⟨i74, (x73.getD i75.toNat drcd).node, (x73.getD i75.toNat drcd).value, (x73.getD i75.toNat drcd).fin⟩ : Rcd)).getD i75.toNat drcd).fin⟩ : Rcd)).set i75.toNat (⟨(((x73.set i75.toNat (⟨i74, (x73.getD i75.toNat drcd).node, (x73.getD i75.toNat drcd).value, (x73.getD i75.toNat drcd).fin⟩ : Rcd)).set i75.toNat (⟨((x73.set i75.toNat (⟨i74, (x73.getD i75.toNat drcd).node, (x73.getD i75.toNat drcd).value, (x73.getD i75.toNat drcd).fin⟩ : Rcd)).getD i75.toNat drcd).who, (w64 (i74 + 1)), ((x73.set i75.toNat (⟨i74, (x73.getD i75.toNat drcd).node, (x73.getD i75.toNat drcd).value, (x73.getD i75.toNat drcd).fin⟩ : Rcd)).getD i75.toNat drcd).value, ((x73.set i75.toNat (⟨i74, (x73.getD i75.toNat drcd).node, (x73.getD i75.toNat drcd).value, (x73.getD i75.toNat drcd).fin⟩ : Rcd)).getD i75.toNat drcd).fin⟩ : Rcd)).getD i75.toNat drcd).who, (((x73.set i75.toNat (⟨i74, (x73.getD i75.toNat drcd).node, (x73.getD i75.toNat drcd).value, (x73.getD i75.toNat drcd).fin⟩ : Rcd)).set i75.toNat (⟨((x73.set i75.toNat (⟨i74, (x73.getD i75.toNat drcd).node, (x73.getD i75.toNat drcd).value, (x73.getD i75.toNat drcd).fin⟩ : Rcd)).getD i75.toNat drcd).who, (w64 (i74 + 1)), ((x73.set i75.toNat (⟨i74, (x73.getD i75.toNat drcd).node, (x73.getD i75.toNat drcd).value, (x73.getD i75.toNat drcd).fin⟩ : Rcd)).getD i75.toNat drcd).value, ((x73.set i75.toNat (⟨i74, (x73.getD i75.toNat drcd).node, (x73.getD i75.toNat drcd).value, (x73.getD i75.toNat drcd).fin⟩ : Rcd)).getD i75.toNat drcd).fin⟩ : Rcd)).getD i75.toNat drcd).node, (w64 ((w64 (i74 + 1)) + 1)), (((x73.set i75.toNat (⟨i74, (x73.getD i75.toNat drcd).node, (x73.getD i75.toNat drcd).value, (x73.getD i75.toNat drcd).fin⟩ : Rcd)).set i75.toNat (⟨((x73.set i75.toNat (⟨i74, (x73.getD i75.toNat drcd).node, (x73.getD i75.toNat drcd).value, (x73.getD i75.toNat drcd).fin⟩ : Rcd)).getD i75.toNat drcd).who, (w64 (i74 + 1)), ((x73.set i75.toNat (⟨i74, (x73.getD i75.toNat drcd).node, (x73.getD i75.toNat drcd).value, (x73.getD i75.toNat drcd).fin⟩ : Rcd)).getD i75.toNat drcd).value, ((x73.set i75.toNat (⟨i74, (x73.getD i75.toNat drcd).node, (x73.getD i75.toNat drcd).value, (x73.getD i75.toNat drcd).fin⟩ : Rcd)).getD i75.toNat drcd).fin⟩ : Rcd)).getD i75.toNat drcd).fin⟩ : Rcd)).getD i75.toNat drcd).who, ((((x73.set i75.toNat (⟨i74, (x73.getD i75.toNat drcd).node, (x73.getD i75.toNat drcd).value, (x73.getD i75.toNat drcd).fin⟩ : Rcd)).set i75.toNat (⟨((x73.set i75.toNat (⟨i74, (x73.getD i75.toNat drcd).node, (x73.getD i75.toNat drcd).value, (x73.getD i75.toNat drcd).fin⟩ : Rcd)).getD i75.toNat drcd).who, (w64 (i74 + 1)), ((x73.set i75.toNat (⟨i74, (x73.getD i75.toNat drcd).node, (x73.getD i75.toNat drcd).value, (x73.getD i75.toNat drcd).fin⟩ : Rcd)).getD i75.toNat drcd).value, ((x73.set i75.toNat (⟨i74, (x73.getD i75.toNat drcd).node, (x73.getD i75.toNat drcd).value, (x73.getD i75.toNat drcd).fin⟩ : Rcd)).getD i75.toNat drcd).fin⟩ : Rcd)).set i75.toNat (⟨(((x73.set i75.toNat (⟨i74, (x73.getD i75.toNat drcd).node, (x73.getD i75.toNat drcd).value, (x73.getD i75.toNat drcd).fin⟩ : Rcd)).set i75.toNat (⟨((x73.set i75.toNat (⟨i74, (x73.getD i75.toNat drcd).node, (x73.getD i75.toNat drcd).value, (x73.getD i75.toNat drcd).fin⟩ : Rcd)).getD i75.toNat drcd).who, (w64 (i74 + 1)), ((x73.set i75.toNat (⟨i74, (x73.getD i75.toNat drcd).node, (x73.getD i75.toNat drcd).value, (x73.getD i75.toNat drcd).fin⟩ : Rcd)).getD i75.toNat drcd).value, ((x73.set i75.toNat (⟨i74, (x73.getD i75.toNat drcd).node, (x73.getD i75.toNat drcd).value, (x73.getD i75.toNat drcd).fin⟩ : Rcd)).getD i75.toNat drcd).fin⟩ : Rcd)).getD i75.toNat drcd).who, (((x73.set i75.toNat (⟨i74, (x73.getD i75.toNat drcd).node, (x73.getD i75.toNat drcd).value, (x73.getD i75.toNat drcd).fin⟩ : Rcd)).set i75.toNat (⟨((x73.set i75.toNat (⟨i74, (x73.getD i75.toNat drcd).node, (x73.getD i75.toNat drcd).value, (x73.getD i75.toNat drcd).fin⟩ : Rcd)).getD i75.toNat drcd).who, (w64 (i74 + 1)), ((x73.set i75.toNat (⟨i74, (x73.getD i75.toNat drcd).node, (x73.getD i75.toNat drcd).value, (x73.getD i75.toNat drcd).fin⟩ : Rcd)).getD i75.toNat drcd).value, ((x73.set i75.toNat (⟨i74, (x73.getD i75.toNat drcd).node, (x73.getD i75.toNat drcd).value, (x73.getD i75.toNat drcd).fin⟩ : Rcd)).getD i75.toNat drcd).fin⟩ : Rcd)).getD i75.toNat drcd).node, (w64 ((w64 (i74 + 1)) + 1)), (((x73.set i75.toNat (⟨i74, (x73.getD i75.toNat drcd).node, (x73.getD i75.toNat drcd).value, (x73.getD i75.toNat drcd).fin⟩ : Rcd)).set i75.toNat (⟨((x73.set i75.toNat (⟨i74, (x73.getD i75.toNat drcd).node, (x73.getD i75.toNat drcd).value, (x73.getD i75.toNat drcd).fin⟩ : Rcd)).getD i75.toNat drcd).who, (w64 (i74 + 1)), ((x73.set i75.toNat (⟨i74, (x73.getD i75.toNat drcd).node, (x73.getD i75.toNat drcd).value, (x73.getD i75.toNat drcd).fin⟩ : Rcd)).getD i75.toNat drcd).value, ((x73.set i75.toNat (⟨i74, (x73.getD i75.toNat drcd).node, (x73.getD i75.toNat drcd).value, (x73.getD i75.toNat drcd).fin⟩ : Rcd)).getD i75.toNat drcd).fin⟩ : Rcd)).getD i75.toNat drcd).fin⟩ : Rcd)).getD i75.toNat drcd).node, ((((x73.set i75.toNat (⟨i74, (x73.getD i75.toNat drcd).node, (x73.getD i75.toNat drcd).value, (x73.getD i75.toNat drcd).fin⟩ : Rcd)).set i75.toNat (⟨((x73.set i75.toNat (⟨i74, (x73.getD i75.toNat drcd).node, (x73.getD i75.toNat drcd).value, (x73.getD i75.toNat drcd).fin⟩ : Rcd)).getD i75.toNat drcd).who, (w64 (i74 + 1)), ((x73.set i75.toNat (⟨i74, (x73.getD i75.toNat drcd).node, (x73.getD i75.toNat drcd).value, (x73.getD i75.toNat drcd).fin⟩ : Rcd)).getD i75.toNat drcd).value, ((x73.set i75.toNat (⟨i74, (x73.getD i75.toNat drcd).node, (x73.getD i75.toNat drcd).value, (x73.getD i75.toNat drcd).fin⟩ : Rcd)).getD i75.toNat drcd).fin⟩ : Rcd)).set i75.toNat (⟨(((x73.set i75.toNat (⟨i74, (x73.getD i75.toNat drcd).node, (x73.getD i75.toNat drcd).value, (x73.getD i75.toNat drcd).fin⟩ : Rcd)).set i75.toNat (⟨((x73.set i75.toNat (⟨i74, (x73.getD i75.toNat drcd).node, (x73.getD i75.toNat drcd).value, (x73.getD i75.toNat drcd).fin⟩ : Rcd)).getD i75.toNat drcd).who, (w64 (i74 + 1)), ((x73.set i75.toNat (⟨i74, (x73.getD i75.toNat drcd).node, (x73.getD i75.toNat drcd).value, (x73.getD i75.toNat drcd).fin⟩ : Rcd)).getD i75.toNat drcd).value, ((x73.set i75.toNat (⟨i74, (x73.getD i75.toNat drcd).node, (x73.getD i75.toNat drcd).value, (x73.getD i75.toNat drcd).fin⟩ : Rcd)).getD i75.toNat drcd).fin⟩ : Rcd)).getD i75.toNat drcd).who, (((x73.set i75.toNat (⟨i74, (x73.getD i75.toNat drcd).node, (x73.getD i75.toNat drcd).value, (x73.getD i75.toNat drcd).fin⟩ : Rcd)).set i75.toNat (⟨((x73.set i75.toNat (⟨i74, (x73.getD i75.toNat drcd).node, (x73.getD i75.toNat drcd).value, (x73.getD i75.toNat drcd).fin⟩ : Rcd)).getD i75.toNat drcd).who, (w64 (i74 + 1)), ((x73.set i75.toNat (⟨i74, (x73.getD i75.toNat drcd).node, (x73.getD i75.toNat drcd).value, (x73.getD i75.toNat drcd).fin⟩ : Rcd)).getD i75.toNat drcd).value, ((x73.set i75.toNat (⟨i74, (x73.getD i75.toNat drcd).node, (x73.getD i75.toNat drcd).value, (x73.getD i75.toNat drcd).fin⟩ : Rcd)).getD i75.toNat drcd).fin⟩ : Rcd)).getD i75.toNat drcd).node, (w64 ((w64 (i74 + 1)) + 1)), (((x73.set i75.toNat (⟨i74, (x73.getD i75.toNat drcd).node, (x73.getD i75.toNat drcd).value, (x73.getD i75.toNat drcd).fin⟩ : Rcd)).set i75.toNat (⟨((x73.set i75.toNat (⟨i74, (x73.getD i75.toNat drcd).node, (x73.getD i75.toNat drcd).value, (x73.getD i75.toNat drcd).fin⟩ : Rcd)).getD i75.toNat drcd).who, (w64 (i74 + 1)), ((x73.set i75.toNat (⟨i74, (x73.getD i75.toNat drcd).node, (x73.getD i75.toNat drcd).value, (x73.getD i75.toNat drcd).fin⟩ : Rcd)).getD i75.toNat drcd).value, ((x73.set i75.toNat (⟨i74, (x73.getD i75.toNat drcd).node, (x73.getD i75.toNat drcd).value, (x73.getD i75.toNat drcd).fin⟩ : Rcd)).getD i75.toNat drcd).fin⟩ : Rcd)).getD i75.toNat drcd).fin⟩ : Rcd)).getD i75.toNat drcd).value, (decide (((w64 ((w64 ((w64 (i74 + 1)) + 1)) + 1)).tmod 3) = 0))⟩ : Rcd)) true]⟩ (by kernel_rfl) ⟨(by decide), trivial, hg101, trivial, trivial⟩ ?_
      refine WO_nil rfl ?_
      refine thenS_n ?_
      refine W_region ?_
      refine WO_step 3 [0] [0, 1, 5] (True ∧ True) ⟨[(0, .one (.e (.sl 0 0 k2))), (1, I (w64 ((w64 ((w64 ((w64 (i74 + 1)) + 1)) + 1)) + 1))), (5, I i75)], [.row .rcd ((((x73.set i75.toNat (⟨i74, (x73.getD i75.toNat drcd).node, (x73.getD i75.toNat drcd).value, (x73.getD i75.toNat drcd).fin⟩ : Rcd)).set i75.toNat (⟨((x73.set i75.toNat (⟨i74, (x73.getD i75.toNat drcd).node, (x73.getD i75.toNat drcd).value, (x73.getD i75.toNat drcd).fin⟩ : Rcd)).getD i75.toNat drcd).who, (w64 (i74 + 1)), ((x73.set i75.toNat (⟨i74, (x73.getD i75.toNat drcd).node, (x73.getD i75.toNat drcd).value, (x73.getD i75.toNat drcd).fin⟩ : Rcd)).getD i75.toNat drcd).value, ((x73.set i75.toNat (⟨i74, (x73.getD i75.toNat drcd).node, (x73.getD i75.toNat drcd).value, (x73.getD i75.toNat drcd).fin⟩ : Rcd)).getD i75.toNat drcd).fin⟩ : Rcd)).set i75.toNat (⟨(((x73.set i75.toNat (⟨i74, (x73.getD i75.toNat drcd).node, (x73.getD i75.toNat drcd).value, (x73.getD i75.toNat drcd).fin⟩ : Rcd)).set i75.toNat (⟨((x73.set i75.toNat (⟨i74, (x73.getD i75.toNat drcd).node, (x73.getD i75.toNat drcd).value, (x73.getD i75.toNat drcd).fin⟩ : Rcd)).getD i75.toNat drcd).who, (w64 (i74 + 1)), ((x73.set i75.toNat (⟨i74, (x73.getD i75.toNat drcd).node, (x73.getD i75.toNat drcd).value, (x73.getD i75.toNat drcd).fin⟩ : Rcd)).getD i75.toNat drcd).value, ((x73.set i75.toNat (⟨i74, (x73.getD i75.toNat drcd).node, (x73.getD i75.toNat drcd).value, (x73.getD i75.toNat drcd).fin⟩ : Rcd)).getD i75.toNat drcd).fin⟩ : Rcd)).getD i75.toNat drcd).who, (((x73.set i75.toNat (⟨i74, (x73.getD i75.toNat drcd).node, (x73.getD i75.toNat drcd).value, (x73.getD i75.toNat drcd).fin⟩ : Rcd)).set i75.toNat (⟨((x73.set i75.toNat (⟨i74, (x73.getD i75.toNat drcd).node, (x73.getD i75.toNat drcd).value, (x73.getD i75.toNat drcd).fin⟩ : Rcd)).getD i75.toNat drcd).who, (w64 (i74 + 1)), ((x73.set i75.toNat (⟨i74, (x73.getD i75.toNat drcd).node, (x73.getD i75.toNat drcd).value, (x73.getD i75.toNat drcd).fin⟩ : Rcd)).getD i75.toNat drcd).value, ((x73.set i75.toNat (⟨i74, (x73.getD i75.toNat drcd).node, (x73.getD i75.toNat drcd).value, (x73.getD i75.toNat drcd).fin⟩ : Rcd)).getD i75.toNat drcd).fin⟩ : Rcd)).getD i75.toNat drcd).node, (w64 ((w64 (i74 + 1)) + 1)), (((x73.set i75.toNat (⟨i74, (x73.getD i75.toNat drcd).node, (x73.getD i75.toNat drcd).value, (x73.getD i75.toNat drcd).fin⟩ : Rcd)).set i75.toNat (⟨((x73.set i75.toNat (⟨i74, (x73.getD i75.toNat drcd).node, (x73.getD i75.toNat drcd).value, (x73.getD i75.toNat drcd).fin⟩ : Rcd)).getD i75.toNat drcd).who, (w64 (i74 + 1)), ((x73.set i75.toNat (⟨i74, (x73.getD i75.toNat drcd).node, (x73.getD i75.toNat drcd).value, (x73.getD i75.toNat drcd).fin⟩ : Rcd)).getD i75.toNat drcd).value, ((x73.set i75.toNat (⟨i74, (x73.getD i75.toNat drcd).node, (x73.getD i75.toNat drcd).value, (x73.getD i75.toNat drcd).fin⟩ : Rcd)).getD i75.toNat drcd).fin⟩ : Rcd)).getD i75.toNat drcd).fin⟩ : Rcd)).set i75.toNat (⟨((((x73.set i75.toNat (⟨i74, (x73.getD i75.toNat drcd).node, (x73.getD i75.toNat drcd).value, (x73.getD i75.toNat drcd).fin⟩ : Rcd)).set i75.toNat (⟨((x73.set i75.toNat (⟨i74, (x73.getD i75.toNat drcd).node, (x73.getD i75.toNat drcd).value, (x73.getD i75.toNat drcd).fin⟩ : Rcd)).getD i75.toNat drcd).who, (w64 (i74 + 1)), ((x73.set i75.toNat (⟨i74, (x73.getD i75.toNat drcd).node, (x73.getD i75.toNat drcd).value, (x73.getD i75.toNat drcd).fin⟩ : Rcd)).getD i75.toNat drcd).value, ((x73.set i75.toNat (⟨i74, (x73.getD i75.toNat drcd).node, (x73.getD i75.toNat drcd).value, (x73.getD i75.toNat drcd).fin⟩ : Rcd)).getD i75.toNat drcd).fin⟩ : Rcd)).set i75.toNat (⟨(((x73.set i75.toNat (⟨i74, (x73.getD i75.toNat drcd).node, (x73.getD i75.toNat drcd).value, (x73.getD i75.toNat drcd).fin⟩ : Rcd)).set i75.toNat (⟨((x73.set i75.toNat (⟨i74, (x73.getD i75.toNat drcd).node, (x73.getD i75.toNat drcd).value, (x73.getD i75.toNat drcd).fin⟩ : Rcd)).getD i75.toNat drcd).who, (w64 (i74 + 1)), ((x73.set i75.toNat (⟨i74, (x73.getD i75.toNat drcd).node, (x73.getD i75.toNat drcd).value, (x73.getD i75.toNat drcd).fin⟩ : Rcd)).getD i75.toNat drcd).value, ((x73.set i75.toNat (⟨i74, (x73.getD i75.toNat drcd).node, (x73.getD i75.toNat drcd).value, (x73.getD i75.toNat drcd).fin⟩ : Rcd)).getD i75.toNat drcd).fin⟩ : Rcd)).getD i75.toNat drcd).who, (((x73.set i75.toNat (⟨i74, (x73.getD i75.toNat drcd).node, (x73.getD i75.toNat drcd).value, (x73.getD i75.toNat drcd).fin⟩ : Rcd)).set i75.toNat (⟨((x73.set i75.toNat (⟨i74, (x73.getD i75.toNat drcd).node, (x73.getD i75.toNat drcd).value, (x73.getD i75.toNat drcd).fin⟩ : Rcd)).getD i75.toNat drcd).who, (w64 (i74 + 1)), ((x73.set i75.toNat (⟨i74, (x73.getD i75.toNat drcd).node, (x73.getD i75.toNat drcd).value, (x73.getD i75.toNat drcd).fin⟩ : Rcd)).getD i75.toNat drcd).value, ((x73.set i75.toNat (⟨i74, (x73.getD i75.toNat drcd).node, (x73.getD i75.toNat drcd).value, (x73.getD i75.toNat drcd).fin⟩ : Rcd)).getD i75.toNat drcd).fin⟩ : Rcd)).getD i75.toNat drcd).node, (w64 ((w64 (i74 + 1)) + 1)), (((x73.set i75.toNat (⟨i74, (x73.getD i75.toNat drcd).node, (x73.getD i75.toNat drcd).value, (x73.getD i75.toNat drcd).fin⟩ : Rcd)).set i75.toNat (⟨((x73.set i75.toNat (⟨i74, (x73.getD i75.toNat drcd).node, (x73.getD i75.toNat drcd).value, (x73.getD i75.toNat drcd).fin⟩ : Rcd)).getD i75.toNat drcd).who, (w64 (i74 + 1)), ((x73.set i75.toNat (⟨i74, (x73.getD i75.toNat drcd).node, (x73.getD i75.toNat drcd).value, (x73.getD i75.toNat drcd).fin⟩ : Rcd)).getD i75.toNat drcd).value, ((x73.set i75.toNat (⟨i74, (x73.getD i75.toNat drcd).node, (x73.getD i75.toNat drcd).value, (x73.getD i75.toNat drcd).fin⟩ : Rcd)).getD i75.toNat drcd).fin⟩ : Rcd)).getD i75.toNat drcd).fin⟩ : Rcd)).getD i75.toNat drcd).who, ((((x73.set i75.toNat (⟨i74, (x73.getD i75.toNat drcd).node, (x73.getD i75.toNat drcd).value, (x73.getD i75.toNat drcd).fin⟩ : Rcd)).set i75.toNat (⟨((x73.set i75.toNat (⟨i74, (x73.getD i75.toNat drcd).node, (x73.getD i75.toNat drcd).value, (x73.getD i75.toNat drcd).fin⟩ : Rcd)).getD i75.toNat drcd).who, (w64 (i74 + 1)), ((x73.set i75.toNat (⟨i74, (x73.getD i75.toNat drcd).node, (x73.getD i75.toNat drcd).value, (x73.getD i75.toNat drcd).fin⟩ : Rcd)).getD i75.toNat drcd).value, ((x73.set i75.toNat (⟨i74, (x73.getD i75.toNat drcd).node, (x73.getD i75.toNat drcd).value, (x73.getD i75.toNat drcd).fin⟩ : Rcd)).getD i75.toNat drcd).fin⟩ : Rcd)).set i75.toNat (⟨(((x73.set i75.toNat (⟨i74, (x73.getD i75.toNat drcd).node, (x73.getD i75.toNat drcd).value, (x73.getD i75.toNat drcd).fin⟩ : Rcd)).set i75.toNat (⟨((x73.set i75.toNat (⟨i74, (x73.getD i75.toNat drcd).node, (x73.getD i75.toNat drcd).value, (x73.getD i75.toNat drcd).fin⟩ : Rcd)).getD i75.toNat drcd).who, (w64 (i74 + 1)), ((x73.set i75.toNat (⟨i74, (x73.getD i75.toNat drcd).node, (x73.getD i75.toNat drcd).value, (x73.getD i75.toNat drcd).fin⟩ : Rcd)).getD i75.toNat drcd).value, ((x73.set i75.toNat (⟨i74, (x73.getD i75.toNat drcd).node, (x73.getD i75.toNat drcd).value, (x73.getD i75.toNat drcd).fin⟩ : Rcd)).getD i75.toNat drcd).fin⟩ : Rcd)).getD i75.toNat drcd).who, (((x73.set i75.toNat (⟨i74, (x73.getD i75.toNat drcd).node, (x73.getD i75.toNat drcd).value, (x73.getD i75.toNat drcd).fin⟩ : Rcd)).set i75.toNat (⟨((x73.set i75.toNat (⟨i74, (x73.getD i75.toNat drcd).node, (x73.getD i75.toNat drcd).value, (x73.getD i75.toNat drcd).fin⟩ : Rcd)).getD i75.toNat drcd).who, (w64 (i74 + 1)), ((x73.set i75.toNat (⟨i74, (x73.getD i75.toNat drcd).node, (x73.getD i75.toNat drcd).value, (x73.getD i75.toNat drcd).fin⟩ : Rcd)).getD i75.toNat drcd).value, ((x73.set i75.toNat (⟨i74, (x73.getD i75.toNat drcd).node, (x73.getD i75.toNat drcd).value, (x73.getD i75.toNat drcd).fin⟩ : Rcd)).getD i75.toNat drcd).fin⟩ : Rcd)).getD i75.toNat drcd).node, (w64 ((w64 (i74 + 1)) + 1)), (((x73.set i75.toNat (⟨i74, (x73.getD i75.toNat drcd).node, (x73.getD i75.toNat drcd).value, (x73.getD i75.toNat drcd).fin⟩ : Rcd)).set i75.toNat (⟨((x73.set i75.toNat (⟨i74, (x73.getD i75.toNat drcd).node, (x73.getD i75.toNat drcd).value, (x73.getD i75.toNat drcd).fin⟩ : Rcd)).getD i75.toNat drcd).who, (w64 (i74 + 1)), ((x73.set i75.toNat (⟨i74, (x73.getD i75.toNat drcd).node, (x73.getD i75.toNat drcd).value, (x73.getD i75.toNat drcd).fin⟩ : Rcd)).getD i75.toNat drcd).value, ((x73.set i75.toNat (⟨i74, (x73.getD i75.toNat drcd).node, (x73.getD i75.toNat drcd).value, (x73.getD i75.toNat drcd).fin⟩ : Rcd)).getD i75.toNat drcd).fin⟩ : Rcd)).getD i75.toNat drcd).fin⟩ : Rcd)).getD i75.toNat drcd).node, ((((x73.set i75.toNat (⟨i74, (x73.getD i75.toNat drcd).node, (x73.getD i75.toNat drcd).value, (x73.getD i75.toNat drcd).fin⟩ : Rcd)).set i75.toNat (⟨((x73.set i75.toNat (⟨i74, (x73.getD i75.toNat drcd).node, (x73.getD i75.toNat drcd).value, (x73.getD i75.toNat drcd).fin⟩ : Rcd)).getD i75.toNat drcd).who, (w64 (i74 + 1)), ((x73.set i75.toNat (⟨i74, (x73.getD i75.toNat drcd).node, (x73.getD i75.toNat drcd).value, (x73.getD i75.toNat drcd).fin⟩ : Rcd)).getD i75.toNat drcd).value, ((x73.set i75.toNat (⟨i74, (x73.getD i75.toNat drcd).node, (x73.getD i75.toNat drcd).value, (x73.getD i75.toNat drcd).fin⟩ : Rcd)).getD i75.toNat drcd).fin⟩ : Rcd)).set i75.toNat (⟨(((x73.set i75.toNat (⟨i74, (x73.getD i75.toNat drcd).node, (x73.getD i75.toNat drcd).value, (x73.getD i75.toNat drcd).fin⟩ : Rcd)).set i75.toNat (⟨((x73.set i75.toNat (⟨i74, (x73.getD i75.toNat drcd).node, (x73.getD i75.toNat drcd).value, (x73.getD i75.toNat drcd).fin⟩ : Rcd)).getD i75.toNat drcd).who, (w64 (i74 + 1)), ((x73.set i75.toNat (⟨i74, (x73.getD i75.toNat drcd).node, (x73.getD i75.toNat drcd).value, (x73.getD i75.toNat drcd).fin⟩ : Rcd)).getD i75.toNat drcd).value, ((x73.set i75.toNat (⟨i74, (x73.getD i75.toNat drcd).node, (x73.getD i75.toNat drcd).value, (x73.getD i75.toNat drcd).fin⟩ : Rcd)).getD i75.toNat drcd).fin⟩ : Rcd)).getD i75.toNat drcd).who, (((x73.set i75.toNat (⟨i74, (x73.getD i75.toNat drcd).node, (x73.getD i75.toNat drcd).value, (x73.getD i75.toNat drcd).fin⟩ : Rcd)).set i75.toNat (⟨((x73.set i75.toNat (⟨i74, (x73.getD i75.toNat drcd).node, (x73.getD i75.toNat drcd).value, (x73.getD i75.toNat drcd).fin⟩ : Rcd)).getD i75.toNat drcd).who, (w64 (i74 + 1)), ((x73.set i75.toNat (⟨i74, (x73.getD i75.toNat drcd).node, (x73.getD i75.toNat drcd).value, (x73.getD i75.toNat drcd).fin⟩ : Rcd)).getD i75.toNat drcd).value, ((x73.set i75.toNat (⟨i74, (x73.getD i75.toNat drcd).node, (x73.getD i75.toNat drcd).value, (x73.getD i75.toNat drcd).fin⟩ : Rcd)).getD i75.toNat drcd).fin⟩ : Rcd)).getD i75.toNat drcd).node, (w64 ((w64 (i74 + 1)) + 1)), (((x73.set i75.toNat (⟨i74, (x73.getD i75.toNat drcd).node, (x73.getD i75.toNat drcd).value, (x73.getD i75.toNat drcd).fin⟩ : Rcd)).set i75.toNat (⟨((x73.set i75.toNat (⟨i74, (x73.getD i75.toNat drcd).node, (x73.getD i75.toNat drcd).value, (x73.getD i75.toNat drcd).fin⟩ : Rcd)).getD i75.toNat drcd).who, (w64 (i74 + 1)), ((x73.set i75.toNat (⟨i74, (x73.getD i75.toNat drcd).node, (x73.getD i75.toNat drcd).value, (x73.getD i75.toNat drcd).fin⟩ : Rcd)).getD i75.toNat drcd).value, ((x73.set i75.toNat (⟨i74, (x73.getD i75.toNat drcd).node, (x73.getD i75.toNat drcd).value, (x73.getD i75.toNat drcd).fin⟩ : Rcd)).getD i75.toNat drcd).fin⟩ : Rcd)).getD i75.toNat drcd).fin⟩ : Rcd)).getD i75.toNat drcd).value, (decide (((w64 ((w64 ((w64 (i74 + 1)) + 1)) + 1)).tmod 3) = 0))⟩ : Rcd)) true]⟩ (by kernel_rfl) ⟨trivial, trivial⟩ ?_
      refine WO_nil rfl ?_
      refine blockS_n ?_
      refine thenS_n ?_
      refine W_region ?_
      refine WO_step 3 [0] [0, 1, 5] (True ∧ True) ⟨[(0, .one (.e (.sl 0 0 k2))), (1, I (w64 ((w64 ((w64 ((w64 (i74 + 1)) + 1)) + 1)) + 1))), (5, I (w64 (i75 + 1)))], [.row .rcd ((((x73.set i75.toNat (⟨i74, (x73.getD i75.toNat drcd).node, (x73.getD i75.toNat drcd).value, (x73.getD i75.toNat drcd).fin⟩ : Rcd)).set i75.toNat (⟨((x73.set i75.toNat (⟨i74, (x73.getD i75.toNat drcd).node, (x73.getD i75.toNat drcd).value, (x73.getD i75.toNat drcd).fin⟩ : Rcd)).getD i75.toNat drcd).who, (w64 (i74 + 1)), ((x73.set i75.toNat (⟨i74, (x73.getD i75.toNat drcd).node, (x73.getD i75.toNat drcd).value, (x73.getD i75.toNat drcd).fin⟩ : Rcd)).getD i75.toNat drcd).value, ((x73.set i75.toNat (⟨i74, (x73.getD i75.toNat drcd).node, (x73.getD i75.toNat drcd).value, (x73.getD i75.toNat drcd).fin⟩ : Rcd)).getD i75.toNat drcd).fin⟩ : Rcd)).set i75.toNat (⟨(((x73.set i75.toNat (⟨i74, (x73.getD i75.toNat drcd).node, (x73.getD i75.toNat drcd).value, (x73.getD i75.toNat drcd).fin⟩ : Rcd)).set i75.toNat (⟨((x73.set i75.toNat (⟨i74, (x73.getD i75.toNat drcd).node, (x73.getD i75.toNat drcd).value, (x73.getD i75.toNat drcd).fin⟩ : Rcd)).getD i75.toNat drcd).who, (w64 (i74 + 1)), ((x73.set i75.toNat (⟨i74, (x73.getD i75.toNat drcd).node, (x73.getD i75.toNat drcd).value, (x73.getD i75.toNat drcd).fin⟩ : Rcd)).getD i75.toNat drcd).value, ((x73.set i75.toNat (⟨i74, (x73.getD i75.toNat drcd).node, (x73.getD i75.toNat drcd).value, (x73.getD i75.toNat drcd).fin⟩ : Rcd)).getD i75.toNat drcd).fin⟩ : Rcd)).getD i75.toNat drcd).who, (((x73.set i75.toNat (⟨i74, (x73.getD i75.toNat drcd).node, (x73.getD i75.toNat drcd).value, (x73.getD i75.toNat drcd).fin⟩ : Rcd)).set i75.toNat (⟨((x73.set i75.toNat (⟨i74, (x73.getD i75.toNat drcd).node, (x73.getD i75.toNat drcd).value, (x73.getD i75.toNat drcd).fin⟩ : Rcd)).getD i75.toNat drcd).who, (w64 (i74 + 1)), ((x73.set i75.toNat (⟨i74, (x73.getD i75.toNat drcd).node, (x73.getD i75.toNat drcd).value, (x73.getD i75.toNat drcd).fin⟩ : Rcd)).getD i75.toNat drcd).value, ((x73.set i75.toNat (⟨i74, (x73.getD i75.toNat drcd).node, (x73.getD i75.toNat drcd).value, (x73.getD i75.toNat drcd).fin⟩ : Rcd)).getD i75.toNat drcd).fin⟩ : Rcd)).getD i75.toNat drcd).node, (w64 ((w64 (i74 + 1)) + 1)), (((x73.set i75.toNat (⟨i74, (x73.getD i75.toNat drcd).node, (x73.getD i75.toNat drcd).value, (x73.getD i75.toNat drcd).fin⟩ : Rcd)).set i75.toNat (⟨((x73.set i75.toNat (⟨i74, (x73.getD i75.toNat drcd).node, (x73.getD i75.toNat drcd).value, (x73.getD i75.toNat drcd).fin⟩ : Rcd)).getD i75.toNat drcd).who, (w64 (i74 + 1)), ((x73.set i75.toNat (⟨i74, (x73.getD i75.toNat drcd).node, (x73.getD i75.toNat drcd).value, (x73.getD i75.toNat drcd).fin⟩ : Rcd)).getD i75.toNat drcd).value, ((x73.set i75.toNat (⟨i74, (x73.getD i75.toNat drcd).node, (x73.getD i75.toNat drcd).value, (x73.getD i75.toNat drcd).fin⟩ : Rcd)).getD i75.toNat drcd).fin⟩ : Rcd)).getD i75.toNat drcd).fin⟩ : Rcd)).set i75.toNat (⟨((((x73.set i75.toNat (⟨i74, (x73.getD i75.toNat drcd).node, (x73.getD i75.toNat drcd).value, (x73.getD i75.toNat drcd).fin⟩ : Rcd)).set i75.toNat (⟨((x73.set i75.toNat (⟨i74, (x73.getD i75.toNat drcd).node, (x73.getD i75.toNat drcd).value, (x73.getD i75.toNat drcd).fin⟩ : Rcd)).getD i75.toNat drcd).who, (w64 (i74 + 1)), ((x73.set i75.toNat (⟨i74, (x73.getD i75.toNat drcd).node, (x73.getD i75.toNat drcd).value, (x73.getD i75.toNat drcd).fin⟩ : Rcd)).getD i75.toNat drcd).value, ((x73.set i75.toNat (⟨i74, (x73.getD i75.toNat drcd).node, (x73.getD i75.toNat drcd).value, (x73.getD i75.toNat drcd).fin⟩ : Rcd)).getD i75.toNat drcd).fin⟩ : Rcd)).set i75.toNat (⟨(((x73.set i75.toNat (⟨i74, (x73.getD i75.toNat drcd).node, (x73.getD i75.toNat drcd).value, (x73.getD i75.toNat drcd).fin⟩ : Rcd)).set i75.toNat (⟨((x73.set i75.toNat (⟨i74, (x73.getD i75.toNat drcd).node, (x73.getD i75.toNat drcd).value, (x73.getD i75.toNat drcd).fin⟩ : Rcd)).getD i75.toNat drcd).who, (w64 (i74 + 1)), ((x73.set i75.toNat (⟨i74, (x73.getD i75.toNat drcd).node, (x73.getD i75.toNat drcd).value, (x73.getD i75.toNat drcd).fin⟩ : Rcd)).getD i75.toNat drcd).value, ((x73.set i75.toNat (⟨i74, (x73.getD i75.toNat drcd).node, (x73.getD i75.toNat drcd).value, (x73.getD i75.toNat drcd).fin⟩ : Rcd)).getD i75.toNat drcd).fin⟩ : Rcd)).getD i75.toNat drcd).who, (((x73.set i75.toNat (⟨i74, (x73.getD i75.toNat drcd).node, (x73.getD i75.toNat drcd).value, (x73.getD i75.toNat drcd).fin⟩ : Rcd)).set i75.toNat (⟨((x73.set i75.toNat (⟨i74, (x73.getD i75.toNat drcd).node, (x73.getD i75.toNat drcd).value, (x73.getD i75.toNat drcd).fin⟩ : Rcd)).getD i75.toNat drcd).who, (w64 (i74 + 1)), ((x73.set i75.toNat (⟨i74, (x73.getD i75.toNat drcd).node, (x73.getD i75.toNat drcd).value, (x73.getD i75.toNat drcd).fin⟩ : Rcd)).getD i75.toNat drcd).value, ((x73.set i75.toNat (⟨i74, (x73.getD i75.toNat drcd).node, (x73.getD i75.toNat drcd).value, (x73.getD i75.toNat drcd).fin⟩ : Rcd)).getD i75.toNat drcd).fin⟩ : Rcd)).getD i75.toNat drcd).node, (w64 ((w64 (i74 + 1)) + 1)), (((x73.set i75.toNat (⟨i74, (x73.getD i75.toNat drcd).node, (x73.getD i75.toNat drcd).value, (x73.getD i75.toNat drcd).fin⟩ : Rcd)).set i75.toNat (⟨((x73.set i75.toNat (⟨i74, (x73.getD i75.toNat drcd).node, (x73.getD i75.toNat drcd).value, (x73.getD i75.toNat drcd).fin⟩ : Rcd)).getD i75.toNat drcd).who, (w64 (i74 + 1)), ((x73.set i75.toNat (⟨i74, (x73.getD i75.toNat drcd).node, (x73.getD i75.toNat drcd).value, (x73.getD i75.toNat drcd).fin⟩ : Rcd)).getD i75.toNat drcd).value, ((x73.set i75.toNat (⟨i74, (x73.getD i75.toNat drcd).node, (x73.getD i75.toNat drcd).value, (x73.getD i75.toNat drcd).fin⟩ : Rcd)).getD i75.toNat drcd).fin⟩ : Rcd)).getD i75.toNat drcd).fin⟩ : Rcd)).getD i75.toNat drcd).who, ((((x73.set i75.toNat (⟨i74, (x73.getD i75.toNat drcd).node, (x73.getD i75.toNat drcd).value, (x73.getD i75.toNat drcd).fin⟩ : Rcd)).set i75.toNat (⟨((x73.set i75.toNat (⟨i74, (x73.getD i75.toNat drcd).node, (x73.getD i75.toNat drcd).value, (x73.getD i75.toNat drcd).fin⟩ : Rcd)).getD i75.toNat drcd).who, (w64 (i74 + 1)), ((x73.set i75.toNat (⟨i74, (x73.getD i75.toNat drcd).node, (x73.getD i75.toNat drcd).value, (x73.getD i75.toNat drcd).fin⟩ : Rcd)).getD i75.toNat drcd).value, ((x73.set i75.toNat (⟨i74, (x73.getD i75.toNat drcd).node, (x73.getD i75.toNat drcd).value, (x73.getD i75.toNat drcd).fin⟩ : Rcd)).getD i75.toNat drcd).fin⟩ : Rcd)).set i75.toNat (⟨(((x73.set i75.toNat (⟨i74, (x73.getD i75.toNat drcd).node, (x73.getD i75.toNat drcd).value, (x73.getD i75.toNat drcd).fin⟩ : Rcd)).set i75.toNat (⟨((x73.set i75.toNat (⟨i74, (x73.getD i75.toNat drcd).node, (x73.getD i75.toNat drcd).value, (x73.getD i75.toNat drcd).fin⟩ : Rcd)).getD i75.toNat drcd).who, (w64 (i74 + 1)), ((x73.set i75.toNat (⟨i74, (x73.getD i75.toNat drcd).node, (x73.getD i75.toNat drcd).value, (x73.getD i75.toNat drcd).fin⟩ : Rcd)).getD i75.toNat drcd).value, ((x73.set i75.toNat (⟨i74, (x73.getD i75.toNat drcd).node, (x73.getD i75.toNat drcd).value, (x73.getD i75.toNat drcd).fin⟩ : Rcd)).getD i75.toNat drcd).fin⟩ : Rcd)).getD i75.toNat drcd).who, (((x73.set i75.toNat (⟨i74, (x73.getD i75.toNat drcd).node, (x73.getD i75.toNat drcd).value, (x73.getD i75.toNat drcd).fin⟩ : Rcd)).set i75.toNat (⟨((x73.set i75.toNat (⟨i74, (x73.getD i75.toNat drcd).node, (x73.getD i75.toNat drcd).value, (x73.getD i75.toNat drcd).fin⟩ : Rcd)).getD i75.toNat drcd).who, (w64 (i74 + 1)), ((x73.set i75.toNat (⟨i74, (x73.getD i75.toNat drcd).node, (x73.getD i75.toNat drcd).value, (x73.getD i75.toNat drcd).fin⟩ : Rcd)).getD i75.toNat drcd).value, ((x73.set i75.toNat (⟨i74, (x73.getD i75.toNat drcd).node, (x73.getD i75.toNat drcd).value, (x73.getD i75.toNat drcd).fin⟩ : Rcd)).getD i75.toNat drcd).fin⟩ : Rcd)).getD i75.toNat drcd).node, (w64 ((w64 (i74 + 1)) + 1)), (((x73.set i75.toNat (⟨i74, (x73.getD i75.toNat drcd).node, (x73.getD i75.toNat drcd).value, (x73.getD i75.toNat drcd).fin⟩ : Rcd)).set i75.toNat (⟨((x73.set i75.toNat (⟨i74, (x73.getD i75.toNat drcd).node, (x73.getD i75.toNat drcd).value, (x73.getD i75.toNat drcd).fin⟩ : Rcd)).getD i75.toNat drcd).who, (w64 (i74 + 1)), ((x73.set i75.toNat (⟨i74, (x73.getD i75.toNat drcd).node, (x73.getD i75.toNat drcd).value, (x73.getD i75.toNat drcd).fin⟩ : Rcd)).getD i75.toNat drcd).value, ((x73.set i75.toNat (⟨i74, (x73.getD i75.toNat drcd).node, (x73.getD i75.toNat drcd).value, (x73.getD i75.toNat drcd).fin⟩ : Rcd)).getD i75.toNat drcd).fin⟩ : Rcd)).getD i75.toNat drcd).fin⟩ : Rcd)).getD i75.toNat drcd).node, ((((x73.set i75.toNat (⟨i74, (x73.getD i75.toNat drcd).node, (x73.getD i75.toNat drcd).value, (x73.getD i75.toNat drcd).fin⟩ : Rcd)).set i75.toNat (⟨((x73.set i75.toNat (⟨i74, (x73.getD i75.toNat drcd).node, (x73.getD i75.toNat drcd).value, (x73.getD i75.toNat drcd).fin⟩ : Rcd)).getD i75.toNat drcd).who, (w64 (i74 + 1)), ((x73.set i75.toNat (⟨i74, (x73.getD i75.toNat drcd).node, (x73.getD i75.toNat drcd).value, (x73.getD i75.toNat drcd).fin⟩ : Rcd)).getD i75.toNat drcd).value, ((x73.set i75.toNat (⟨i74, (x73.getD i75.toNat drcd).node, (x73.getD i75.toNat drcd).value, (x73.getD i75.toNat drcd).fin⟩ : Rcd)).getD i75.toNat drcd).fin⟩ : Rcd)).set i75.toNat (⟨(((x73.set i75.toNat (⟨i74, (x73.getD i75.toNat drcd).node, (x73.getD i75.toNat drcd).value, (x73.getD i75.toNat drcd).fin⟩ : Rcd)).set i75.toNat (⟨((x73.set i75.toNat (⟨i74, (x73.getD i75.toNat drcd).node, (x73.getD i75.toNat drcd).value, (x73.getD i75.toNat drcd).fin⟩ : Rcd)).getD i75.toNat drcd).who, (w64 (i74 + 1)), ((x73.set i75.toNat (⟨i74, (x73.getD i75.toNat drcd).node, (x73.getD i75.toNat drcd).value, (x73.getD i75.toNat drcd).fin⟩ : Rcd)).getD i75.toNat drcd).value, ((x73.set i75.toNat (⟨i74, (x73.getD i75.toNat drcd).node, (x73.getD i75.toNat drcd).value, (x73.getD i75.toNat drcd).fin⟩ : Rcd)).getD i75.toNat drcd).fin⟩ : Rcd)).getD i75.toNat drcd).who, (((x73.set i75.toNat (⟨i74, (x73.getD i75.toNat drcd).node, (x73.getD i75.toNat drcd).value, (x73.getD i75.toNat drcd).fin⟩ : Rcd)).set i75.toNat (⟨((x73.set i75.toNat (⟨i74, (x73.getD i75.toNat drcd).node, (x73.getD i75.toNat drcd).value, (x73.getD i75.toNat drcd).fin⟩ : Rcd)).getD i75.toNat drcd).who, (w64 (i74 + 1)), ((x73.set i75.toNat (⟨i74, (x73.getD i75.toNat drcd).node, (x73.getD i75.toNat drcd).value, (x73.getD i75.toNat drcd).fin⟩ : Rcd)).getD i75.toNat drcd).value, ((x73.set i75.toNat (⟨i74, (x73.getD i75.toNat drcd).node, (x73.getD i75.toNat drcd).value, (x73.getD i75.toNat drcd).fin⟩ : Rcd)).getD i75.toNat drcd).fin⟩ : Rcd)).getD i75.toNat drcd).node, (w64 ((w64 (i74 + 1)) + 1)), (((x73.set i75.toNat (⟨i74, (x73.getD i75.toNat drcd).node, (x73.getD i75.toNat drcd).value, (x73.getD i75.toNat drcd).fin⟩ : Rcd)).set i75.toNat (⟨((x73.set i75.toNat (⟨i74, (x73.getD i75.toNat drcd).node, (x73.getD i75.toNat drcd).value, (x73.getD i75.toNat drcd).fin⟩ : Rcd)).getD i75.toNat drcd).who, (w64 (i74 + 1)), ((x73.set i75.toNat (⟨i74, (x73.getD i75.toNat drcd).node, (x73.getD i75.toNat drcd).value, (x73.getD i75.toNat drcd).fin⟩ : Rcd)).getD i75.toNat drcd).value, ((x73.set i75.toNat (⟨i74, (x73.getD i75.toNat drcd).node, (x73.getD i75.toNat drcd).value, (x73.getD i75.toNat drcd).fin⟩ : Rcd)).getD i75.toNat drcd).fin⟩ : Rcd)).getD i75.toNat drcd).fin⟩ : Rcd)).getD i75.toNat drcd).value, (decide (((w64 ((w64 ((w64 (i74 + 1)) + 1)) + 1)).tmod 3) = 0))⟩ : Rcd)) true]⟩ (by kernel_rfl) ⟨trivial, trivial⟩ ?_
      refine WO_nil rfl ?_
      refine thenS_n ?_
      exact ih _ _ _ h
    · refine W_sub [0] [1] (st' := ⟨[(1, I i74)], [.row .rcd x73 true]⟩) (by kernel_rfl) ?_
      refine W_exit ?_
      refine thenS_e ?_
      refine thenS_e ?_
      cases h
      exact And.intro rfl rfl

def laws_markRecordS (n : Nat) (x1 : List Rcd) (k2 : Nat) (i3 : Int) : Option ((List Rcd) × Int) :=
 bindO (laws_markRecordS_L1 k2 n x1 i3 0) fun v102 =>
 match v102 with
 | (x89, i90) => (some (x89, i90))


theorem laws_markRecordS_ok (n : Nat) (x1 : List Rcd) (k2 : Nat) (i3 : Int) (x52 : List Rcd) (i53 : Int) (h : laws_markRecordS n x1 k2 i3 = some (x52, i53)) : FOk EE 33 [.one (.e (.sl 0 0 k2)), I i3] [.row .rcd x1 true] (I i53) [.row .rcd x52 true] := by
  unfold laws_markRecordS at h
  refine FOk_of_W 43 1 Try.func33 rfl rfl (Nat.le_of_ble_eq_true rfl) rfl (fun w X θ => ?_)
  refine W_seq ?_
  refine W_region ?_
  refine WO_step 1 [0] [0, 1] True ⟨[(0, .one (.e (.sl 0 0 k2))), (1, I i3)], [.row .rcd x1 true]⟩ (by kernel_rfl) trivial ?_
  refine WO_nil rfl ?_
  refine thenS_n ?_
  refine W_seq ?_
  refine W_seq ?_
  refine W_region ?_
  refine WO_step 1 [0] [0, 1, 5] True ⟨[(0, .one (.e (.sl 0 0 k2))), (1, I i3), (5, I 0)], [.row .rcd x1 true]⟩ (by kernel_rfl) trivial ?_
  refine WO_nil rfl ?_
  refine thenS_n ?_
  refine W_block ?_
  refine W_loop ?_
  refine bindO_e h (fun v102 hv102 h => ?_)
  refine WL_cut (laws_markRecordS_L1_ok w X θ k2 v102 n x1 i3 0 hv102) ?_
  obtain ⟨x89, i90⟩ := v102
  rintro _ _ ⟨rfl, rfl⟩
  refine blockS_y ?_
  refine thenS_n ?_
  refine W_seq ?_
  refine W_region ?_
  refine WO_step 2 [0] [4] True ⟨[(4, I i90)], [.row .rcd x89 true]⟩ (by kernel_rfl) trivial ?_
  refine WO_nil rfl ?_
  refine thenS_n ?_
  refine W_ret ?_
  cases h
  exact ⟨[0], True, by kernel_rfl, trivial⟩

/- laws.heldRecordS -/
def laws_heldRecordS_L1 (x1 : List Rcd) : Nat → Int → Int → Option ((Unit) ⊕ (Int))
| 0, _, _ => none
| n + 1, i126, i127 =>
 iteO (decide (i127 < ((x1.length : Nat) : Int)))
 (guardO (0 ≤ i127 ∧ i127 < ((x1.length : Nat) : Int)) <|
 iteO (!decide (((x1.getD i127.toNat drcd).who) = i126))
 (some (.inl ()))
 (guardO (0 ≤ i127 ∧ i127 < ((x1.length : Nat) : Int)) <|
 iteO (!decide (((x1.getD i127.toNat drcd).node) = (w64 (i126 + 1))))
 (some (.inl ()))
 (guardO (0 ≤ i127 ∧ i127 < ((x1.length : Nat) : Int)) <|
 iteO (!decide (((x1.getD i127.toNat drcd).value) = (w64 ((w64 (i126 + 1)) + 1))))
 (some (.inl ()))
 (guardO (0 ≤ i127 ∧ i127 < ((x1.length : Nat) : Int)) <|
 iteO (!(((x1.getD i127.toNat drcd).fin) == (decide (((w64 ((w64 ((w64 (i126 + 1)) + 1)) + 1)).tmod 3) = 0))))
 (some (.inl ()))
 (laws_heldRecordS_L1 x1 n (w64 ((w64 ((w64 ((w64 (i126 + 1)) + 1)) + 1)) + 1)) (w64 (i127 + 1)))))))
 (some (.inr i126))

theorem laws_heldRecordS_L1_ok (w : World) (X : Nat → Prop) (θ : List Loc) (x1 : List Rcd) (v : (Unit) ⊕ (Int)) : ∀ (n : Nat) (i126 : Int) (i127 : Int), laws_heldRecordS_L1 x1 n i126 i127 = some v → WL EE ⟨w, X, θ, 51, 1⟩ (subC [1, 0, 1, 4, 4] (bodyC Try.f38)) (fun (e : Exit) (s : St) => (match v with | (.inl _) => e = .ret ∧ s = ⟨[(4, I (-1))], [.row .rcd x1 false]⟩ | (.inr i156) => e = .exit 0 ∧ s = ⟨[(1, I i156)], [.row .rcd x1 false]⟩ : Prop)) ⟨[(0, .one (.e (.sl 0 0 x1.length))), (1, I i126), (5, I i127)], [.row .rcd x1 false]⟩ := by
  intro n
  induction n with
  | zero => intro _ _ h; exact none_e h
  | succ n ih =>
    intro i126 i127 h
    rw [laws_heldRecordS_L1] at h
    refine WL_round ?_
    refine W_seq ?_
    refine W_seq ?_
    refine W_region ?_
    refine WO_step 4 [0] [0, 1, 5, 9] (True ∧ (True ∧ True)) ⟨[(0, .one (.e (.sl 0 0 x1.length))), (1, I i126), (5, I i127), (9, B (decide (i127 < ((x1.length : Nat) : Int))))], [.row .rcd x1 false]⟩ (by kernel_rfl) ⟨trivial, trivial, trivial⟩ ?_
    refine WO_nil rfl ?_
    refine thenS_n ?_
    refine iteO_e h (fun hb159 h => W_true rfl hb159 ?_) (fun hb159 h => W_false rfl hb159 ?_)
    · refine W_sub [0] [0, 1, 5] (st' := ⟨[(0, .one (.e (.sl 0 0 x1.length))), (1, I i126), (5, I i127)], [.row .rcd x1 false]⟩) (by kernel_rfl) ?_
      refine W_skip ?_
      refine thenS_n ?_
      refine W_seq ?_
      refine W_block ?_
      refine W_seq ?_
      refine W_seq ?_
      refine W_region ?_
      refine guardO_e h (fun hg172 h => ?_)
      refine WO_step 7 [0] [0, 1, 5, 18] ((0 ≤ i127 ∧ i127 < ((x1.length : Nat) : Int)) ∧ (True ∧ (True ∧ True))) ⟨[(0, .one (.e (.sl 0 0 x1.length))), (1, I i126), (5, I i127), (18, B (!decide (((x1.getD i127.toNat drcd).who) = i126)))], [.row .rcd x1 false]⟩ (by kernel_rfl) ⟨hg172, trivial, trivial, trivial⟩ ?_
      refine WO_nil rfl ?_
      refine thenS_n ?_
      refine iteO_e h (fun hb174 h => W_true rfl hb174 ?_) (fun hb174 h => W_false rfl hb174 ?_)
      · refine W_seq ?_
        refine W_region ?_
        refine WO_step 1 [0] [4] True ⟨[(4, I (-1))], [.row .rcd x1 false]⟩ (by kernel_rfl) trivial ?_
        refine WO_nil rfl ?_
        refine thenS_n ?_
        refine W_ret ?_
        refine thenS_r ?_
        refine blockS_r ?_
        refine thenS_r ?_
        refine thenS_r ?_
        cases h
        exact And.intro rfl rfl
      · refine W_sub [0] [0, 1, 5] (st' := ⟨[(0, .one (.e (.sl 0 0 x1.length))), (1, I i126), (5, I i127)], [.row .rcd x1 false]⟩) (by kernel_rfl) ?_
        refine W_skip ?_
        refine thenS_n ?_
        refine W_seq ?_
        refine W_region ?_
        refine WO_step 3 [0] [0, 1, 5] (True ∧ True) ⟨[(0, .one (.e (.sl 0 0 x1.length))), (1, I (w64 (i126 + 1))), (5, I i127)], [.row .rcd x1 false]⟩ (by kernel_rfl) ⟨trivial, trivial⟩ ?_
        refine WO_nil rfl ?_
        refine thenS_n ?_
        refine W_seq ?_
        refine W_seq ?_
        refine W_region ?_
        refine guardO_e h (fun hg175 h => ?_)
        refine WO_step 7 [0] [0, 1, 5, 27] ((0 ≤ i127 ∧ i127 < ((x1.length : Nat) : Int)) ∧ (True ∧ (True ∧ True))) ⟨[(0, .one (.e (.sl 0 0 x1.length))), (1, I (w64 (i126 + 1))), (5, I i127), (27, B (!decide (((x1.getD i127.toNat drcd).node) = (w64 (i126 + 1)))))], [.row .rcd x1 false]⟩ (by kernel_rfl) ⟨hg175, trivial, trivial, trivial⟩ ?_
        refine WO_nil rfl ?_
        refine thenS_n ?_
        refine iteO_e h (fun hb177 h => W_true rfl hb177 ?_) (fun hb177 h => W_false rfl hb177 ?_)
        · refine W_seq ?_
          refine W_region ?_
          refine WO_step 1 [0] [4] True ⟨[(4, I (-1))], [.row .rcd x1 false]⟩ (by kernel_rfl) trivial ?_
          refine WO_nil rfl ?_
          refine thenS_n ?_
          refine W_ret ?_
          refine thenS_r ?_
          refine blockS_r ?_
          refine thenS_r ?_
          refine thenS_r ?_
          cases h
          exact And.intro rfl rfl
        · refine W_sub [0] [0, 1, 5] (st' := ⟨[(0, .one (.e (.sl 0 0 x1.length))), (1, I (w64 (i126 + 1))), (5, I i127)], [.row .rcd x1 false]⟩) (by kernel_rfl) ?_
          refine W_skip ?_
          refine thenS_n ?_
          refine W_seq ?_
          refine W_region ?_
          refine WO_step 3 [0] [0, 1, 5] (True ∧ True) ⟨[(0, .one (.e (.sl 0 0 x1.length))), (1, I (w64 ((w64 (i126 + 1)) + 1))), (5, I i127)], [.row .rcd x1 false]⟩ (by kernel_rfl) ⟨trivial, trivial⟩ ?_
          refine WO_nil rfl ?_
          refine thenS_n ?_
          refine W_seq ?_
          refine W_seq ?_
          refine W_region ?_
          refine guardO_e h (fun hg178 h => ?_)
          refine WO_step 7 [0] [0, 1, 5, 36] ((0 ≤ i127 ∧ i127 < ((x1.length : Nat) : Int)) ∧ (True ∧ (True ∧ True))) ⟨[(0, .one (.e (.sl 0 0 x1.length))), (1, I (w64 ((w64 (i126 + 1)) + 1))), (5, I i127), (36, B (!decide (((x1.getD i127.toNat drcd).value) = (w64 ((w64 (i126 + 1)) + 1)))))], [.row .rcd x1 false]⟩ (by kernel_rfl) ⟨hg178, trivial, trivial, trivial⟩ ?_
          refine WO_nil rfl ?_
          refine thenS_n ?_
          refine iteO_e h (fun hb180 h => W_true rfl hb180 ?_) (fun hb180 h => W_false rfl hb180 ?_)
          · refine W_seq ?_
            refine W_region ?_
            refine WO_step 1 [0] [4] True ⟨[(4, I (-1))], [.row .rcd x1 false]⟩ (by kernel_rfl) trivial ?_
            refine WO_nil rfl ?_
            refine thenS_n ?_
            refine W_ret ?_
            refine thenS_r ?_
            refine blockS_r ?_
            refine thenS_r ?_
            refine thenS_r ?_
            cases h
            exact And.intro rfl rfl
          · refine W_sub [0] [0, 1, 5] (st' := ⟨[(0, .one (.e (.sl 0 0 x1.length))), (1, I (w64 ((w64 (i126 + 1)) + 1))), (5, I i127)], [.row .rcd x1 false]⟩) (by kernel_rfl) ?_
            refine W_skip ?_
            refine thenS_n ?_
            refine W_seq ?_
            refine W_region ?_
            refine WO_step 3 [0] [0, 1, 5] (True ∧ True) ⟨[(0, .one (.e (.sl 0 0 x1.length))), (1, I (w64 ((w64 ((w64 (i126 + 1)) + 1)) + 1))), (5, I i127)], [.row .rcd x1 false]⟩ (by kernel_rfl) ⟨trivial, trivial⟩ ?_
            refine WO_nil rfl ?_
            refine thenS_n ?_
            refine W_seq ?_
            refine W_seq ?_
            refine W_region ?_
            refine guardO_e h (fun hg181 h => ?_)
            refine WO_step 9 [0] [0, 1, 5, 47] ((0 ≤ i127 ∧ i127 < ((x1.length : Nat) : Int)) ∧ (True ∧ (((3 : Int) ≠ 0) ∧ (True ∧ (True ∧ True))))) ⟨[(0, .one (.e (.sl 0 0 x1.length))), (1, I (w64 ((w64 ((w64 (i126 + 1)) + 1)) + 1))), (5, I i127), (47, B (!(((x1.getD i127.toNat drcd).fin) == (decide (((w64 ((w64 ((w64 (i126 + 1)) + 1)) + 1)).tmod 3) = 0)))))], [.row .rcd x1 false]⟩ (by kernel_rfl) ⟨hg181, trivial, (by decide), trivial, trivial, trivial⟩ ?_
            refine WO_nil rfl ?_
            refine thenS_n ?_
            refine iteO_e h (fun hb183 h => W_true rfl hb183 ?_) (fun hb183 h => W_false rfl hb183 ?_)
            · refine W_seq ?_
              refine W_region ?_
              refine WO_step 1 [0] [4] True ⟨[(4, I (-1))], [.row .rcd x1 false]⟩ (by kernel_rfl) trivial ?_
              refine WO_nil rfl ?_
              refine thenS_n ?_
              refine W_ret ?_
              refine thenS_r ?_
              refine blockS_r ?_
              refine thenS_r ?_
              refine thenS_r ?_
              cases h
              exact And.intro rfl rfl
            · refine W_sub [0] [0, 1, 5] (st' := ⟨[(0, .one (.e (.sl 0 0 x1.length))), (1, I (w64 ((w64 ((w64 (i126 + 1)) + 1)) + 1))), (5, I i127)], [.row .rcd x1 false]⟩) (by kernel_rfl) ?_
              refine W_skip ?_
              refine thenS_n ?_
              refine W_region ?_
              refine WO_step 3 [0] [0, 1, 5] (True ∧ True) ⟨[(0, .one (.e (.sl 0 0 x1.length))), (1, I (w64 ((w64 ((w64 ((w64 (i126 + 1)) + 1)) + 1)) + 1))), (5, I i127)], [.row .rcd x1 false]⟩ (by kernel_rfl) ⟨trivial, trivial⟩ ?_
              refine WO_nil rfl ?_
              refine blockS_n ?_
              refine thenS_n ?_
              refine W_region ?_
              refine WO_step 3 [0] [0, 1, 5] (True ∧ True) ⟨[(0, .one (.e (.sl 0 0 x1.length))), (1, I (w64 ((w64 ((w64 ((w64 (i126 + 1)) + 1)) + 1)) + 1))), (5, I (w64 (i127 + 1)))], [.row .rcd x1 false]⟩ (by kernel_rfl) ⟨trivial, trivial⟩ ?_
              refine WO_nil rfl ?_
              refine thenS_n ?_
              exact ih _ _ h
    · refine W_sub [0] [1] (st' := ⟨[(1, I i126)], [.row .rcd x1 false]⟩) (by kernel_rfl) ?_
      refine W_exit ?_
      refine thenS_e ?_
      refine thenS_e ?_
      cases h
      exact And.intro rfl rfl

def laws_heldRecordS (n : Nat) (x1 : List Rcd) (i2 : Int) : Option (Int) :=
 bindO (laws_heldRecordS_L1 x1 n i2 0) fun v184 =>
 match v184 with
 | (.inl _) => (some (-1))
 | (.inr i156) => (some i156)


theorem laws_heldRecordS_ok (n : Nat) (x1 : List Rcd) (i2 : Int) (i93 : Int) (h : laws_heldRecordS n x1 i2 = some i93) : FOk EE 38 [.one (.e (.sl 0 0 x1.length)), I i2] [.row .rcd x1 false] (I i93) [.row .rcd x1 false] := by
  unfold laws_heldRecordS at h
  refine FOk_of_W 51 1 Try.func38 rfl rfl (Nat.le_of_ble_eq_true rfl) rfl (fun w X θ => ?_)
  refine W_seq ?_
  refine W_region ?_
  refine WO_step 1 [0] [0, 1] True ⟨[(0, .one (.e (.sl 0 0 x1.length))), (1, I i2)], [.row .rcd x1 false]⟩ (by kernel_rfl) trivial ?_
  refine WO_nil rfl ?_
  refine thenS_n ?_
  refine W_seq ?_
  refine W_seq ?_
  refine W_region ?_
  refine WO_step 1 [0] [0, 1, 5] True ⟨[(0, .one (.e (.sl 0 0 x1.length))), (1, I i2), (5, I 0)], [.row .rcd x1 false]⟩ (by kernel_rfl) trivial ?_
  refine WO_nil rfl ?_
  refine thenS_n ?_
  refine W_block ?_
  refine W_loop ?_
  refine bindO_e h (fun v184 hv184 h => ?_)
  refine WL_cut (laws_heldRecordS_L1_ok w X θ x1 v184 n i2 0 hv184) ?_
  rcases v184 with _ | i156
  · rintro _ _ ⟨rfl, rfl⟩
    refine blockS_r ?_
    refine thenS_r ?_
    cases h
    exact ⟨[0], True, by kernel_rfl, trivial⟩
  · rintro _ _ ⟨rfl, rfl⟩
    refine blockS_y ?_
    refine thenS_n ?_
    refine W_seq ?_
    refine W_region ?_
    refine WO_step 2 [0] [4] True ⟨[(4, I i156)], [.row .rcd x1 false]⟩ (by kernel_rfl) trivial ?_
    refine WO_nil rfl ?_
    refine thenS_n ?_
    refine W_ret ?_
    cases h
    exact ⟨[0], True, by kernel_rfl, trivial⟩

/- laws.FnExactShortLog -/
def laws_FnExactShortLog (n : Nat) (x1 : List Nod) (x2 : List Rcd) : Option (Bool) :=
 bindO (laws_szNodeS n x1 1048576) fun i87 =>
 iteO (decide (i87 < 0))
 (some true)
 (bindO (laws_szRecordS x2 i87) fun i91 =>
 iteO (decide (i91 < 0))
 (some true)
 (bindO (laws_toNodeS n x1) fun x95 =>
 bindO (laws_toRecordS n x2) fun x97 =>
 bindO (spec_ShortLog n x95 x97) fun x99 =>
 bindO (laws_toNodeS n x1) fun x101 =>
 bindO (laws_toRecordS n x2) fun x103 =>
 bindO (impl_ShortLog n x101 x103) fun x105 =>
 bindO (laws_eqRecordS n x105 x99) fun b107 =>
 iteO (!b107)
 (some false)
 (bindO (laws_toNodeS n x1) fun x111 =>
 bindO (laws_eqNodeS n x101 x111) fun b113 =>
 iteO (!b113)
 (some false)
 (bindO (laws_toRecordS n x2) fun x117 =>
 bindO (laws_eqRecordS n x103 x117) fun b119 =>
 iteO (!b119)
 (some false)
 (bindO (laws_markNodeS n x101 x101.length 1) fun (x123, i124) =>
 guardO (x101.length = x123.length) <|
 bindO (laws_markRecordS n x103 x103.length i124) fun (x127, i128) =>
 guardO (x103.length = x127.length) <|
 bindO (iteO (decide (i128 < 0))
 (some true)
 (bindO (laws_eqRecordS n x105 x99) fun b137 =>
 some (!b137))) fun b134 =>
 iteO b134
 (some false)
 (bindO (laws_markRecordS n x105 x105.length 1) fun (x141, i142) =>
 guardO (x105.length = x141.length) <|
 bindO (laws_heldRecordS n x141 1) fun i145 =>
 iteO (decide (i145 < 0))
 (some false)
 (iteO (!decide (i145 = i142))
 (some false)
 (bindO (laws_toNodeS n x1) fun x151 =>
 bindO (laws_toRecordS n x2) fun x153 =>
 bindO (impl_ShortLog n x151 x153) fun x155 =>
 bindO (laws_eqRecordS n x155 x99) fun b157 =>
 iteO (!b157)
 (some false)
 (bindO (laws_heldRecordS n x141 1) fun i161 =>
 iteO (decide (i161 < 0))
 (some false)
 (iteO (!decide (i161 = i142))
 (some false)
 (some true)))))))))))

theorem laws_FnExactShortLog_ok (n : Nat) (x1 : List Nod) (x2 : List Rcd) (b86 : Bool) (h : laws_FnExactShortLog n x1 x2 = some b86) : FOk EE 11 [.one (.e (.sl 0 0 x1.length)), .one (.e (.sl 1 0 x2.length))] [.row .nod x1 false, .row .rcd x2 false] (B b86) [.row .nod x1 false, .row .rcd x2 false] := by
  unfold laws_FnExactShortLog at h
  refine FOk_of_W 92 2 Try.func11 rfl rfl (Nat.le_of_ble_eq_true rfl) rfl (fun w X θ => ?_)
  refine W_seq ?_
  refine W_region ?_
  refine WO_step 1 [0, 1] [0, 1] True ⟨[(0, .one (.e (.sl 0 0 x1.length))), (1, .one (.e (.sl 1 0 x2.length)))], [.row .nod x1 false, .row .rcd x2 false]⟩ (by kernel_rfl) trivial ?_
  refine WO_nil rfl ?_
  refine thenS_n ?_
  refine W_seq ?_
  refine W_region ?_
  refine WO_step 1 [0, 1] [0, 1, 5] True ⟨[(0, .one (.e (.sl 0 0 x1.length))), (1, .one (.e (.sl 1 0 x2.length))), (5, I 1048576)], [.row .nod x1 false, .row .rcd x2 false]⟩ (by kernel_rfl) trivial ?_
  refine WO_nil rfl ?_
  refine thenS_n ?_
  refine W_seq ?_
  refine W_region ?_
  refine WO_step 2 [0, 1] [0, 1, 14, 15] True ⟨[(0, .one (.e (.sl 0 0 x1.length))), (1, .one (.e (.sl 1 0 x2.length))), (14, .one (.e (.sl 0 0 x1.length))), (15, I 1048576)], [.row .nod x1 false, .row .rcd x2 false]⟩ (by kernel_rfl) trivial ?_
  refine bindO_e h (fun i87 hc88 h => ?_)
  refine WO_call [.ro 0] Try.f26 rfl rfl rfl (by kernel_rfl) rfl rfl (by kernel_rfl) (laws_szNodeS_ok n x1 1048576 i87 hc88) (And.intro (And.intro rfl rfl) (trivial)) rfl ?_
  refine WO_step 1 [0, 1] [0, 1, 5] True ⟨[(0, .one (.e (.sl 0 0 x1.length))), (1, .one (.e (.sl 1 0 x2.length))), (5, I i87)], [.row .nod x1 false, .row .rcd x2 false]⟩ (by kernel_rfl) trivial ?_
  refine WO_nil rfl ?_
  refine thenS_n ?_
  refine W_seq ?_
  refine W_seq ?_
  refine W_region ?_
  refine WO_step 2 [0, 1] [0, 1, 5, 18] (True ∧ True) ⟨[(0, .one (.e (.sl 0 0 x1.length))), (1, .one (.e (.sl 1 0 x2.length))), (5, I i87), (18, B (decide (i87 < 0)))], [.row .nod x1 false, .row .rcd x2 false]⟩ (by kernel_rfl) ⟨trivial, trivial⟩ ?_
  refine WO_nil rfl ?_
  refine thenS_n ?_
  refine iteO_e h (fun hb90 h => W_true rfl hb90 ?_) (fun hb90 h => W_false rfl hb90 ?_)
  · refine W_seq ?_
    refine W_region ?_
    refine WO_step 1 [0, 1] [4] True ⟨[(4, B true)], [.row .nod x1 false, .row .rcd x2 false]⟩ (by kernel_rfl) trivial ?_
    refine WO_nil rfl ?_
    refine thenS_n ?_
    refine W_ret ?_
    refine thenS_r ?_
    cases h
    exact ⟨[0, 1], True, by kernel_rfl, trivial⟩
  · refine W_sub [0, 1] [0, 1, 5] (st' := ⟨[(0, .one (.e (.sl 0 0 x1.length))), (1, .one (.e (.sl 1 0 x2.length))), (5, I i87)], [.row .nod x1 false, .row .rcd x2 false]⟩) (by kernel_rfl) ?_
    refine W_skip ?_
    refine thenS_n ?_
    refine W_seq ?_
    refine W_region ?_
    refine WO_step 2 [0, 1] [0, 1, 19, 20] True ⟨[(0, .one (.e (.sl 0 0 x1.length))), (1, .one (.e (.sl 1 0 x2.length))), (19, .one (.e (.sl 1 0 x2.length))), (20, I i87)], [.row .nod x1 false, .row .rcd x2 false]⟩ (by kernel_rfl) trivial ?_
    refine bindO_e h (fun i91 hc92 h => ?_)
    refine WO_call [.ro 1] Try.f27 rfl rfl rfl (by kernel_rfl) rfl rfl (by kernel_rfl) (laws_szRecordS_ok x2 i87 i91 hc92) (And.intro (And.intro rfl rfl) (trivial)) rfl ?_
    refine WO_step 1 [0, 1] [0, 1, 5] True ⟨[(0, .one (.e (.sl 0 0 x1.length))), (1, .one (.e (.sl 1 0 x2.length))), (5, I i91)], [.row .nod x1 false, .row .rcd x2 false]⟩ (by kernel_rfl) trivial ?_
    refine WO_nil rfl ?_
    refine thenS_n ?_
    refine W_seq ?_
    refine W_seq ?_
    refine W_region ?_
    refine WO_step 2 [0, 1] [0, 1, 23] (True ∧ True) ⟨[(0, .one (.e (.sl 0 0 x1.length))), (1, .one (.e (.sl 1 0 x2.length))), (23, B (decide (i91 < 0)))], [.row .nod x1 false, .row .rcd x2 false]⟩ (by kernel_rfl) ⟨trivial, trivial⟩ ?_
    refine WO_nil rfl ?_
    refine thenS_n ?_
    refine iteO_e h (fun hb94 h => W_true rfl hb94 ?_) (fun hb94 h => W_false rfl hb94 ?_)
    · refine W_seq ?_
      refine W_region ?_
      refine WO_step 1 [0, 1] [4] True ⟨[(4, B true)], [.row .nod x1 false, .row .rcd x2 false]⟩ (by kernel_rfl) trivial ?_
      refine WO_nil rfl ?_
      refine thenS_n ?_
      refine W_ret ?_
      refine thenS_r ?_
      cases h
      exact ⟨[0, 1], True, by kernel_rfl, trivial⟩
    · refine W_sub [0, 1] [0, 1] (st' := ⟨[(0, .one (.e (.sl 0 0 x1.length))), (1, .one (.e (.sl 1 0 x2.length)))], [.row .nod x1 false, .row .rcd x2 false]⟩) (by kernel_rfl) ?_
      refine W_skip ?_
      refine thenS_n ?_
      refine W_seq ?_
      refine W_region ?_
      refine WO_step 1 [0, 1] [0, 1, 24] True ⟨[(0, .one (.e (.sl 0 0 x1.length))), (1, .one (.e (.sl 1 0 x2.length))), (24, .one (.e (.sl 0 0 x1.length)))], [.row .nod x1 false, .row .rcd x2 false]⟩ (by kernel_rfl) trivial ?_
      refine bindO_e h (fun x95 hc96 h => ?_)
      refine WO_call [.ro 0] Try.f28 rfl rfl rfl (by kernel_rfl) rfl rfl (by kernel_rfl) (laws_toNodeS_ok n x1 x95 hc96) (And.intro (And.intro rfl rfl) (trivial)) rfl ?_
      refine WO_step 1 [0, 1, 2] [0, 1, 25, 26] True ⟨[(0, .one (.e (.sl 0 0 x1.length))), (1, .one (.e (.sl 1 0 x2.length))), (25, .one (.e (.sl 2 0 x95.length))), (26, .one (.e (.sl 1 0 x2.length)))], [.row .nod x1 false, .row .rcd x2 false, .row .nod x95 true]⟩ (by kernel_rfl) trivial ?_
      refine bindO_e h (fun x97 hc98 h => ?_)
      refine WO_call [.ro 1] Try.f29 rfl rfl rfl (by kernel_rfl) rfl rfl (by kernel_rfl) (laws_toRecordS_ok n x2 x97 hc98) (And.intro (And.intro rfl rfl) (trivial)) rfl ?_
      refine WO_sub [0, 1, 2, 3] [0, 1, 25, 27] (st' := ⟨[(0, .one (.e (.sl 0 0 x1.length))), (1, .one (.e (.sl 1 0 x2.length))), (25, .one (.e (.sl 2 0 x95.length))), (27, .one (.e (.sl 3 0 x97.length)))], [.row .nod x1 false, .row .rcd x2 false, .row .nod x95 true, .row .rcd x97 true]⟩) (by kernel_rfl) ?_
      refine bindO_e h (fun x99 hc100 h => ?_)
      refine WO_call [.ro 2, .ro 3] Try.f25 rfl rfl rfl (by kernel_rfl) rfl rfl (by kernel_rfl) (spec_ShortLog_ok n x95 x97 x99 hc100) (And.intro (And.intro rfl rfl) (And.intro (And.intro rfl rfl) (trivial))) rfl ?_
      refine WO_step 1 [0, 1, 4] [0, 1, 6] True ⟨[(0, .one (.e (.sl 0 0 x1.length))), (1, .one (.e (.sl 1 0 x2.length))), (6, .one (.e (.sl 2 0 x99.length)))], [.row .nod x1 false, .row .rcd x2 false, .row .rcd x99 true]⟩ (by kernel_rfl) trivial ?_
      refine WO_nil rfl ?_
      refine thenS_n ?_
      refine W_seq ?_
      refine W_region ?_
      refine WO_step 1 [0, 1, 2] [0, 1, 6, 29] True ⟨[(0, .one (.e (.sl 0 0 x1.length))), (1, .one (.e (.sl 1 0 x2.length))), (6, .one (.e (.sl 2 0 x99.length))), (29, .one (.e (.sl 0 0 x1.length)))], [.row .nod x1 false, .row .rcd x2 false, .row .rcd x99 true]⟩ (by kernel_rfl) trivial ?_
      refine bindO_e h (fun x101 hc102 h => ?_)
      refine WO_call [.ro 0] Try.f28 rfl rfl rfl (by kernel_rfl) rfl rfl (by kernel_rfl) (laws_toNodeS_ok n x1 x101 hc102) (And.intro (And.intro rfl rfl) (trivial)) rfl ?_
      refine WO_step 1 [0, 1, 2, 3] [0, 1, 6, 7] True ⟨[(0, .one (.e (.sl 0 0 x1.length))), (1, .one (.e (.sl 1 0 x2.length))), (6, .one (.e (.sl 2 0 x99.length))), (7, .one (.e (.sl 3 0 x101.length)))], [.row .nod x1 false, .row .rcd x2 false, .row .rcd x99 true, .row .nod x101 true]⟩ (by kernel_rfl) trivial ?_
      refine WO_nil rfl ?_
      refine thenS_n ?_
      refine W_seq ?_
      refine W_region ?_
      refine WO_step 1 [0, 1, 2, 3] [0, 1, 6, 7, 31] True ⟨[(0, .one (.e (.sl 0 0 x1.length))), (1, .one (.e (.sl 1 0 x2.length))), (6, .one (.e (.sl 2 0 x99.length))), (7, .one (.e (.sl 3 0 x101.length))), (31, .one (.e (.sl 1 0 x2.length)))], [.row .nod x1 false, .row .rcd x2 false, .row .rcd x99 true, .row .nod x101 true]⟩ (by kernel_rfl) trivial ?_
      refine bindO_e h (fun x103 hc104 h => ?_)
      refine WO_call [.ro 1] Try.f29 rfl rfl rfl (by kernel_rfl) rfl rfl (by kernel_rfl) (laws_toRecordS_ok n x2 x103 hc104) (And.intro (And.intro rfl rfl) (trivial)) rfl ?_
      refine WO_step 1 [0, 1, 2, 3, 4] [0, 1, 6, 7, 8] True ⟨[(0, .one (.e (.sl 0 0 x1.length))), (1, .one (.e (.sl 1 0 x2.length))), (6, .one (.e (.sl 2 0 x99.length))), (7, .one (.e (.sl 3 0 x101.length))), (8, .one (.e (.sl 4 0 x103.length)))], [.row .nod x1 false, .row .rcd x2 false, .row .rcd x99 true, .row .nod x101 true, .row .rcd x103 true]⟩ (by kernel_rfl) trivial ?_
      refine WO_nil rfl ?_
      refine thenS_n ?_
      refine W_seq ?_
      refine W_region ?_
      refine WO_step 2 [0, 1, 2, 3, 4] [0, 1, 6, 7, 8, 33, 34] True ⟨[(0, .one (.e (.sl 0 0 x1.length))), (1, .one (.e (.sl 1 0 x2.length))), (6, .one (.e (.sl 2 0 x99.length))), (7, .one (.e (.sl 3 0 x101.length))), (8, .one (.e (.sl 4 0 x103.length))), (33, .one (.e (.sl 3 0 x101.length))), (34, .one (.e (.sl 4 0 x103.length)))], [.row .nod x1 false, .row .rcd x2 false, .row .rcd x99 true, .row .nod x101 true, .row .rcd x103 true]⟩ (by kernel_rfl) trivial ?_
      refine bindO_e h (fun x105 hc106 h => ?_)
      refine WO_call [.ro 3, .ro 4] Try.f23 rfl rfl rfl (by kernel_rfl) rfl rfl (by kernel_rfl) (impl_ShortLog_ok n x101 x103 x105 hc106) (And.intro (And.intro rfl rfl) (And.intro (And.intro rfl rfl) (trivial))) rfl ?_
      refine WO_step 1 [0, 1, 2, 3, 4, 5] [0, 1, 6, 7, 8, 9] True ⟨[(0, .one (.e (.sl 0 0 x1.length))), (1, .one (.e (.sl 1 0 x2.length))), (6, .one (.e (.sl 2 0 x99.length))), (7, .one (.e (.sl 3 0 x101.length))), (8, .one (.e (.sl 4 0 x103.length))), (9, .one (.e (.sl 5 0 x105.length)))], [.row .nod x1 false, .row .rcd x2 false, .row .rcd x99 true, .row .nod x101 true, .row .rcd x103 true, .row .rcd x105 true]⟩ (by kernel_rfl) trivial ?_
      refine WO_nil rfl ?_
      refine thenS_n ?_
      refine W_seq ?_
      refine W_seq ?_
      refine W_region ?_
      refine WO_step 2 [0, 1, 2, 3, 4, 5] [0, 1, 6, 7, 8, 9, 36, 37] True ⟨[(0, .one (.e (.sl 0 0 x1.length))), (1, .one (.e (.sl 1 0 x2.length))), (6, .one (.e (.sl 2 0 x99.length))), (7, .one (.e (.sl 3 0 x101.length))), (8, .one (.e (.sl 4 0 x103.length))), (9, .one (.e (.sl 5 0 x105.length))), (36, .one (.e (.sl 5 0 x105.length))), (37, .one (.e (.sl 2 0 x99.length)))], [.row .nod x1 false, .row .rcd x2 false, .row .rcd x99 true, .row .nod x101 true, .row .rcd x103 true, .row .rcd x105 true]⟩ (by kernel_rfl) trivial ?_
      refine bindO_e h (fun b107 hc108 h => ?_)
      refine WO_call [.ro 5, .ro 2] Try.f31 rfl rfl rfl (by kernel_rfl) rfl rfl (by kernel_rfl) (laws_eqRecordS_ok n x105 x99 b107 hc108) (And.intro (And.intro rfl rfl) (And.intro (And.intro rfl rfl) (trivial))) rfl ?_
      refine WO_step 1 [0, 1, 2, 3, 4, 5] [0, 1, 6, 7, 8, 9, 39] True ⟨[(0, .one (.e (.sl 0 0 x1.length))), (1, .one (.e (.sl 1 0 x2.length))), (6, .one (.e (.sl 2 0 x99.length))), (7, .one (.e (.sl 3 0 x101.length))), (8, .one (.e (.sl 4 0 x103.length))), (9, .one (.e (.sl 5 0 x105.length))), (39, B (!b107))], [.row .nod x1 false, .row .rcd x2 false, .row .rcd x99 true, .row .nod x101 true, .row .rcd x103 true, .row .rcd x105 true]⟩ (by kernel_rfl) trivial ?_
      refine WO_nil rfl ?_
      refine thenS_n ?_
      refine iteO_e h (fun hb110 h => W_true rfl hb110 ?_) (fun hb110 h => W_false rfl hb110 ?_)
      · refine W_seq ?_
        refine W_region ?_
        refine WO_step 1 [0, 1] [4] True ⟨[(4, B false)], [.row .nod x1 false, .row .rcd x2 false]⟩ (by kernel_rfl) trivial ?_
        refine WO_nil rfl ?_
        refine thenS_n ?_
        refine W_ret ?_
        refine thenS_r ?_
        cases h
        exact ⟨[0, 1], True, by kernel_rfl, trivial⟩
      · refine W_sub [0, 1, 2, 3, 4, 5] [0, 1, 6, 7, 8, 9] (st' := ⟨[(0, .one (.e (.sl 0 0 x1.length))), (1, .one (.e (.sl 1 0 x2.length))), (6, .one (.e (.sl 2 0 x99.length))), (7, .one (.e (.sl 3 0 x101.length))), (8, .one (.e (.sl 4 0 x103.length))), (9, .one (.e (.sl 5 0 x105.length)))], [.row .nod x1 false, .row .rcd x2 false, .row .rcd x99 true, .row .nod x101 true, .row .rcd x103 true, .row .rcd x105 true]⟩) (by kernel_rfl) ?_
        refine W_skip ?_
        refine thenS_n ?_
        refine W_seq ?_
        refine W_seq ?_
        refine W_region ?_
        refine WO_step 2 [0, 1, 2, 3, 4, 5] [0, 1, 6, 7, 8, 9, 40, 41] True ⟨[(0, .one (.e (.sl 0 0 x1.length))), (1, .one (.e (.sl 1 0 x2.length))), (6, .one (.e (.sl 2 0 x99.length))), (7, .one (.e (.sl 3 0 x101.length))), (8, .one (.e (.sl 4 0 x103.length))), (9, .one (.e (.sl 5 0 x105.length))), (40, .one (.e (.sl 3 0 x101.length))), (41, .one (.e (.sl 0 0 x1.length)))], [.row .nod x1 false, .row .rcd x2 false, .row .rcd x99 true, .row .nod x101 true, .row .rcd x103 true, .row .rcd x105 true]⟩ (by kernel_rfl) trivial ?_
        refine bindO_e h (fun x111 hc112 h => ?_)
        refine WO_call [.ro 0] Try.f28 rfl rfl rfl (by kernel_rfl) rfl rfl (by kernel_rfl) (laws_toNodeS_ok n x1 x111 hc112) (And.intro (And.intro rfl rfl) (trivial)) rfl ?_
        refine WO_sub [0, 1, 2, 3, 4, 5, 6] [0, 1, 6, 7, 8, 9, 40, 42] (st' := ⟨[(0, .one (.e (.sl 0 0 x1.length))), (1, .one (.e (.sl 1 0 x2.length))), (6, .one (.e (.sl 2 0 x99.length))), (7, .one (.e (.sl 3 0 x101.length))), (8, .one (.e (.sl 4 0 x103.length))), (9, .one (.e (.sl 5 0 x105.length))), (40, .one (.e (.sl 3 0 x101.length))), (42, .one (.e (.sl 6 0 x111.length)))], [.row .nod x1 false, .row .rcd x2 false, .row .rcd x99 true, .row .nod x101 true, .row .rcd x103 true, .row .rcd x105 true, .row .nod x111 true]⟩) (by kernel_rfl) ?_
        refine bindO_e h (fun b113 hc114 h => ?_)
        refine WO_call [.ro 3, .ro 6] Try.f30 rfl rfl rfl (by kernel_rfl) rfl rfl (by kernel_rfl) (laws_eqNodeS_ok n x101 x111 b113 hc114) (And.intro (And.intro rfl rfl) (And.intro (And.intro rfl rfl) (trivial))) rfl ?_
        refine WO_step 1 [0, 1, 2, 3, 4, 5] [0, 1, 6, 7, 8, 9, 44] True ⟨[(0, .one (.e (.sl 0 0 x1.length))), (1, .one (.e (.sl 1 0 x2.length))), (6, .one (.e (.sl 2 0 x99.length))), (7, .one (.e (.sl 3 0 x101.length))), (8, .one (.e (.sl 4 0 x103.length))), (9, .one (.e (.sl 5 0 x105.length))), (44, B (!b113))], [.row .nod x1 false, .row .rcd x2 false, .row .rcd x99 true, .row .nod x101 true, .row .rcd x103 true, .row .rcd x105 true]⟩ (by kernel_rfl) trivial ?_
        refine WO_nil rfl ?_
        refine thenS_n ?_
        refine iteO_e h (fun hb116 h => W_true rfl hb116 ?_) (fun hb116 h => W_false rfl hb116 ?_)
        · refine W_seq ?_
          refine W_region ?_
          refine WO_step 1 [0, 1] [4] True ⟨[(4, B false)], [.row .nod x1 false, .row .rcd x2 false]⟩ (by kernel_rfl) trivial ?_
          refine WO_nil rfl ?_
          refine thenS_n ?_
          refine W_ret ?_
          refine thenS_r ?_
          cases h
          exact ⟨[0, 1], True, by kernel_rfl, trivial⟩
        · refine W_sub [0, 1, 2, 3, 4, 5] [0, 1, 6, 7, 8, 9] (st' := ⟨[(0, .one (.e (.sl 0 0 x1.length))), (1, .one (.e (.sl 1 0 x2.length))), (6, .one (.e (.sl 2 0 x99.length))), (7, .one (.e (.sl 3 0 x101.length))), (8, .one (.e (.sl 4 0 x103.length))), (9, .one (.e (.sl 5 0 x105.length)))], [.row .nod x1 false, .row .rcd x2 false, .row .rcd x99 true, .row .nod x101 true, .row .rcd x103 true, .row .rcd x105 true]⟩) (by kernel_rfl) ?_
          refine W_skip ?_
          refine thenS_n ?_
          refine W_seq ?_
          refine W_seq ?_
          refine W_region ?_
          refine WO_step 2 [0, 1, 2, 3, 4, 5] [0, 1, 6, 7, 8, 9, 45, 46] True ⟨[(0, .one (.e (.sl 0 0 x1.length))), (1, .one (.e (.sl 1 0 x2.length))), (6, .one (.e (.sl 2 0 x99.length))), (7, .one (.e (.sl 3 0 x101.length))), (8, .one (.e (.sl 4 0 x103.length))), (9, .one (.e (.sl 5 0 x105.length))), (45, .one (.e (.sl 4 0 x103.length))), (46, .one (.e (.sl 1 0 x2.length)))], [.row .nod x1 false, .row .rcd x2 false, .row .rcd x99 true, .row .nod x101 true, .row .rcd x103 true, .row .rcd x105 true]⟩ (by kernel_rfl) trivial ?_
          refine bindO_e h (fun x117 hc118 h => ?_)
          refine WO_call [.ro 1] Try.f29 rfl rfl rfl (by kernel_rfl) rfl rfl (by kernel_rfl) (laws_toRecordS_ok n x2 x117 hc118) (And.intro (And.intro rfl rfl) (trivial)) rfl ?_
          refine WO_sub [0, 1, 2, 3, 4, 5, 6] [0, 1, 6, 7, 8, 9, 45, 47] (st' := ⟨[(0, .one (.e (.sl 0 0 x1.length))), (1, .one (.e (.sl 1 0 x2.length))), (6, .one (.e (.sl 2 0 x99.length))), (7, .one (.e (.sl 3 0 x101.length))), (8, .one (.e (.sl 4 0 x103.length))), (9, .one (.e (.sl 5 0 x105.length))), (45, .one (.e (.sl 4 0 x103.length))), (47, .one (.e (.sl 6 0 x117.length)))], [.row .nod x1 false, .row .rcd x2 false, .row .rcd x99 true, .row .nod x101 true, .row .rcd x103 true, .row .rcd x105 true, .row .rcd x117 true]⟩) (by kernel_rfl) ?_
          refine bindO_e h (fun b119 hc120 h => ?_)
          refine WO_call [.ro 4, .ro 6] Try.f31 rfl rfl rfl (by kernel_rfl) rfl rfl (by kernel_rfl) (laws_eqRecordS_ok n x103 x117 b119 hc120) (And.intro (And.intro rfl rfl) (And.intro (And.intro rfl rfl) (trivial))) rfl ?_
          refine WO_step 1 [0, 1, 2, 3, 4, 5] [0, 1, 6, 7, 8, 9, 49] True ⟨[(0, .one (.e (.sl 0 0 x1.length))), (1, .one (.e (.sl 1 0 x2.length))), (6, .one (.e (.sl 2 0 x99.length))), (7, .one (.e (.sl 3 0 x101.length))), (8, .one (.e (.sl 4 0 x103.length))), (9, .one (.e (.sl 5 0 x105.length))), (49, B (!b119))], [.row .nod x1 false, .row .rcd x2 false, .row .rcd x99 true, .row .nod x101 true, .row .rcd x103 true, .row .rcd x105 true]⟩ (by kernel_rfl) trivial ?_
          refine WO_nil rfl ?_
          refine thenS_n ?_
          refine iteO_e h (fun hb122 h => W_true rfl hb122 ?_) (fun hb122 h => W_false rfl hb122 ?_)
          · refine W_seq ?_
            refine W_region ?_
            refine WO_step 1 [0, 1] [4] True ⟨[(4, B false)], [.row .nod x1 false, .row .rcd x2 false]⟩ (by kernel_rfl) trivial ?_
            refine WO_nil rfl ?_
            refine thenS_n ?_
            refine W_ret ?_
            refine thenS_r ?_
            cases h
            exact ⟨[0, 1], True, by kernel_rfl, trivial⟩
          · refine W_sub [0, 1, 2, 3, 4, 5] [0, 1, 6, 7, 8, 9] (st' := ⟨[(0, .one (.e (.sl 0 0 x1.length))), (1, .one (.e (.sl 1 0 x2.length))), (6, .one (.e (.sl 2 0 x99.length))), (7, .one (.e (.sl 3 0 x101.length))), (8, .one (.e (.sl 4 0 x103.length))), (9, .one (.e (.sl 5 0 x105.length)))], [.row .nod x1 false, .row .rcd x2 false, .row .rcd x99 true, .row .nod x101 true, .row .rcd x103 true, .row .rcd x105 true]⟩) (by kernel_rfl) ?_
            refine W_skip ?_
            refine thenS_n ?_
            refine W_seq ?_
            refine W_region ?_
            refine WO_step 1 [0, 1, 2, 3, 4, 5] [0, 1, 6, 7, 8, 9, 10] True ⟨[(0, .one (.e (.sl 0 0 x1.length))), (1, .one (.e (.sl 1 0 x2.length))), (6, .one (.e (.sl 2 0 x99.length))), (7, .one (.e (.sl 3 0 x101.length))), (8, .one (.e (.sl 4 0 x103.length))), (9, .one (.e (.sl 5 0 x105.length))), (10, I 1)], [.row .nod x1 false, .row .rcd x2 false, .row .rcd x99 true, .row .nod x101 true, .row .rcd x103 true, .row .rcd x105 true]⟩ (by kernel_rfl) trivial ?_
            refine WO_nil rfl ?_
            refine thenS_n ?_
            refine W_seq ?_
            refine W_region ?_
            refine WO_step 2 [0, 1, 2, 4, 5, 3] [0, 1, 6, 8, 9, 50, 51] True ⟨[(0, .one (.e (.sl 0 0 x1.length))), (1, .one (.e (.sl 1 0 x2.length))), (6, .one (.e (.sl 2 0 x99.length))), (8, .one (.e (.sl 3 0 x103.length))), (9, .one (.e (.sl 4 0 x105.length))), (50, .one (.e (.sl 5 0 x101.length))), (51, I 1)], [.row .nod x1 false, .row .rcd x2 false, .row .rcd x99 true, .row .rcd x103 true, .row .rcd x105 true, .row .nod x101 true]⟩ (by kernel_rfl) trivial ?_
            refine bindO_e h (fun v169 hc125 h => ?_)
            obtain ⟨x123, i124⟩ := v169
            refine guardO_e h (fun hl126 h => ?_)
            refine WO_call [.own 5] Try.f32 rfl rfl rfl (by kernel_rfl) rfl rfl (by kernel_rfl) (laws_markNodeS_ok n x101 x101.length 1 x123 i124 hc125) (And.intro (And.intro rfl (And.intro rfl hl126)) (trivial)) rfl ?_
            refine WO_sub [0, 1, 2, 3, 4, 5] [0, 1, 6, 8, 9, 50, 51, 52] (st' := ⟨[(0, .one (.e (.sl 0 0 x1.length))), (1, .one (.e (.sl 1 0 x2.length))), (6, .one (.e (.sl 2 0 x99.length))), (8, .one (.e (.sl 3 0 x103.length))), (9, .one (.e (.sl 4 0 x105.length))), (50, .one (.e (.sl 5 0 x101.length))), (51, I 1), (52, I i124)], [.row .nod x1 false, .row .rcd x2 false, .row .rcd x99 true, .row .rcd x103 true, .row .rcd x105 true, .row .nod x123 true]⟩) (by kernel_rfl) ?_
            refine WO_eq (st' := ⟨[(0, .one (.e (.sl 0 0 x1.length))), (1, .one (.e (.sl 1 0 x2.length))), (6, .one (.e (.sl 2 0 x99.length))), (8, .one (.e (.sl 3 0 x103.length))), (9, .one (.e (.sl 4 0 x105.length))), (50, .one (.e (.sl 5 0 x123.length))), (51, I 1), (52, I i124)], [.row .nod x1 false, .row .rcd x2 false, .row .rcd x99 true, .row .rcd x103 true, .row .rcd x105 true, .row .nod x123 true]⟩) (by simp only [hl126]) ?_
            refine WO_step 1 [0, 1, 2, 3, 4] [0, 1, 6, 8, 9, 10] True ⟨[(0, .one (.e (.sl 0 0 x1.length))), (1, .one (.e (.sl 1 0 x2.length))), (6, .one (.e (.sl 2 0 x99.length))), (8, .one (.e (.sl 3 0 x103.length))), (9, .one (.e (.sl 4 0 x105.length))), (10, I i124)], [.row .nod x1 false, .row .rcd x2 false, .row .rcd x99 true, .row .rcd x103 true, .row .rcd x105 true]⟩ (by kernel_rfl) trivial ?_
            refine WO_nil rfl ?_
            refine thenS_n ?_
            refine W_seq ?_
            refine W_region ?_
            refine WO_step 2 [0, 1, 2, 4, 3] [0, 1, 6, 9, 53, 54] True ⟨[(0, .one (.e (.sl 0 0 x1.length))), (1, .one (.e (.sl 1 0 x2.length))), (6, .one (.e (.sl 2 0 x99.length))), (9, .one (.e (.sl 3 0 x105.length))), (53, .one (.e (.sl 4 0 x103.length))), (54, I i124)], [.row .nod x1 false, .row .rcd x2 false, .row .rcd x99 true, .row .rcd x105 true, .row .rcd x103 true]⟩ (by kernel_rfl) trivial ?_
            refine bindO_e h (fun v168 hc129 h => ?_)
            obtain ⟨x127, i128⟩ := v168
            refine guardO_e h (fun hl130 h => ?_)
            refine WO_call [.own 4] Try.f33 rfl rfl rfl (by kernel_rfl) rfl rfl (by kernel_rfl) (laws_markRecordS_ok n x103 x103.length i124 x127 i128 hc129) (And.intro (And.intro rfl (And.intro rfl hl130)) (trivial)) rfl ?_
            refine WO_sub [0, 1, 2, 3, 4] [0, 1, 6, 9, 53, 54, 55] (st' := ⟨[(0, .one (.e (.sl 0 0 x1.length))), (1, .one (.e (.sl 1 0 x2.length))), (6, .one (.e (.sl 2 0 x99.length))), (9, .one (.e (.sl 3 0 x105.length))), (53, .one (.e (.sl 4 0 x103.length))), (54, I i124), (55, I i128)], [.row .nod x1 false, .row .rcd x2 false, .row .rcd x99 true, .row .rcd x105 true, .row .rcd x127 true]⟩) (by kernel_rfl) ?_
            refine WO_eq (st' := ⟨[(0, .one (.e (.sl 0 0 x1.length))), (1, .one (.e (.sl 1 0 x2.length))), (6, .one (.e (.sl 2 0 x99.length))), (9, .one (.e (.sl 3 0 x105.length))), (53, .one (.e (.sl 4 0 x127.length))), (54, I i124), (55, I i128)], [.row .nod x1 false, .row .rcd x2 false, .row .rcd x99 true, .row .rcd x105 true, .row .rcd x127 true]⟩) (by simp only [hl130]) ?_
            refine WO_step 1 [0, 1, 2, 3] [0, 1, 6, 9, 10] True ⟨[(0, .one (.e (.sl 0 0 x1.length))), (1, .one (.e (.sl 1 0 x2.length))), (6, .one (.e (.sl 2 0 x99.length))), (9, .one (.e (.sl 3 0 x105.length))), (10, I i128)], [.row .nod x1 false, .row .rcd x2 false, .row .rcd x99 true, .row .rcd x105 true]⟩ (by kernel_rfl) trivial ?_
            refine WO_nil rfl ?_
            refine thenS_n ?_
            refine W_seq ?_
            refine W_seq ?_
            refine W_region ?_
            refine WO_step 3 [0, 1, 2, 3] [0, 1, 6, 9, 58] (True ∧ True) ⟨[(0, .one (.e (.sl 0 0 x1.length))), (1, .one (.e (.sl 1 0 x2.length))), (6, .one (.e (.sl 2 0 x99.length))), (9, .one (.e (.sl 3 0 x105.length))), (58, B (decide (i128 < 0)))], [.row .nod x1 false, .row .rcd x2 false, .row .rcd x99 true, .row .rcd x105 true]⟩ (by kernel_rfl) ⟨trivial, trivial⟩ ?_
            refine bindO_e h (fun b134 hv135 h => ?_)
            refine WO_thru ⟨[(0, .one (.e (.sl 0 0 x1.length))), (1, .one (.e (.sl 1 0 x2.length))), (6, .one (.e (.sl 2 0 x99.length))), (9, .one (.e (.sl 3 0 x105.length))), (63, B b134)], [.row .nod x1 false, .row .rcd x2 false, .row .rcd x99 true, .row .rcd x105 true]⟩ ?_ ?_
            · refine iteO_e hv135 (fun hb136 hv135 => WO_known 58 true rfl hb136 ?_) (fun hb136 hv135 => WO_known 58 false rfl hb136 ?_)
              · refine WO_step 5 [0, 1, 2, 3] [0, 1, 6, 9, 63] True ⟨[(0, .one (.e (.sl 0 0 x1.length))), (1, .one (.e (.sl 1 0 x2.length))), (6, .one (.e (.sl 2 0 x99.length))), (9, .one (.e (.sl 3 0 x105.length))), (63, B true)], [.row .nod x1 false, .row .rcd x2 false, .row .rcd x99 true, .row .rcd x105 true]⟩ (by kernel_rfl) trivial ?_
                cases hv135
                exact WO_nil rfl ⟨rfl, rfl⟩
              · refine WO_step 2 [0, 1, 2, 3] [0, 1, 6, 9, 58, 59, 60] True ⟨[(0, .one (.e (.sl 0 0 x1.length))), (1, .one (.e (.sl 1 0 x2.length))), (6, .one (.e (.sl 2 0 x99.length))), (9, .one (.e (.sl 3 0 x105.length))), (58, B false), (59, .one (.e (.sl 3 0 x105.length))), (60, .one (.e (.sl 2 0 x99.length)))], [.row .nod x1 false, .row .rcd x2 false, .row .rcd x99 true, .row .rcd x105 true]⟩ (by kernel_rfl) trivial ?_
                refine bindO_e hv135 (fun b137 hc138 hv135 => ?_)
                refine WO_call [.ro 3, .ro 2] Try.f31 rfl rfl rfl (by kernel_rfl) rfl rfl (by kernel_rfl) (laws_eqRecordS_ok n x105 x99 b137 hc138) (And.intro (And.intro rfl rfl) (And.intro (And.intro rfl rfl) (trivial))) rfl ?_
                refine WO_step 2 [0, 1, 2, 3] [0, 1, 6, 9, 63] True ⟨[(0, .one (.e (.sl 0 0 x1.length))), (1, .one (.e (.sl 1 0 x2.length))), (6, .one (.e (.sl 2 0 x99.length))), (9, .one (.e (.sl 3 0 x105.length))), (63, B (!b137))], [.row .nod x1 false, .row .rcd x2 false, .row .rcd x99 true, .row .rcd x105 true]⟩ (by kernel_rfl) trivial ?_
                cases hv135
                exact WO_nil rfl ⟨rfl, rfl⟩
            · refine thenS_n ?_
              refine iteO_e h (fun hb140 h => W_true rfl hb140 ?_) (fun hb140 h => W_false rfl hb140 ?_)
              · refine W_seq ?_
                refine W_region ?_
                refine WO_step 1 [0, 1] [4] True ⟨[(4, B false)], [.row .nod x1 false, .row .rcd x2 false]⟩ (by kernel_rfl) trivial ?_
                refine WO_nil rfl ?_
                refine thenS_n ?_
                refine W_ret ?_
                refine thenS_r ?_
                cases h
                exact ⟨[0, 1], True, by kernel_rfl, trivial⟩
              · refine W_sub [0, 1, 2, 3] [0, 1, 6, 9] (st' := ⟨[(0, .one (.e (.sl 0 0 x1.length))), (1, .one (.e (.sl 1 0 x2.length))), (6, .one (.e (.sl 2 0 x99.length))), (9, .one (.e (.sl 3 0 x105.length)))], [.row .nod x1 false, .row .rcd x2 false, .row .rcd x99 true, .row .rcd x105 true]⟩) (by kernel_rfl) ?_
                refine W_skip ?_
                refine thenS_n ?_
                refine W_seq ?_
                refine W_region ?_
                refine WO_step 1 [0, 1, 2, 3] [0, 1, 6, 9, 11] True ⟨[(0, .one (.e (.sl 0 0 x1.length))), (1, .one (.e (.sl 1 0 x2.length))), (6, .one (.e (.sl 2 0 x99.length))), (9, .one (.e (.sl 3 0 x105.length))), (11, I 1)], [.row .nod x1 false, .row .rcd x2 false, .row .rcd x99 true, .row .rcd x105 true]⟩ (by kernel_rfl) trivial ?_
                refine WO_nil rfl ?_
                refine thenS_n ?_
                refine W_seq ?_
                refine W_region ?_
                refine WO_step 2 [0, 1, 2, 3] [0, 1, 6, 9, 64, 65] True ⟨[(0, .one (.e (.sl 0 0 x1.length))), (1, .one (.e (.sl 1 0 x2.length))), (6, .one (.e (.sl 2 0 x99.length))), (9, .one (.e (.sl 3 0 x105.length))), (64, .one (.e (.sl 3 0 x105.length))), (65, I 1)], [.row .nod x1 false, .row .rcd x2 false, .row .rcd x99 true, .row .rcd x105 true]⟩ (by kernel_rfl) trivial ?_
                refine bindO_e h (fun v167 hc143 h => ?_)
                obtain ⟨x141, i142⟩ := v167
                refine guardO_e h (fun hl144 h => ?_)
                refine WO_call [.own 3] Try.f33 rfl rfl rfl (by kernel_rfl) rfl rfl (by kernel_rfl) (laws_markRecordS_ok n x105 x105.length 1 x141 i142 hc143) (And.intro (And.intro rfl (And.intro rfl hl144)) (trivial)) rfl ?_
                refine WO_sub [0, 1, 2, 3] [0, 1, 6, 9, 64, 65, 66] (st' := ⟨[(0, .one (.e (.sl 0 0 x1.length))), (1, .one (.e (.sl 1 0 x2.length))), (6, .one (.e (.sl 2 0 x99.length))), (9, .one (.e (.sl 3 0 x105.length))), (64, .one (.e (.sl 3 0 x105.length))), (65, I 1), (66, I i142)], [.row .nod x1 false, .row .rcd x2 false, .row .rcd x99 true, .row .rcd x141 true]⟩) (by kernel_rfl) ?_
                refine WO_eq (st' := ⟨[(0, .one (.e (.sl 0 0 x1.length))), (1, .one (.e (.sl 1 0 x2.length))), (6, .one (.e (.sl 2 0 x99.length))), (9, .one (.e (.sl 3 0 x141.length))), (64, .one (.e (.sl 3 0 x141.length))), (65, I 1), (66, I i142)], [.row .nod x1 false, .row .rcd x2 false, .row .rcd x99 true, .row .rcd x141 true]⟩) (by simp only [hl144]) ?_
                refine WO_step 1 [0, 1, 2, 3] [0, 1, 6, 9, 11] True ⟨[(0, .one (.e (.sl 0 0 x1.length))), (1, .one (.e (.sl 1 0 x2.length))), (6, .one (.e (.sl 2 0 x99.length))), (9, .one (.e (.sl 3 0 x141.length))), (11, I i142)], [.row .nod x1 false, .row .rcd x2 false, .row .rcd x99 true, .row .rcd x141 true]⟩ (by kernel_rfl) trivial ?_
                refine WO_nil rfl ?_
                refine thenS_n ?_
                refine W_seq ?_
                refine W_region ?_
                refine WO_step 1 [0, 1, 2, 3] [0, 1, 6, 9, 11, 12] True ⟨[(0, .one (.e (.sl 0 0 x1.length))), (1, .one (.e (.sl 1 0 x2.length))), (6, .one (.e (.sl 2 0 x99.length))), (9, .one (.e (.sl 3 0 x141.length))), (11, I i142), (12, I 1)], [.row .nod x1 false, .row .rcd x2 false, .row .rcd x99 true, .row .rcd x141 true]⟩ (by kernel_rfl) trivial ?_
                refine WO_nil rfl ?_
                refine thenS_n ?_
                refine W_seq ?_
                refine W_region ?_
                refine WO_step 2 [0, 1, 2, 3] [0, 1, 6, 9, 11, 67, 68] True ⟨[(0, .one (.e (.sl 0 0 x1.length))), (1, .one (.e (.sl 1 0 x2.length))), (6, .one (.e (.sl 2 0 x99.length))), (9, .one (.e (.sl 3 0 x141.length))), (11, I i142), (67, .one (.e (.sl 3 0 x141.length))), (68, I 1)], [.row .nod x1 false, .row .rcd x2 false, .row .rcd x99 true, .row .rcd x141 true]⟩ (by kernel_rfl) trivial ?_
                refine bindO_e h (fun i145 hc146 h => ?_)
                refine WO_call [.ro 3] Try.f38 rfl rfl rfl (by kernel_rfl) rfl rfl (by kernel_rfl) (laws_heldRecordS_ok n x141 1 i145 hc146) (And.intro (And.intro rfl rfl) (trivial)) rfl ?_
                refine WO_step 1 [0, 1, 2, 3] [0, 1, 6, 9, 11, 12] True ⟨[(0, .one (.e (.sl 0 0 x1.length))), (1, .one (.e (.sl 1 0 x2.length))), (6, .one (.e (.sl 2 0 x99.length))), (9, .one (.e (.sl 3 0 x141.length))), (11, I i142), (12, I i145)], [.row .nod x1 false, .row .rcd x2 false, .row .rcd x99 true, .row .rcd x141 true]⟩ (by kernel_rfl) trivial ?_
                refine WO_nil rfl ?_
                refine thenS_n ?_
                refine W_seq ?_
                refine W_seq ?_
                refine W_region ?_
                refine WO_step 2 [0, 1, 2, 3] [0, 1, 6, 9, 11, 12, 71] (True ∧ True) ⟨[(0, .one (.e (.sl 0 0 x1.length))), (1, .one (.e (.sl 1 0 x2.length))), (6, .one (.e (.sl 2 0 x99.length))), (9, .one (.e (.sl 3 0 x141.length))), (11, I i142), (12, I i145), (71, B (decide (i145 < 0)))], [.row .nod x1 false, .row .rcd x2 false, .row .rcd x99 true, .row .rcd x141 true]⟩ (by kernel_rfl) ⟨trivial, trivial⟩ ?_
                refine WO_nil rfl ?_
                refine thenS_n ?_
                refine iteO_e h (fun hb148 h => W_true rfl hb148 ?_) (fun hb148 h => W_false rfl hb148 ?_)
                · refine W_seq ?_
                  refine W_region ?_
                  refine WO_step 1 [0, 1] [4] True ⟨[(4, B false)], [.row .nod x1 false, .row .rcd x2 false]⟩ (by kernel_rfl) trivial ?_
                  refine WO_nil rfl ?_
                  refine thenS_n ?_
                  refine W_ret ?_
                  refine thenS_r ?_
                  cases h
                  exact ⟨[0, 1], True, by kernel_rfl, trivial⟩
                · refine W_sub [0, 1, 2, 3] [0, 1, 6, 9, 11, 12] (st' := ⟨[(0, .one (.e (.sl 0 0 x1.length))), (1, .one (.e (.sl 1 0 x2.length))), (6, .one (.e (.sl 2 0 x99.length))), (9, .one (.e (.sl 3 0 x141.length))), (11, I i142), (12, I i145)], [.row .nod x1 false, .row .rcd x2 false, .row .rcd x99 true, .row .rcd x141 true]⟩) (by kernel_rfl) ?_
                  refine W_skip ?_
                  refine thenS_n ?_
                  refine W_seq ?_
                  refine W_seq ?_
                  refine W_region ?_
                  refine WO_step 3 [0, 1, 2, 3] [0, 1, 6, 9, 11, 74] (True ∧ True) ⟨[(0, .one (.e (.sl 0 0 x1.length))), (1, .one (.e (.sl 1 0 x2.length))), (6, .one (.e (.sl 2 0 x99.length))), (9, .one (.e (.sl 3 0 x141.length))), (11, I i142), (74, B (!decide (i145 = i142)))], [.row .nod x1 false, .row .rcd x2 false, .row .rcd x99 true, .row .rcd x141 true]⟩ (by kernel_rfl) ⟨trivial, trivial⟩ ?_
                  refine WO_nil rfl ?_
                  refine thenS_n ?_
                  refine iteO_e h (fun hb150 h => W_true rfl hb150 ?_) (fun hb150 h => W_false rfl hb150 ?_)
                  · refine W_seq ?_
                    refine W_region ?_
                    refine WO_step 1 [0, 1] [4] True ⟨[(4, B false)], [.row .nod x1 false, .row .rcd x2 false]⟩ (by kernel_rfl) trivial ?_
                    refine WO_nil rfl ?_
                    refine thenS_n ?_
                    refine W_ret ?_
                    refine thenS_r ?_
                    cases h
                    exact ⟨[0, 1], True, by kernel_rfl, trivial⟩
                  · refine W_sub [0, 1, 2, 3] [0, 1, 6, 9, 11] (st' := ⟨[(0, .one (.e (.sl 0 0 x1.length))), (1, .one (.e (.sl 1 0 x2.length))), (6, .one (.e (.sl 2 0 x99.length))), (9, .one (.e (.sl 3 0 x141.length))), (11, I i142)], [.row .nod x1 false, .row .rcd x2 false, .row .rcd x99 true, .row .rcd x141 true]⟩) (by kernel_rfl) ?_
                    refine W_skip ?_
                    refine thenS_n ?_
                    refine W_seq ?_
                    refine W_region ?_
                    refine WO_step 1 [0, 1, 2, 3] [1, 6, 9, 11, 75] True ⟨[(1, .one (.e (.sl 1 0 x2.length))), (6, .one (.e (.sl 2 0 x99.length))), (9, .one (.e (.sl 3 0 x141.length))), (11, I i142), (75, .one (.e (.sl 0 0 x1.length)))], [.row .nod x1 false, .row .rcd x2 false, .row .rcd x99 true, .row .rcd x141 true]⟩ (by kernel_rfl) trivial ?_
                    refine bindO_e h (fun x151 hc152 h => ?_)
                    refine WO_call [.ro 0] Try.f28 rfl rfl rfl (by kernel_rfl) rfl rfl (by kernel_rfl) (laws_toNodeS_ok n x1 x151 hc152) (And.intro (And.intro rfl rfl) (trivial)) rfl ?_
                    refine WO_step 1 [0, 1, 2, 3, 4] [6, 9, 11, 76, 77] True ⟨[(6, .one (.e (.sl 2 0 x99.length))), (9, .one (.e (.sl 3 0 x141.length))), (11, I i142), (76, .one (.e (.sl 4 0 x151.length))), (77, .one (.e (.sl 1 0 x2.length)))], [.row .nod x1 false, .row .rcd x2 false, .row .rcd x99 true, .row .rcd x141 true, .row .nod x151 true]⟩ (by kernel_rfl) trivial ?_
                    refine bindO_e h (fun x153 hc154 h => ?_)
                    refine WO_call [.ro 1] Try.f29 rfl rfl rfl (by kernel_rfl) rfl rfl (by kernel_rfl) (laws_toRecordS_ok n x2 x153 hc154) (And.intro (And.intro rfl rfl) (trivial)) rfl ?_
                    refine WO_sub [0, 1, 2, 3, 4, 5] [6, 9, 11, 76, 78] (st' := ⟨[(6, .one (.e (.sl 2 0 x99.length))), (9, .one (.e (.sl 3 0 x141.length))), (11, I i142), (76, .one (.e (.sl 4 0 x151.length))), (78, .one (.e (.sl 5 0 x153.length)))], [.row .nod x1 false, .row .rcd x2 false, .row .rcd x99 true, .row .rcd x141 true, .row .nod x151 true, .row .rcd x153 true]⟩) (by kernel_rfl) ?_
                    refine bindO_e h (fun x155 hc156 h => ?_)
                    refine WO_call [.ro 4, .ro 5] Try.f23 rfl rfl rfl (by kernel_rfl) rfl rfl (by kernel_rfl) (impl_ShortLog_ok n x151 x153 x155 hc156) (And.intro (And.intro rfl rfl) (And.intro (And.intro rfl rfl) (trivial))) rfl ?_
                    refine WO_step 1 [0, 1, 2, 3, 6] [6, 9, 11, 13] True ⟨[(6, .one (.e (.sl 2 0 x99.length))), (9, .one (.e (.sl 3 0 x141.length))), (11, I i142), (13, .one (.e (.sl 4 0 x155.length)))], [.row .nod x1 false, .row .rcd x2 false, .row .rcd x99 true, .row .rcd x141 true, .row .rcd x155 true]⟩ (by kernel_rfl) trivial ?_
                    refine WO_nil rfl ?_
                    refine thenS_n ?_
                    refine W_seq ?_
                    refine W_seq ?_
                    refine W_region ?_
                    refine WO_step 2 [0, 1, 3, 4, 2] [9, 11, 80, 81] True ⟨[(9, .one (.e (.sl 2 0 x141.length))), (11, I i142), (80, .one (.e (.sl 3 0 x155.length))), (81, .one (.e (.sl 4 0 x99.length)))], [.row .nod x1 false, .row .rcd x2 false, .row .rcd x141 true, .row .rcd x155 true, .row .rcd x99 true]⟩ (by kernel_rfl) trivial ?_
                    refine bindO_e h (fun b157 hc158 h => ?_)
                    refine WO_call [.ro 3, .ro 4] Try.f31 rfl rfl rfl (by kernel_rfl) rfl rfl (by kernel_rfl) (laws_eqRecordS_ok n x155 x99 b157 hc158) (And.intro (And.intro rfl rfl) (And.intro (And.intro rfl rfl) (trivial))) rfl ?_
                    refine WO_step 1 [0, 1, 2] [9, 11, 83] True ⟨[(9, .one (.e (.sl 2 0 x141.length))), (11, I i142), (83, B (!b157))], [.row .nod x1 false, .row .rcd x2 false, .row .rcd x141 true]⟩ (by kernel_rfl) trivial ?_
                    refine WO_nil rfl ?_
                    refine thenS_n ?_
                    refine iteO_e h (fun hb160 h => W_true rfl hb160 ?_) (fun hb160 h => W_false rfl hb160 ?_)
                    · refine W_seq ?_
                      refine W_region ?_
                      refine WO_step 1 [0, 1] [4] True ⟨[(4, B false)], [.row .nod x1 false, .row .rcd x2 false]⟩ (by kernel_rfl) trivial ?_
                      refine WO_nil rfl ?_
                      refine thenS_n ?_
                      refine W_ret ?_
                      refine thenS_r ?_
                      cases h
                      exact ⟨[0, 1], True, by kernel_rfl, trivial⟩
                    · refine W_sub [0, 1, 2] [9, 11] (st' := ⟨[(9, .one (.e (.sl 2 0 x141.length))), (11, I i142)], [.row .nod x1 false, .row .rcd x2 false, .row .rcd x141 true]⟩) (by kernel_rfl) ?_
                      refine W_skip ?_
                      refine thenS_n ?_
                      refine W_seq ?_
                      refine W_region ?_
                      refine WO_step 1 [0, 1, 2] [9, 11, 12] True ⟨[(9, .one (.e (.sl 2 0 x141.length))), (11, I i142), (12, I 1)], [.row .nod x1 false, .row .rcd x2 false, .row .rcd x141 true]⟩ (by kernel_rfl) trivial ?_
                      refine WO_nil rfl ?_
                      refine thenS_n ?_
                      refine W_seq ?_
                      refine W_region ?_
                      refine WO_step 2 [0, 1, 2] [11, 84, 85] True ⟨[(11, I i142), (84, .one (.e (.sl 2 0 x141.length))), (85, I 1)], [.row .nod x1 false, .row .rcd x2 false, .row .rcd x141 true]⟩ (by kernel_rfl) trivial ?_
                      refine bindO_e h (fun i161 hc162 h => ?_)
                      refine WO_call [.ro 2] Try.f38 rfl rfl rfl (by kernel_rfl) rfl rfl (by kernel_rfl) (laws_heldRecordS_ok n x141 1 i161 hc162) (And.intro (And.intro rfl rfl) (trivial)) rfl ?_
                      refine WO_step 1 [0, 1] [11, 12] True ⟨[(11, I i142), (12, I i161)], [.row .nod x1 false, .row .rcd x2 false]⟩ (by kernel_rfl) trivial ?_
                      refine WO_nil rfl ?_
                      refine thenS_n ?_
                      refine W_seq ?_
                      refine W_seq ?_
                      refine W_region ?_
                      refine WO_step 2 [0, 1] [11, 12, 88] (True ∧ True) ⟨[(11, I i142), (12, I i161), (88, B (decide (i161 < 0)))], [.row .nod x1 false, .row .rcd x2 false]⟩ (by kernel_rfl) ⟨trivial, trivial⟩ ?_
                      refine WO_nil rfl ?_
                      refine thenS_n ?_
                      refine iteO_e h (fun hb164 h => W_true rfl hb164 ?_) (fun hb164 h => W_false rfl hb164 ?_)
                      · refine W_seq ?_
                        refine W_region ?_
                        refine WO_step 1 [0, 1] [4] True ⟨[(4, B false)], [.row .nod x1 false, .row .rcd x2 false]⟩ (by kernel_rfl) trivial ?_
                        refine WO_nil rfl ?_
                        refine thenS_n ?_
                        refine W_ret ?_
                        refine thenS_r ?_
                        cases h
                        exact ⟨[0, 1], True, by kernel_rfl, trivial⟩
                      · refine W_sub [0, 1] [11, 12] (st' := ⟨[(11, I i142), (12, I i161)], [.row .nod x1 false, .row .rcd x2 false]⟩) (by kernel_rfl) ?_
                        refine W_skip ?_
                        refine thenS_n ?_
                        refine W_seq ?_
                        refine W_seq ?_
                        refine W_region ?_
                        refine WO_step 3 [0, 1] [91] (True ∧ True) ⟨[(91, B (!decide (i161 = i142)))], [.row .nod x1 false, .row .rcd x2 false]⟩ (by kernel_rfl) ⟨trivial, trivial⟩ ?_
                        refine WO_nil rfl ?_
                        refine thenS_n ?_
                        refine iteO_e h (fun hb166 h => W_true rfl hb166 ?_) (fun hb166 h => W_false rfl hb166 ?_)
                        · refine W_seq ?_
                          refine W_region ?_
                          refine WO_step 1 [0, 1] [4] True ⟨[(4, B false)], [.row .nod x1 false, .row .rcd x2 false]⟩ (by kernel_rfl) trivial ?_
                          refine WO_nil rfl ?_
                          refine thenS_n ?_
                          refine W_ret ?_
                          refine thenS_r ?_
                          cases h
                          exact ⟨[0, 1], True, by kernel_rfl, trivial⟩
                        · refine W_sub [0, 1] [] (st' := ⟨[], [.row .nod x1 false, .row .rcd x2 false]⟩) (by kernel_rfl) ?_
                          refine W_skip ?_
                          refine thenS_n ?_
                          refine W_seq ?_
                          refine W_region ?_
                          refine WO_step 1 [0, 1] [4] True ⟨[(4, B true)], [.row .nod x1 false, .row .rcd x2 false]⟩ (by kernel_rfl) trivial ?_
                          refine WO_nil rfl ?_
                          refine thenS_n ?_
                          refine W_ret ?_
                          cases h
                          exact ⟨[0, 1], True, by kernel_rfl, trivial⟩

/- impl.marked -/
def impl_marked_L1 (x1 : List Bool) : Nat → (List Int) → Int → Option ((List Int))
| 0, _, _ => none
| n + 1, x71, i72 =>
 iteO (decide (i72 < 4))
 (guardO (0 ≤ i72 ∧ i72 < (4 : Int) ∧ i72.toNat < ((x1.drop 0).take 4).length) <|
 bindO (iteO (((x1.drop 0).take 4).getD i72.toNat false)
 (guardO (0 = 0 ∧ x71.length = x71.length ∧ x71.length + (([i72].drop 0).take ([i72].length)).length ≤ 1099511627776) <|
 some (x71 ++ (([i72].drop 0).take ([i72].length))))
 (some x71)) fun x99 =>
 impl_marked_L1 x1 n x99 (w64 (i72 + 1)))
 (some x71)

theorem impl_marked_L1_ok (w : World) (X : Nat → Prop) (θ : List Loc) (x1 : List Bool) (x87 : (List Int)) : ∀ (n : Nat) (x71 : List Int) (i72 : Int), impl_marked_L1 x1 n x71 i72 = some x87 → WL EE ⟨w, X, θ, 18, 0⟩ (subC [1, 1, 0, 1, 4, 4] (bodyC Try.f41)) (fun (e : Exit) (s : St) => e = .exit 0 ∧ s = ⟨[(3, .one (.e (.sl 0 0 x87.length)))], [.row .int x87 true]⟩) ⟨[(3, .one (.e (.sl 0 0 x71.length))), (6, .one (.arr .bool ((x1.drop 0).take 4))), (7, I i72)], [.row .int x71 true]⟩ := by
  intro n
  induction n with
  | zero => intro _ _ h; exact none_e h
  | succ n ih =>
    intro x71 i72 h
    rw [impl_marked_L1] at h
    refine WL_round ?_
    refine W_seq ?_
    refine W_region ?_
    refine WO_step 1 [0] [3, 6, 7, 8] (True ∧ True) ⟨[(3, .one (.e (.sl 0 0 x71.length))), (6, .one (.arr .bool ((x1.drop 0).take 4))), (7, I i72), (8, B (decide (i72 < 4)))], [.row .int x71 true]⟩ (by kernel_rfl) ⟨trivial, trivial⟩ ?_
    refine WO_nil rfl ?_
    refine thenS_n ?_
    refine W_seq ?_
    refine iteO_e h (fun hb90 h => W_true rfl hb90 ?_) (fun hb90 h => W_false rfl hb90 ?_)
    · refine W_sub [0] [3, 6, 7] (st' := ⟨[(3, .one (.e (.sl 0 0 x71.length))), (6, .one (.arr .bool ((x1.drop 0).take 4))), (7, I i72)], [.row .int x71 true]⟩) (by kernel_rfl) ?_
      refine W_skip ?_
      refine thenS_n ?_
      refine W_seq ?_
      refine W_block ?_
      refine W_seq ?_
      refine W_region ?_
      refine guardO_e h (fun hg96 h => ?_)
      refine WO_step 4 [0] [3, 4, 5, 6, 7] ((0 ≤ i72 ∧ i72 < (4 : Int) ∧ i72.toNat < ((x1.drop 0).take 4).length) ∧ True) ⟨[(3, .one (.e (.sl 0 0 x71.length))), (4, I i72), (5, B (((x1.drop 0).take 4).getD i72.toNat false)), (6, .one (.arr .bool ((x1.drop 0).take 4))), (7, I i72)], [.row .int x71 true]⟩ (by kernel_rfl) ⟨hg96, trivial⟩ ?_
      refine WO_nil rfl ?_
      refine thenS_n ?_
      refine W_seq ?_
      refine W_region ?_
      refine WO_step 1 [0] [3, 4, 6, 7, 11] True ⟨[(3, .one (.e (.sl 0 0 x71.length))), (4, I i72), (6, .one (.arr .bool ((x1.drop 0).take 4))), (7, I i72), (11, B (((x1.drop 0).take 4).getD i72.toNat false))], [.row .int x71 true]⟩ (by kernel_rfl) trivial ?_
      refine WO_nil rfl ?_
      refine thenS_n ?_
      refine bindO_e h (fun x99 hx99 h => ?_)
      refine W_cut (Q' := fun (e : Exit) (s : St) => e = .normal ∧ s = ⟨[(3, .one (.e (.sl 0 0 x99.length))), (6, .one (.arr .bool ((x1.drop 0).take 4))), (7, I i72)], [.row .int x99 true]⟩) ?_ ?_
      · refine iteO_e hx99 (fun hb101 hx99 => W_true rfl hb101 ?_) (fun hb101 hx99 => W_false rfl hb101 ?_)
        · refine W_region ?_
          refine guardO_e hx99 (fun hg102 hx99 => ?_)
          refine WO_step 5 [2] [3, 6, 7] ((0 = 0 ∧ x71.length = x71.length ∧ x71.length + (([i72].drop 0).take ([i72].length)).length ≤ 1099511627776) ∧ True) ⟨[(3, .one (.e (.sl 0 0 ((x71 ++ (([i72].drop 0).take ([i72].length))).length)))), (6, .one (.arr .bool ((x1.drop 0).take 4))), (7, I i72)], [.row .int (x71 ++ (([i72].drop 0).take ([i72].length))) true]⟩ (by kernel_rfl) ⟨hg102, trivial⟩ ?_
          refine WO_nil rfl ?_
          cases hx99
          exact And.intro rfl rfl
        · refine W_sub [0] [3, 6, 7] (st' := ⟨[(3, .one (.e (.sl 0 0 x71.length))), (6, .one (.arr .bool ((x1.drop 0).take 4))), (7, I i72)], [.row .int x71 true]⟩) (by kernel_rfl) ?_
          refine W_skip ?_
          cases hx99
          exact And.intro rfl rfl
      · rintro _ _ ⟨rfl, rfl⟩
        refine blockS_n ?_
        refine thenS_n ?_
        refine W_region ?_
        refine WO_step 2 [0] [3, 6, 7] (True ∧ True) ⟨[(3, .one (.e (.sl 0 0 x99.length))), (6, .one (.arr .bool ((x1.drop 0).take 4))), (7, I (w64 (i72 + 1)))], [.row .int x99 true]⟩ (by kernel_rfl) ⟨trivial, trivial⟩ ?_
        refine WO_nil rfl ?_
        refine thenS_n ?_
        exact ih _ _ h
    · refine W_sub [0] [3] (st' := ⟨[(3, .one (.e (.sl 0 0 x71.length)))], [.row .int x71 true]⟩) (by kernel_rfl) ?_
      refine W_exit ?_
      refine thenS_e ?_
      refine thenS_e ?_
      cases h
      exact And.intro rfl rfl

def impl_marked (n : Nat) (x1 : List Bool) : Option ((List Int)) :=
 guardO (0 < x1.length ∧ x1.length ≤ 1099511627776) <|
 guardO (0 + 4 ≤ x1.length) <|
 bindO (impl_marked_L1 x1 n ([] : List Int) 0) fun x87 =>
 some x87

theorem impl_marked_ok (n : Nat) (x1 : List Bool) (x50 : List Int) (h : impl_marked n x1 = some x50) : FOk EE 41 [.one (.arr .bool x1)] [] (.one (.e (.sl 0 0 x50.length))) [.row .int x50 true] := by
  unfold impl_marked at h
  refine FOk_of_W 18 0 Try.func41 rfl rfl (Nat.le_of_ble_eq_true rfl) rfl (fun w X θ => ?_)
  refine W_seq ?_
  refine W_region ?_
  refine guardO_e h (fun hg51 h => ?_)
  refine WO_step 2 [0] [1] ((0 < x1.length ∧ x1.length ≤ 1099511627776) ∧ True) ⟨[(1, .one (.e (.rp 0 0 0)))], [.row .bool x1 true]⟩ (by kernel_rfl) ⟨hg51, trivial⟩ ?_
  refine WO_nil rfl ?_
  refine thenS_n ?_
  refine W_seq ?_
  refine W_region ?_
  refine WO_step 1 [0] [1, 3] True ⟨[(1, .one (.e (.rp 0 0 0))), (3, .one (.e (.nsl)))], [.row .bool x1 true]⟩ (by kernel_rfl) trivial ?_
  refine WO_nilrow 3 .int rfl ?_
  refine WO_sub [0, 1] [1, 3] (st' := ⟨[(1, .one (.e (.rp 0 0 0))), (3, .one (.e (.sl 1 0 (([] : List Int).length))))], [.row .bool x1 true, .row .int ([] : List Int) true]⟩) (by kernel_rfl) ?_
  refine WO_nil rfl ?_
  refine thenS_n ?_
  refine W_seq ?_
  refine W_seq ?_
  refine W_region ?_
  refine guardO_e h (fun hg52 h => ?_)
  refine WO_step 2 [1] [3, 6, 7] ((0 + 4 ≤ x1.length) ∧ True) ⟨[(3, .one (.e (.sl 0 0 (([] : List Int).length)))), (6, .one (.arr .bool ((x1.drop 0).take 4))), (7, I 0)], [.row .int ([] : List Int) true]⟩ (by kernel_rfl) ⟨hg52, trivial⟩ ?_
  refine WO_nil rfl ?_
  refine thenS_n ?_
  refine W_block ?_
  refine W_loop ?_
  refine bindO_e h (fun x87 hx87 h => ?_)
  refine WL_cut (impl_marked_L1_ok w X θ x1 x87 n ([] : List Int) 0 hx87) ?_
  rintro _ _ ⟨rfl, rfl⟩
  refine blockS_y ?_
  refine thenS_n ?_
  refine W_seq ?_
  refine W_region ?_
  refine WO_step 2 [0] [2] True ⟨[(2, .one (.e (.sl 0 0 x87.length)))], [.row .int x87 true]⟩ (by kernel_rfl) trivial ?_
  refine WO_nil rfl ?_
  refine thenS_n ?_
  refine W_ret ?_
  cases h
  exact ⟨[0], True, by kernel_rfl, trivial⟩

/- impl.LosersOf -/
def impl_LosersOf_L1 (x2 : List Rcd) (x1 : List Nod) : Nat → (List Bool) → Int → Option ((List Bool))
| 0, _, _ => none
| n + 1, x145, i146 =>
 iteO (decide (i146 < ((x2.length : Nat) : Int)))
 (guardO (0 ≤ i146 ∧ i146 < ((x2.length : Nat) : Int)) <|
 bindO (iteO (!(x2.getD i146.toNat drcd).fin)
 (bindO (impl_isDone n x2 i146) fun b201 =>
 some (!b201))
 (some false)) fun b198 =>
 bindO (iteO b198
 (guardO (0 ≤ (x2.getD i146.toNat drcd).who ∧ (x2.getD i146.toNat drcd).who < (4 : Int) ∧ (((x2.getD i146.toNat drcd).who).toNat * 1) < x145.length) <|
 some (x145.set (((x2.getD i146.toNat drcd).who).toNat * 1) true))
 (some x145)) fun x205 =>
 impl_LosersOf_L1 x2 x1 n x205 (w64 (i146 + 1)))
 (some x145)

theorem impl_LosersOf_L1_ok (w : World) (X : Nat → Prop) (θ : List Loc) (x2 : List Rcd) (x1 : List Nod) (x177 : (List Bool)) : ∀ (n : Nat) (x145 : List Bool) (i146 : Int), impl_LosersOf_L1 x2 x1 n x145 i146 = some x177 → WL EE ⟨w, X, θ, 34, 2⟩ (subC [1, 1, 1, 0, 1, 4, 4] (bodyC Try.f13)) (fun (e : Exit) (s : St) => e = .exit 0 ∧ s = ⟨[(5, .one (.e (.rp 2 0 0)))], [.row .nod x1 false, .row .rcd x2 false, .row .bool x177 true]⟩) ⟨[(1, .one (.e (.sl 1 0 x2.length))), (5, .one (.e (.rp 2 0 0))), (12, .one (.e (.sl 1 0 x2.length))), (13, I ((x2.length : Nat) : Int)), (14, I i146)], [.row .nod x1 false, .row .rcd x2 false, .row .bool x145 true]⟩ := by
  intro n
  induction n with
  | zero => intro _ _ h; exact none_e h
  | succ n ih =>
    intro x145 i146 h
    rw [impl_LosersOf_L1] at h
    refine WL_round ?_
    refine W_seq ?_
    refine W_region ?_
    refine WO_step 1 [0, 1, 2] [1, 5, 12, 13, 14, 15] (True ∧ True) ⟨[(1, .one (.e (.sl 1 0 x2.length))), (5, .one (.e (.rp 2 0 0))), (12, .one (.e (.sl 1 0 x2.length))), (13, I ((x2.length : Nat) : Int)), (14, I i146), (15, B (decide (i146 < ((x2.length : Nat) : Int))))], [.row .nod x1 false, .row .rcd x2 false, .row .bool x145 true]⟩ (by kernel_rfl) ⟨trivial, trivial⟩ ?_
    refine WO_nil rfl ?_
    refine thenS_n ?_
    refine W_seq ?_
    refine iteO_e h (fun hb180 h => W_true rfl hb180 ?_) (fun hb180 h => W_false rfl hb180 ?_)
    · refine W_sub [0, 1, 2] [1, 5, 12, 13, 14] (st' := ⟨[(1, .one (.e (.sl 1 0 x2.length))), (5, .one (.e (.rp 2 0 0))), (12, .one (.e (.sl 1 0 x2.length))), (13, I ((x2.length : Nat) : Int)), (14, I i146)], [.row .nod x1 false, .row .rcd x2 false, .row .bool x145 true]⟩) (by kernel_rfl) ?_
      refine W_skip ?_
      refine thenS_n ?_
      refine W_seq ?_
      refine W_block ?_
      refine W_seq ?_
      refine W_region ?_
      refine guardO_e h (fun hg194 h => ?_)
      refine WO_step 6 [0, 1, 2, 3] [1, 5, 6, 7, 12, 13, 14] ((0 ≤ i146 ∧ i146 < ((x2.length : Nat) : Int)) ∧ (True ∧ (True ∧ (True ∧ True)))) ⟨[(1, .one (.e (.sl 1 0 x2.length))), (5, .one (.e (.rp 2 0 0))), (6, I i146), (7, .one (.e (.p 3 0))), (12, .one (.e (.sl 1 0 x2.length))), (13, I ((x2.length : Nat) : Int)), (14, I i146)], [.row .nod x1 false, .row .rcd x2 false, .row .bool x145 true, .cells [cI ((x2.getD i146.toNat drcd).who), cI ((x2.getD i146.toNat drcd).node), cI ((x2.getD i146.toNat drcd).value), cB ((x2.getD i146.toNat drcd).fin)]]⟩ (by kernel_rfl) ⟨hg194, trivial, trivial, trivial, trivial⟩ ?_
      refine WO_nil rfl ?_
      refine thenS_n ?_
      refine W_seq ?_
      refine W_region ?_
      refine WO_step 4 [0, 1, 2, 3] [1, 5, 6, 7, 12, 13, 14, 22] (True ∧ True) ⟨[(1, .one (.e (.sl 1 0 x2.length))), (5, .one (.e (.rp 2 0 0))), (6, I i146), (7, .one (.e (.p 3 0))), (12, .one (.e (.sl 1 0 x2.length))), (13, I ((x2.length : Nat) : Int)), (14, I i146), (22, B (!(x2.getD i146.toNat drcd).fin))], [.row .nod x1 false, .row .rcd x2 false, .row .bool x145 true, .cells [cI ((x2.getD i146.toNat drcd).who), cI ((x2.getD i146.toNat drcd).node), cI ((x2.getD i146.toNat drcd).value), cB ((x2.getD i146.toNat drcd).fin)]]⟩ (by kernel_rfl) ⟨trivial, trivial⟩ ?_
      refine bindO_e h (fun b198 hv199 h => ?_)
      refine WO_thru ⟨[(1, .one (.e (.sl 1 0 x2.length))), (5, .one (.e (.rp 2 0 0))), (7, .one (.e (.p 3 0))), (12, .one (.e (.sl 1 0 x2.length))), (13, I ((x2.length : Nat) : Int)), (14, I i146), (27, B b198)], [.row .nod x1 false, .row .rcd x2 false, .row .bool x145 true, .cells [cI ((x2.getD i146.toNat drcd).who), cI ((x2.getD i146.toNat drcd).node), cI ((x2.getD i146.toNat drcd).value), cB ((x2.getD i146.toNat drcd).fin)]]⟩ ?_ ?_
      · refine iteO_e hv199 (fun hb200 hv199 => WO_known 22 true rfl hb200 ?_) (fun hb200 hv199 => WO_known 22 false rfl hb200 ?_)
        · refine WO_step 2 [0, 1, 2, 3] [1, 5, 7, 12, 13, 14, 22, 23, 24] True ⟨[(1, .one (.e (.sl 1 0 x2.length))), (5, .one (.e (.rp 2 0 0))), (7, .one (.e (.p 3 0))), (12, .one (.e (.sl 1 0 x2.length))), (13, I ((x2.length : Nat) : Int)), (14, I i146), (22, B true), (23, .one (.e (.sl 1 0 x2.length))), (24, I i146)], [.row .nod x1 false, .row .rcd x2 false, .row .bool x145 true, .cells [cI ((x2.getD i146.toNat drcd).who), cI ((x2.getD i146.toNat drcd).node), cI ((x2.getD i146.toNat drcd).value), cB ((x2.getD i146.toNat drcd).fin)]]⟩ (by kernel_rfl) trivial ?_
          refine bindO_e hv199 (fun b201 hc202 hv199 => ?_)
          refine WO_call [.ro 1] Try.f40 rfl rfl rfl (by kernel_rfl) rfl rfl (by kernel_rfl) (impl_isDone_ok n x2 i146 b201 hc202) (And.intro (And.intro rfl rfl) (trivial)) rfl ?_
          refine WO_step 2 [0, 1, 2, 3] [1, 5, 7, 12, 13, 14, 27] True ⟨[(1, .one (.e (.sl 1 0 x2.length))), (5, .one (.e (.rp 2 0 0))), (7, .one (.e (.p 3 0))), (12, .one (.e (.sl 1 0 x2.length))), (13, I ((x2.length : Nat) : Int)), (14, I i146), (27, B (!b201))], [.row .nod x1 false, .row .rcd x2 false, .row .bool x145 true, .cells [cI ((x2.getD i146.toNat drcd).who), cI ((x2.getD i146.toNat drcd).node), cI ((x2.getD i146.toNat drcd).value), cB ((x2.getD i146.toNat drcd).fin)]]⟩ (by kernel_rfl) trivial ?_
          cases hv199
          exact WO_nil rfl ⟨rfl, rfl⟩
        · refine WO_step 5 [0, 1, 2, 3] [1, 5, 7, 12, 13, 14, 27] True ⟨[(1, .one (.e (.sl 1 0 x2.length))), (5, .one (.e (.rp 2 0 0))), (7, .one (.e (.p 3 0))), (12, .one (.e (.sl 1 0 x2.length))), (13, I ((x2.length : Nat) : Int)), (14, I i146), (27, B false)], [.row .nod x1 false, .row .rcd x2 false, .row .bool x145 true, .cells [cI ((x2.getD i146.toNat drcd).who), cI ((x2.getD i146.toNat drcd).node), cI ((x2.getD i146.toNat drcd).value), cB ((x2.getD i146.toNat drcd).fin)]]⟩ (by kernel_rfl) trivial ?_
          cases hv199
          exact WO_nil rfl ⟨rfl, rfl⟩
      · refine thenS_n ?_
        refine bindO_e h (fun x205 hx205 h => ?_)
        refine W_cut (Q' := fun (e : Exit) (s : St) => e = .normal ∧ s = ⟨[(1, .one (.e (.sl 1 0 x2.length))), (5, .one (.e (.rp 2 0 0))), (12, .one (.e (.sl 1 0 x2.length))), (13, I ((x2.length : Nat) : Int)), (14, I i146)], [.row .nod x1 false, .row .rcd x2 false, .row .bool x205 true]⟩) ?_ ?_
        · refine iteO_e hx205 (fun hb207 hx205 => W_true rfl hb207 ?_) (fun hb207 hx205 => W_false rfl hb207 ?_)
          · refine W_region ?_
            refine guardO_e hx205 (fun hg208 hx205 => ?_)
            refine WO_step 4 [0, 1, 2] [1, 5, 12, 13, 14] (True ∧ ((0 ≤ (x2.getD i146.toNat drcd).who ∧ (x2.getD i146.toNat drcd).who < (4 : Int) ∧ (((x2.getD i146.toNat drcd).who).toNat * 1) < x145.length) ∧ (True ∧ True))) ⟨[(1, .one (.e (.sl 1 0 x2.length))), (5, .one (.e (.rp 2 0 0))), (12, .one (.e (.sl 1 0 x2.length))), (13, I ((x2.length : Nat) : Int)), (14, I i146)], [.row .nod x1 false, .row .rcd x2 false, .row .bool (x145.set (((x2.getD i146.toNat drcd).who).toNat * 1) true) true]⟩ (by kernel_rfl) ⟨trivial, hg208, trivial, trivial⟩ ?_
            refine WO_nil rfl ?_
            cases hx205
            exact And.intro rfl rfl
          · refine W_sub [0, 1, 2] [1, 5, 12, 13, 14] (st' := ⟨[(1, .one (.e (.sl 1 0 x2.length))), (5, .one (.e (.rp 2 0 0))), (12, .one (.e (.sl 1 0 x2.length))), (13, I ((x2.length : Nat) : Int)), (14, I i146)], [.row .nod x1 false, .row .rcd x2 false, .row .bool x145 true]⟩) (by kernel_rfl) ?_
            refine W_skip ?_
            cases hx205
            exact And.intro rfl rfl
        · rintro _ _ ⟨rfl, rfl⟩
          refine blockS_n ?_
          refine thenS_n ?_
          refine W_region ?_
          refine WO_step 2 [0, 1, 2] [1, 5, 12, 13, 14] (True ∧ True) ⟨[(1, .one (.e (.sl 1 0 x2.length))), (5, .one (.e (.rp 2 0 0))), (12, .one (.e (.sl 1 0 x2.length))), (13, I ((x2.length : Nat) : Int)), (14, I (w64 (i146 + 1)))], [.row .nod x1 false, .row .rcd x2 false, .row .bool x205 true]⟩ (by kernel_rfl) ⟨trivial, trivial⟩ ?_
          refine WO_nil rfl ?_
          refine thenS_n ?_
          exact ih _ _ h
    · refine W_sub [0, 1, 2] [5] (st' := ⟨[(5, .one (.e (.rp 2 0 0)))], [.row .nod x1 false, .row .rcd x2 false, .row .bool x145 true]⟩) (by kernel_rfl) ?_
      refine W_exit ?_
      refine thenS_e ?_
      refine thenS_e ?_
      cases h
      exact And.intro rfl rfl

def impl_LosersOf (n : Nat) (x1 : List Nod) (x2 : List Rcd) : Option ((List Int)) :=
 bindO (impl_ValidLog n x1 x2) fun b107 =>
 iteO (!b107)
 (some ([] : List Int))
 (bindO (impl_LosersOf_L1 x2 x1 n ([false, false, false, false] : List Bool) 0) fun x177 =>
 guardO (0 + 4 ≤ x177.length) <|
 bindO (impl_marked n ((x177.drop 0).take 4)) fun x211 =>
 some x211)

theorem impl_LosersOf_ok (n : Nat) (x1 : List Nod) (x2 : List Rcd) (x106 : List Int) (h : impl_LosersOf n x1 x2 = some x106) : FOk EE 13 [.one (.e (.sl 0 0 x1.length)), .one (.e (.sl 1 0 x2.length))] [.row .nod x1 false, .row .rcd x2 false] (.one (.e (.sl 2 0 x106.length))) [.row .nod x1 false, .row .rcd x2 false, .row .int x106 true] := by
  unfold impl_LosersOf at h
  refine FOk_of_W 34 2 Try.func13 rfl rfl (Nat.le_of_ble_eq_true rfl) rfl (fun w X θ => ?_)
  refine W_seq ?_
  refine W_region ?_
  refine WO_step 1 [0, 1] [0, 1] True ⟨[(0, .one (.e (.sl 0 0 x1.length))), (1, .one (.e (.sl 1 0 x2.length)))], [.row .nod x1 false, .row .rcd x2 false]⟩ (by kernel_rfl) trivial ?_
  refine WO_nil rfl ?_
  refine thenS_n ?_
  refine W_seq ?_
  refine W_seq ?_
  refine W_region ?_
  refine WO_step 2 [0, 1] [1, 8, 9] True ⟨[(1, .one (.e (.sl 1 0 x2.length))), (8, .one (.e (.sl 0 0 x1.length))), (9, .one (.e (.sl 1 0 x2.length)))], [.row .nod x1 false, .row .rcd x2 false]⟩ (by kernel_rfl) trivial ?_
  refine bindO_e h (fun b107 hc108 h => ?_)
  refine WO_call [.ro 0, .ro 1] Try.f16 rfl rfl rfl (by kernel_rfl) rfl rfl (by kernel_rfl) (impl_ValidLog_ok n x1 x2 b107 hc108) (And.intro (And.intro rfl rfl) (And.intro (And.intro rfl rfl) (trivial))) rfl ?_
  refine WO_step 1 [0, 1] [1, 11] True ⟨[(1, .one (.e (.sl 1 0 x2.length))), (11, B (!b107))], [.row .nod x1 false, .row .rcd x2 false]⟩ (by kernel_rfl) trivial ?_
  refine WO_nil rfl ?_
  refine thenS_n ?_
  refine iteO_e h (fun hb110 h => W_true rfl hb110 ?_) (fun hb110 h => W_false rfl hb110 ?_)
  · refine W_seq ?_
    refine W_region ?_
    refine WO_step 1 [0, 1] [4] True ⟨[(4, .one (.e (.nsl)))], [.row .nod x1 false, .row .rcd x2 false]⟩ (by kernel_rfl) trivial ?_
    refine WO_nilrow 4 .int rfl ?_
    refine WO_sub [0, 1, 2] [4] (st' := ⟨[(4, .one (.e (.sl 2 0 (([] : List Int).length))))], [.row .nod x1 false, .row .rcd x2 false, .row .int ([] : List Int) true]⟩) (by kernel_rfl) ?_
    refine WO_nil rfl ?_
    refine thenS_n ?_
    refine W_ret ?_
    refine thenS_r ?_
    cases h
    exact ⟨[0, 1, 2], True, by kernel_rfl, trivial⟩
  · refine W_sub [0, 1] [1] (st' := ⟨[(1, .one (.e (.sl 1 0 x2.length)))], [.row .nod x1 false, .row .rcd x2 false]⟩) (by kernel_rfl) ?_
    refine W_skip ?_
    refine thenS_n ?_
    refine W_seq ?_
    refine W_region ?_
    refine WO_step 1 [0, 1, 2] [1, 5] ((0 < ([false, false, false, false] : List Bool).length ∧ ([false, false, false, false] : List Bool).length ≤ 1099511627776) ∧ True) ⟨[(1, .one (.e (.sl 1 0 x2.length))), (5, .one (.e (.rp 2 0 0)))], [.row .nod x1 false, .row .rcd x2 false, .row .bool ([false, false, false, false] : List Bool) true]⟩ (by kernel_rfl) ⟨(by decide), trivial⟩ ?_
    refine WO_nil rfl ?_
    refine thenS_n ?_
    refine W_seq ?_
    refine W_seq ?_
    refine W_region ?_
    refine WO_step 3 [0, 1, 2] [1, 5, 12, 13, 14] (True ∧ True) ⟨[(1, .one (.e (.sl 1 0 x2.length))), (5, .one (.e (.rp 2 0 0))), (12, .one (.e (.sl 1 0 x2.length))), (13, I ((x2.length : Nat) : Int)), (14, I 0)], [.row .nod x1 false, .row .rcd x2 false, .row .bool ([false, false, false, false] : List Bool) true]⟩ (by kernel_rfl) ⟨trivial, trivial⟩ ?_
    refine WO_nil rfl ?_
    refine thenS_n ?_
    refine W_block ?_
    refine W_loop ?_
    refine bindO_e h (fun x177 hx177 h => ?_)
    refine WL_cut (impl_LosersOf_L1_ok w X θ x2 x1 x177 n ([false, false, false, false] : List Bool) 0 hx177) ?_
    rintro _ _ ⟨rfl, rfl⟩
    refine blockS_y ?_
    refine thenS_n ?_
    refine W_seq ?_
    refine W_region ?_
    refine guardO_e h (fun hg210 h => ?_)
    refine WO_step 1 [0, 1] [32] ((0 + 4 ≤ x177.length) ∧ True) ⟨[(32, .one (.arr .bool ((x177.drop 0).take 4)))], [.row .nod x1 false, .row .rcd x2 false]⟩ (by kernel_rfl) ⟨hg210, trivial⟩ ?_
    refine bindO_e h (fun x211 hc212 h => ?_)
    refine WO_call [] Try.f41 rfl rfl rfl (by kernel_rfl) rfl rfl (by kernel_rfl) (impl_marked_ok n ((x177.drop 0).take 4) x211 hc212) (trivial) rfl ?_
    refine WO_step 1 [0, 1, 2] [4] True ⟨[(4, .one (.e (.sl 2 0 x211.length)))], [.row .nod x1 false, .row .rcd x2 false, .row .int x211 true]⟩ (by kernel_rfl) trivial ?_
    refine WO_nil rfl ?_
    refine thenS_n ?_
    refine W_ret ?_
    cases h
    exact ⟨[0, 1, 2], True, by kernel_rfl, trivial⟩

/- spec.LosersOf -/
def spec_LosersOf_L2 (x2 : List Rcd) (x752 : List Int) (i753 : Int) (x1 : List Nod) : Nat → Bool → Int → Option (Bool)
| 0, _, _ => none
| n + 1, b1054, i1055 =>
 iteO (decide (i1055 < ((x2.length : Nat) : Int)))
 (bindO (iteO b1054
 (some true)
 (guardO (0 ≤ i1055 ∧ i1055 < ((x2.length : Nat) : Int)) <|
 iteO (decide (((x2.getD i1055.toNat drcd).who) = i753))
 (guardO (0 ≤ i1055 ∧ i1055 < ((x2.length : Nat) : Int)) <|
 iteO (!(x2.getD i1055.toNat drcd).fin)
 (bindO (spec_ended n x2 (w64 (i1055 + 1)) i753) fun b1126 =>
 some (!b1126))
 (some false))
 (some false))) fun b1119 =>
 spec_LosersOf_L2 x2 x752 i753 x1 n b1119 (w64 (i1055 + 1)))
 (some b1054)

theorem spec_LosersOf_L2_ok (w : World) (X : Nat → Prop) (θ : List Loc) (x2 : List Rcd) (x752 : List Int) (i753 : Int) (x1 : List Nod) (b1092 : Bool) : ∀ (n : Nat) (b1054 : Bool) (i1055 : Int), spec_LosersOf_L2 x2 x752 i753 x1 n b1054 i1055 = some b1092 → WL EE ⟨w, X, θ, 61, 2⟩ (subC [1, 1, 1, 0, 1, 4, 4, 1, 0, 4, 1, 0, 1, 4, 4] (bodyC Try.f15)) (fun (e : Exit) (s : St) => e = .exit 2 ∧ s = ⟨[(1, .one (.e (.sl 1 0 x2.length))), (5, .one (.e (.sl 2 0 x752.length))), (6, I i753), (7, B b1092)], [.row .nod x1 false, .row .rcd x2 false, .row .int x752 true]⟩) ⟨[(1, .one (.e (.sl 1 0 x2.length))), (5, .one (.e (.sl 2 0 x752.length))), (6, I i753), (7, B b1054), (8, I i1055)], [.row .nod x1 false, .row .rcd x2 false, .row .int x752 true]⟩ := by
  intro n
  induction n with
  | zero => intro _ _ h; exact none_e h
  | succ n ih =>
    intro b1054 i1055 h
    rw [spec_LosersOf_L2] at h
    refine WL_round ?_
    refine W_seq ?_
    refine W_seq ?_
    refine W_region ?_
    refine WO_step 4 [0, 1, 2] [1, 5, 6, 7, 8, 26] (True ∧ (True ∧ True)) ⟨[(1, .one (.e (.sl 1 0 x2.length))), (5, .one (.e (.sl 2 0 x752.length))), (6, I i753), (7, B b1054), (8, I i1055), (26, B (decide (i1055 < ((x2.length : Nat) : Int))))], [.row .nod x1 false, .row .rcd x2 false, .row .int x752 true]⟩ (by kernel_rfl) ⟨trivial, trivial, trivial⟩ ?_
    refine WO_nil rfl ?_
    refine thenS_n ?_
    refine iteO_e h (fun hb1095 h => W_true rfl hb1095 ?_) (fun hb1095 h => W_false rfl hb1095 ?_)
    · refine W_sub [0, 1, 2] [1, 5, 6, 7, 8] (st' := ⟨[(1, .one (.e (.sl 1 0 x2.length))), (5, .one (.e (.sl 2 0 x752.length))), (6, I i753), (7, B b1054), (8, I i1055)], [.row .nod x1 false, .row .rcd x2 false, .row .int x752 true]⟩) (by kernel_rfl) ?_
      refine W_skip ?_
      refine thenS_n ?_
      refine W_seq ?_
      refine W_block ?_
      refine W_region ?_
      refine WO_step 2 [0, 1, 2] [1, 5, 6, 8, 30] True ⟨[(1, .one (.e (.sl 1 0 x2.length))), (5, .one (.e (.sl 2 0 x752.length))), (6, I i753), (8, I i1055), (30, B b1054)], [.row .nod x1 false, .row .rcd x2 false, .row .int x752 true]⟩ (by kernel_rfl) trivial ?_
      refine bindO_e h (fun b1119 hv1120 h => ?_)
      refine WO_thru ⟨[(1, .one (.e (.sl 1 0 x2.length))), (5, .one (.e (.sl 2 0 x752.length))), (6, I i753), (7, B b1119), (8, I i1055)], [.row .nod x1 false, .row .rcd x2 false, .row .int x752 true]⟩ ?_ ?_
      · refine iteO_e hv1120 (fun hb1121 hv1120 => WO_known 30 true rfl hb1121 ?_) (fun hb1121 hv1120 => WO_known 30 false rfl hb1121 ?_)
        · refine WO_step 25 [0, 1, 2] [1, 5, 6, 7, 8] True ⟨[(1, .one (.e (.sl 1 0 x2.length))), (5, .one (.e (.sl 2 0 x752.length))), (6, I i753), (7, B true), (8, I i1055)], [.row .nod x1 false, .row .rcd x2 false, .row .int x752 true]⟩ (by kernel_rfl) trivial ?_
          cases hv1120
          exact WO_nil rfl ⟨rfl, rfl⟩
        · refine guardO_e hv1120 (fun hg1122 hv1120 => ?_)
          refine WO_step 8 [0, 1, 2] [1, 5, 6, 8, 30, 38] ((0 ≤ i1055 ∧ i1055 < ((x2.length : Nat) : Int)) ∧ (True ∧ (True ∧ True))) ⟨[(1, .one (.e (.sl 1 0 x2.length))), (5, .one (.e (.sl 2 0 x752.length))), (6, I i753), (8, I i1055), (30, B false), (38, B (decide (((x2.getD i1055.toNat drcd).who) = i753)))], [.row .nod x1 false, .row .rcd x2 false, .row .int x752 true]⟩ (by kernel_rfl) ⟨hg1122, trivial, trivial, trivial⟩ ?_
          refine iteO_e hv1120 (fun hb1123 hv1120 => WO_known 38 true rfl hb1123 ?_) (fun hb1123 hv1120 => WO_known 38 false rfl hb1123 ?_)
          · refine guardO_e hv1120 (fun hg1124 hv1120 => ?_)
            refine WO_step 8 [0, 1, 2] [1, 5, 6, 8, 30, 46] ((0 ≤ i1055 ∧ i1055 < ((x2.length : Nat) : Int)) ∧ (True ∧ True)) ⟨[(1, .one (.e (.sl 1 0 x2.length))), (5, .one (.e (.sl 2 0 x752.length))), (6, I i753), (8, I i1055), (30, B false), (46, B (!(x2.getD i1055.toNat drcd).fin))], [.row .nod x1 false, .row .rcd x2 false, .row .int x752 true]⟩ (by kernel_rfl) ⟨hg1124, trivial, trivial⟩ ?_
            refine iteO_e hv1120 (fun hb1125 hv1120 => WO_known 46 true rfl hb1125 ?_) (fun hb1125 hv1120 => WO_known 46 false rfl hb1125 ?_)
            · refine WO_step 4 [0, 1, 2] [1, 5, 6, 8, 30, 46, 47, 49, 50] (True ∧ True) ⟨[(1, .one (.e (.sl 1 0 x2.length))), (5, .one (.e (.sl 2 0 x752.length))), (6, I i753), (8, I i1055), (30, B false), (46, B true), (47, .one (.e (.sl 1 0 x2.length))), (49, I (w64 (i1055 + 1))), (50, I i753)], [.row .nod x1 false, .row .rcd x2 false, .row .int x752 true]⟩ (by kernel_rfl) ⟨trivial, trivial⟩ ?_
              refine bindO_e hv1120 (fun b1126 hc1127 hv1120 => ?_)
              refine WO_call [.ro 1] Try.f44 rfl rfl rfl (by kernel_rfl) rfl rfl (by kernel_rfl) (spec_ended_ok n x2 (w64 (i1055 + 1)) i753 b1126 hc1127) (And.intro (And.intro rfl rfl) (trivial)) rfl ?_
              refine WO_step 4 [0, 1, 2] [1, 5, 6, 7, 8] True ⟨[(1, .one (.e (.sl 1 0 x2.length))), (5, .one (.e (.sl 2 0 x752.length))), (6, I i753), (7, B (!b1126)), (8, I i1055)], [.row .nod x1 false, .row .rcd x2 false, .row .int x752 true]⟩ (by kernel_rfl) trivial ?_
              cases hv1120
              exact WO_nil rfl ⟨rfl, rfl⟩
            · refine WO_step 9 [0, 1, 2] [1, 5, 6, 7, 8] True ⟨[(1, .one (.e (.sl 1 0 x2.length))), (5, .one (.e (.sl 2 0 x752.length))), (6, I i753), (7, B false), (8, I i1055)], [.row .nod x1 false, .row .rcd x2 false, .row .int x752 true]⟩ (by kernel_rfl) trivial ?_
              cases hv1120
              exact WO_nil rfl ⟨rfl, rfl⟩
          · refine WO_step 17 [0, 1, 2] [1, 5, 6, 7, 8] True ⟨[(1, .one (.e (.sl 1 0 x2.length))), (5, .one (.e (.sl 2 0 x752.length))), (6, I i753), (7, B false), (8, I i1055)], [.row .nod x1 false, .row .rcd x2 false, .row .int x752 true]⟩ (by kernel_rfl) trivial ?_
            cases hv1120
            exact WO_nil rfl ⟨rfl, rfl⟩
      · refine blockS_n ?_
        refine thenS_n ?_
        refine W_region ?_
        refine WO_step 3 [0, 1, 2] [1, 5, 6, 7, 8] (True ∧ True) ⟨[(1, .one (.e (.sl 1 0 x2.length))), (5, .one (.e (.sl 2 0 x752.length))), (6, I i753), (7, B b1119), (8, I (w64 (i1055 + 1)))], [.row .nod x1 false, .row .rcd x2 false, .row .int x752 true]⟩ (by kernel_rfl) ⟨trivial, trivial⟩ ?_
        refine WO_nil rfl ?_
        refine thenS_n ?_
        exact ih _ _ h
    · refine W_sub [0, 1, 2] [1, 5, 6, 7] (st' := ⟨[(1, .one (.e (.sl 1 0 x2.length))), (5, .one (.e (.sl 2 0 x752.length))), (6, I i753), (7, B b1054)], [.row .nod x1 false, .row .rcd x2 false, .row .int x752 true]⟩) (by kernel_rfl) ?_
      refine W_exit ?_
      refine thenS_e ?_
      refine thenS_e ?_
      cases h
      exact And.intro rfl rfl

def spec_LosersOf_L1 (x2 : List Rcd) (x1 : List Nod) : Nat → (List Int) → Int → Option ((List Int))
| 0, _, _ => none
| n + 1, x752, i753 =>
 iteO (decide (i753 < 4))
 (bindO (spec_LosersOf_L2 x2 x752 i753 x1 n false 0) fun b1092 =>
 bindO (iteO b1092
 (guardO (0 = 0 ∧ x752.length = x752.length ∧ x752.length + (([i753].drop 0).take ([i753].length)).length ≤ 1099511627776) <|
 some (x752 ++ (([i753].drop 0).take ([i753].length))))
 (some x752)) fun x1131 =>
 spec_LosersOf_L1 x2 x1 n x1131 (w64 (i753 + 1)))
 (some x752)

theorem spec_LosersOf_L1_ok (w : World) (X : Nat → Prop) (θ : List Loc) (x2 : List Rcd) (x1 : List Nod) (x926 : (List Int)) : ∀ (n : Nat) (x752 : List Int) (i753 : Int), spec_LosersOf_L1 x2 x1 n x752 i753 = some x926 → WL EE ⟨w, X, θ, 61, 2⟩ (subC [1, 1, 1, 0, 1, 4, 4] (bodyC Try.f15)) (fun (e : Exit) (s : St) => e = .exit 0 ∧ s = ⟨[(5, .one (.e (.sl 2 0 x926.length)))], [.row .nod x1 false, .row .rcd x2 false, .row .int x926 true]⟩) ⟨[(1, .one (.e (.sl 1 0 x2.length))), (5, .one (.e (.sl 2 0 x752.length))), (6, I i753)], [.row .nod x1 false, .row .rcd x2 false, .row .int x752 true]⟩ := by
  intro n
  induction n with
  | zero => intro _ _ h; exact none_e h
  | succ n ih =>
    intro x752 i753 h
    rw [spec_LosersOf_L1] at h
    refine WL_round ?_
    refine W_seq ?_
    refine W_seq ?_
    refine W_region ?_
    refine WO_step 2 [0, 1, 2] [1, 5, 6, 20] (True ∧ True) ⟨[(1, .one (.e (.sl 1 0 x2.length))), (5, .one (.e (.sl 2 0 x752.length))), (6, I i753), (20, B (decide (i753 < 4)))], [.row .nod x1 false, .row .rcd x2 false, .row .int x752 true]⟩ (by kernel_rfl) ⟨trivial, trivial⟩ ?_
    refine WO_nil rfl ?_
    refine thenS_n ?_
    refine iteO_e h (fun hb929 h => W_true rfl hb929 ?_) (fun hb929 h => W_false rfl hb929 ?_)
    · refine W_sub [0, 1, 2] [1, 5, 6] (st' := ⟨[(1, .one (.e (.sl 1 0 x2.length))), (5, .one (.e (.sl 2 0 x752.length))), (6, I i753)], [.row .nod x1 false, .row .rcd x2 false, .row .int x752 true]⟩) (by kernel_rfl) ?_
      refine W_skip ?_
      refine thenS_n ?_
      refine W_seq ?_
      refine W_block ?_
      refine W_seq ?_
      refine W_region ?_
      refine WO_step 1 [0, 1, 2] [1, 5, 6, 7] True ⟨[(1, .one (.e (.sl 1 0 x2.length))), (5, .one (.e (.sl 2 0 x752.length))), (6, I i753), (7, B false)], [.row .nod x1 false, .row .rcd x2 false, .row .int x752 true]⟩ (by kernel_rfl) trivial ?_
      refine WO_nil rfl ?_
      refine thenS_n ?_
      refine W_seq ?_
      refine W_seq ?_
      refine W_region ?_
      refine WO_step 1 [0, 1, 2] [1, 5, 6, 7, 8] True ⟨[(1, .one (.e (.sl 1 0 x2.length))), (5, .one (.e (.sl 2 0 x752.length))), (6, I i753), (7, B false), (8, I 0)], [.row .nod x1 false, .row .rcd x2 false, .row .int x752 true]⟩ (by kernel_rfl) trivial ?_
      refine WO_nil rfl ?_
      refine thenS_n ?_
      refine W_block ?_
      refine W_loop ?_
      refine bindO_e h (fun b1092 hb1092 h => ?_)
      refine WL_cut (spec_LosersOf_L2_ok w X θ x2 x752 i753 x1 b1092 n false 0 hb1092) ?_
      rintro _ _ ⟨rfl, rfl⟩
      refine blockS_y ?_
      refine thenS_n ?_
      refine W_seq ?_
      refine W_region ?_
      refine WO_step 1 [0, 1, 2] [1, 5, 6, 55] True ⟨[(1, .one (.e (.sl 1 0 x2.length))), (5, .one (.e (.sl 2 0 x752.length))), (6, I i753), (55, B b1092)], [.row .nod x1 false, .row .rcd x2 false, .row .int x752 true]⟩ (by kernel_rfl) trivial ?_
      refine WO_nil rfl ?_
      refine thenS_n ?_
      refine bindO_e h (fun x1131 hx1131 h => ?_)
      refine W_cut (Q' := fun (e : Exit) (s : St) => e = .normal ∧ s = ⟨[(1, .one (.e (.sl 1 0 x2.length))), (5, .one (.e (.sl 2 0 x1131.length))), (6, I i753)], [.row .nod x1 false, .row .rcd x2 false, .row .int x1131 true]⟩) ?_ ?_
      · refine iteO_e hx1131 (fun hb1133 hx1131 => W_true rfl hb1133 ?_) (fun hb1133 hx1131 => W_false rfl hb1133 ?_)
        · refine W_region ?_
          refine guardO_e hx1131 (fun hg1134 hx1131 => ?_)
          refine WO_step 5 [0, 1, 4] [1, 5, 6] ((0 = 0 ∧ x752.length = x752.length ∧ x752.length + (([i753].drop 0).take ([i753].length)).length ≤ 1099511627776) ∧ True) ⟨[(1, .one (.e (.sl 1 0 x2.length))), (5, .one (.e (.sl 2 0 ((x752 ++ (([i753].drop 0).take ([i753].length))).length)))), (6, I i753)], [.row .nod x1 false, .row .rcd x2 false, .row .int (x752 ++ (([i753].drop 0).take ([i753].length))) true]⟩ (by kernel_rfl) ⟨hg1134, trivial⟩ ?_
          refine WO_nil rfl ?_
          cases hx1131
          exact And.intro rfl rfl
        · refine W_sub [0, 1, 2] [1, 5, 6] (st' := ⟨[(1, .one (.e (.sl 1 0 x2.length))), (5, .one (.e (.sl 2 0 x752.length))), (6, I i753)], [.row .nod x1 false, .row .rcd x2 false, .row .int x752 true]⟩) (by kernel_rfl) ?_
          refine W_skip ?_
          cases hx1131
          exact And.intro rfl rfl
      · rintro _ _ ⟨rfl, rfl⟩
        refine blockS_n ?_
        refine thenS_n ?_
        refine W_region ?_
        refine WO_step 3 [0, 1, 2] [1, 5, 6] (True ∧ True) ⟨[(1, .one (.e (.sl 1 0 x2.length))), (5, .one (.e (.sl 2 0 x1131.length))), (6, I (w64 (i753 + 1)))], [.row .nod x1 false, .row .rcd x2 false, .row .int x1131 true]⟩ (by kernel_rfl) ⟨trivial, trivial⟩ ?_
        refine WO_nil rfl ?_
        refine thenS_n ?_
        exact ih _ _ h
    · refine W_sub [0, 1, 2] [5] (st' := ⟨[(5, .one (.e (.sl 2 0 x752.length)))], [.row .nod x1 false, .row .rcd x2 false, .row .int x752 true]⟩) (by kernel_rfl) ?_
      refine W_exit ?_
      refine thenS_e ?_
      refine thenS_e ?_
      cases h
      exact And.intro rfl rfl

def spec_LosersOf (n : Nat) (x1 : List Nod) (x2 : List Rcd) : Option ((List Int)) :=
 bindO (spec_validTree n x1) fun b564 =>
 bindO (iteO (!b564)
 (some true)
 (bindO (spec_validLog n x1 x2) fun b572 =>
 some (!b572))) fun b569 =>
 iteO b569
 (some ([] : List Int))
 (bindO (spec_LosersOf_L1 x2 x1 n ([] : List Int) 0) fun x926 =>
 some x926)

theorem spec_LosersOf_ok (n : Nat) (x1 : List Nod) (x2 : List Rcd) (x563 : List Int) (h : spec_LosersOf n x1 x2 = some x563) : FOk EE 15 [.one (.e (.sl 0 0 x1.length)), .one (.e (.sl 1 0 x2.length))] [.row .nod x1 false, .row .rcd x2 false] (.one (.e (.sl 2 0 x563.length))) [.row .nod x1 false, .row .rcd x2 false, .row .int x563 true] := by
  unfold spec_LosersOf at h
  refine FOk_of_W 61 2 Try.func15 rfl rfl (Nat.le_of_ble_eq_true rfl) rfl (fun w X θ => ?_)
  refine W_seq ?_
  refine W_region ?_
  refine WO_step 1 [0, 1] [0, 1] True ⟨[(0, .one (.e (.sl 0 0 x1.length))), (1, .one (.e (.sl 1 0 x2.length)))], [.row .nod x1 false, .row .rcd x2 false]⟩ (by kernel_rfl) trivial ?_
  refine WO_nil rfl ?_
  refine thenS_n ?_
  refine W_seq ?_
  refine W_region ?_
  refine WO_step 2 [0, 1, 2] [0, 1, 5] True ⟨[(0, .one (.e (.sl 0 0 x1.length))), (1, .one (.e (.sl 1 0 x2.length))), (5, .one (.e (.sl 2 0 (([] : List Int).length))))], [.row .nod x1 false, .row .rcd x2 false, .row .int ([] : List Int) true]⟩ (by kernel_rfl) trivial ?_
  refine WO_nil rfl ?_
  refine thenS_n ?_
  refine W_seq ?_
  refine W_seq ?_
  refine W_region ?_
  refine WO_step 1 [0, 1, 2] [0, 1, 5, 10] True ⟨[(0, .one (.e (.sl 0 0 x1.length))), (1, .one (.e (.sl 1 0 x2.length))), (5, .one (.e (.sl 2 0 (([] : List Int).length)))), (10, .one (.e (.sl 0 0 x1.length)))], [.row .nod x1 false, .row .rcd x2 false, .row .int ([] : List Int) true]⟩ (by kernel_rfl) trivial ?_
  refine bindO_e h (fun b564 hc565 h => ?_)
  refine WO_call [.ro 0] Try.f42 rfl rfl rfl (by kernel_rfl) rfl rfl (by kernel_rfl) (spec_validTree_ok n x1 b564 hc565) (And.intro (And.intro rfl rfl) (trivial)) rfl ?_
  refine WO_step 2 [0, 1, 2] [0, 1, 5, 13] True ⟨[(0, .one (.e (.sl 0 0 x1.length))), (1, .one (.e (.sl 1 0 x2.length))), (5, .one (.e (.sl 2 0 (([] : List Int).length)))), (13, B (!b564))], [.row .nod x1 false, .row .rcd x2 false, .row .int ([] : List Int) true]⟩ (by kernel_rfl) trivial ?_
  refine bindO_e h (fun b569 hv570 h => ?_)
  refine WO_thru ⟨[(1, .one (.e (.sl 1 0 x2.length))), (5, .one (.e (.sl 2 0 (([] : List Int).length)))), (18, B b569)], [.row .nod x1 false, .row .rcd x2 false, .row .int ([] : List Int) true]⟩ ?_ ?_
  · refine iteO_e hv570 (fun hb571 hv570 => WO_known 13 true rfl hb571 ?_) (fun hb571 hv570 => WO_known 13 false rfl hb571 ?_)
    · refine WO_step 5 [0, 1, 2] [1, 5, 18] True ⟨[(1, .one (.e (.sl 1 0 x2.length))), (5, .one (.e (.sl 2 0 (([] : List Int).length)))), (18, B true)], [.row .nod x1 false, .row .rcd x2 false, .row .int ([] : List Int) true]⟩ (by kernel_rfl) trivial ?_
      cases hv570
      exact WO_nil rfl ⟨rfl, rfl⟩
    · refine WO_step 2 [0, 1, 2] [1, 5, 13, 14, 15] True ⟨[(1, .one (.e (.sl 1 0 x2.length))), (5, .one (.e (.sl 2 0 (([] : List Int).length)))), (13, B false), (14, .one (.e (.sl 0 0 x1.length))), (15, .one (.e (.sl 1 0 x2.length)))], [.row .nod x1 false, .row .rcd x2 false, .row .int ([] : List Int) true]⟩ (by kernel_rfl) trivial ?_
      refine bindO_e hv570 (fun b572 hc573 hv570 => ?_)
      refine WO_call [.ro 0, .ro 1] Try.f43 rfl rfl rfl (by kernel_rfl) rfl rfl (by kernel_rfl) (spec_validLog_ok n x1 x2 b572 hc573) (And.intro (And.intro rfl rfl) (And.intro (And.intro rfl rfl) (trivial))) rfl ?_
      refine WO_step 2 [0, 1, 2] [1, 5, 18] True ⟨[(1, .one (.e (.sl 1 0 x2.length))), (5, .one (.e (.sl 2 0 (([] : List Int).length)))), (18, B (!b572))], [.row .nod x1 false, .row .rcd x2 false, .row .int ([] : List Int) true]⟩ (by kernel_rfl) trivial ?_
      cases hv570
      exact WO_nil rfl ⟨rfl, rfl⟩
  · refine thenS_n ?_
    refine iteO_e h (fun hb575 h => W_true rfl hb575 ?_) (fun hb575 h => W_false rfl hb575 ?_)
    · refine W_seq ?_
      refine W_region ?_
      refine WO_step 1 [0, 1] [4] True ⟨[(4, .one (.e (.nsl)))], [.row .nod x1 false, .row .rcd x2 false]⟩ (by kernel_rfl) trivial ?_
      refine WO_nilrow 4 .int rfl ?_
      refine WO_sub [0, 1, 2] [4] (st' := ⟨[(4, .one (.e (.sl 2 0 (([] : List Int).length))))], [.row .nod x1 false, .row .rcd x2 false, .row .int ([] : List Int) true]⟩) (by kernel_rfl) ?_
      refine WO_nil rfl ?_
      refine thenS_n ?_
      refine W_ret ?_
      refine thenS_r ?_
      cases h
      exact ⟨[0, 1, 2], True, by kernel_rfl, trivial⟩
    · refine W_sub [0, 1, 2] [1, 5] (st' := ⟨[(1, .one (.e (.sl 1 0 x2.length))), (5, .one (.e (.sl 2 0 (([] : List Int).length))))], [.row .nod x1 false, .row .rcd x2 false, .row .int ([] : List Int) true]⟩) (by kernel_rfl) ?_
      refine W_skip ?_
      refine thenS_n ?_
      refine W_seq ?_
      refine W_seq ?_
      refine W_region ?_
      refine WO_step 1 [0, 1, 2] [1, 5, 6] True ⟨[(1, .one (.e (.sl 1 0 x2.length))), (5, .one (.e (.sl 2 0 (([] : List Int).length)))), (6, I 0)], [.row .nod x1 false, .row .rcd x2 false, .row .int ([] : List Int) true]⟩ (by kernel_rfl) trivial ?_
      refine WO_nil rfl ?_
      refine thenS_n ?_
      refine W_block ?_
      refine W_loop ?_
      refine bindO_e h (fun x926 hx926 h => ?_)
      refine WL_cut (spec_LosersOf_L1_ok w X θ x2 x1 x926 n ([] : List Int) 0 hx926) ?_
      rintro _ _ ⟨rfl, rfl⟩
      refine blockS_y ?_
      refine thenS_n ?_
      refine W_seq ?_
      refine W_region ?_
      refine WO_step 2 [0, 1, 2] [4] True ⟨[(4, .one (.e (.sl 2 0 x926.length)))], [.row .nod x1 false, .row .rcd x2 false, .row .int x926 true]⟩ (by kernel_rfl) trivial ?_
      refine WO_nil rfl ?_
      refine thenS_n ?_
      refine W_ret ?_
      cases h
      exact ⟨[0, 1, 2], True, by kernel_rfl, trivial⟩

/- impl.Node] -/
def slices_Clone_Node (x1 : List Nod) : Option (List Nod) :=
 guardO (x1.length ≤ 1099511627776) <|
 some x1

theorem slices_Clone_Node_ok (x1 x2 : List Nod) (h : slices_Clone_Node x1 = some x2) : FOk EE 47 [.one (.e (.sl 0 0 x1.length))] [.row .nod x1 false] (.one (.e (.sl 1 0 x2.length))) [.row .nod x1 false, .row .nod x2 true] := by
  unfold slices_Clone_Node at h
  refine guardO_e h (fun hg h => ?_)
  cases h
  refine FOk_of_W 8 1 Try.func47 rfl rfl (Nat.le_of_ble_eq_true rfl) rfl (fun w X θ => ?_)
  refine W_seq ?_
  refine W_region ?_
  refine WO_step 1 [0] [0] True ⟨[(0, .one (.e (.sl 0 0 x1.length)))], [.row .nod x1 false]⟩ (by kernel_rfl) trivial ?_
  refine WO_nil rfl ?_
  refine thenS_n ?_
  refine W_seq ?_
  refine W_seq ?_
  refine W_region ?_
  refine WO_step 1 [0] [0, 3] True ⟨[(0, .one (.e (.sl 0 0 x1.length))), (3, .one (.e (.sl 0 0 x1.length)))], [.row .nod x1 false]⟩ (by kernel_rfl) trivial ?_
  refine WO_isnil (R := .nod) (xs := x1) (own := false) rfl rfl rfl rfl Try.underlying23 rfl rfl rfl (fun b hb => ?_)
  refine WO_nil rfl ?_
  refine thenS_n ?_
  cases b with
  | true =>
    have e : x1 = [] := List.eq_nil_of_length_eq_zero (hb rfl)
    subst e
    refine W_true rfl rfl ?_
    refine W_seq ?_
    refine W_region ?_
    refine WO_step 1 [0] [2] True ⟨[(2, .one (.e .nsl))], [.row .nod [] false]⟩ (by kernel_rfl) trivial ?_
    refine WO_nil rfl ?_
    refine thenS_n ?_
    refine W_nil 2 .nod rfl ?_
    refine W_ret ?_
    refine thenS_r ?_
    exact ⟨[0, 1], True, by kernel_rfl, trivial⟩
  | false =>
    refine W_false rfl rfl ?_
    refine W_sub [0] [0] (st' := ⟨[(0, .one (.e (.sl 0 0 x1.length)))], [.row .nod x1 false]⟩) (by kernel_rfl) ?_
    refine W_skip ?_
    refine thenS_n ?_
    refine W_seq ?_
    refine W_region ?_
    refine WO_step 4 [0, 2] [2] ((0 = 0 ∧ 0 = ([] : List Nod).length ∧ ([] : List Nod).length + ((x1.drop 0).take x1.length).length ≤ 1099511627776) ∧ True) ⟨[(2, .one (.e (.sl 1 0 (([] : List Nod) ++ ((x1.drop 0).take x1.length)).length)))], [.row .nod x1 false, .row .nod (([] : List Nod) ++ ((x1.drop 0).take x1.length)) true]⟩ (by kernel_rfl) ⟨⟨rfl, rfl, by simpa using hg⟩, trivial⟩ ?_
    refine WO_eq (st' := ⟨[(2, .one (.e (.sl 1 0 x1.length)))], [.row .nod x1 false, .row .nod x1 true]⟩) (by simp only [List.drop_zero, List.take_length, List.nil_append]) ?_
    refine WO_nil rfl ?_
    refine thenS_n ?_
    refine W_ret ?_
    exact ⟨[0, 1], True, by kernel_rfl, trivial⟩

/- impl.RedoLog -/
def impl_RedoLog_L1 (x2 : List Rcd) (x1 : List Nod) : Nat → (List Nod) → Int → Option ((List Nod))
| 0, _, _ => none
| n + 1, x98, i99 =>
 iteO (decide (i99 < ((x2.length : Nat) : Int)))
 (guardO (0 ≤ i99 ∧ i99 < ((x2.length : Nat) : Int)) <|
 bindO (impl_isDone n x2 i99) fun b130 =>
 bindO (iteO b130
 (guardO (0 ≤ (x2.getD i99.toNat drcd).node ∧ (x2.getD i99.toNat drcd).node < ((x98.length : Nat) : Int)) <|
 some (x98.set (((x2.getD i99.toNat drcd).node).toNat) (⟨(x98.getD (((x2.getD i99.toNat drcd).node).toNat) dnod).parent, (x98.getD (((x2.getD i99.toNat drcd).node).toNat) dnod).name, (x2.getD i99.toNat drcd).value⟩ : Nod)))
 (some x98)) fun x134 =>
 impl_RedoLog_L1 x2 x1 n x134 (w64 (i99 + 1)))
 (some x98)

theorem impl_RedoLog_L1_ok (w : World) (X : Nat → Prop) (θ : List Loc) (x2 : List Rcd) (x1 : List Nod) (x118 : (List Nod)) : ∀ (n : Nat) (x98 : List Nod) (i99 : Int), impl_RedoLog_L1 x2 x1 n x98 i99 = some x118 → WL EE ⟨w, X, θ, 33, 2⟩ (subC [1, 1, 1, 0, 1, 4, 4] (bodyC Try.f19)) (fun (e : Exit) (s : St) => e = .exit 0 ∧ s = ⟨[(5, .one (.e (.sl 2 0 x118.length)))], [.row .nod x1 false, .row .rcd x2 false, .row .nod x118 true]⟩) ⟨[(1, .one (.e (.sl 1 0 x2.length))), (5, .one (.e (.sl 2 0 x98.length))), (14, .one (.e (.sl 1 0 x2.length))), (15, I ((x2.length : Nat) : Int)), (16, I i99)], [.row .nod x1 false, .row .rcd x2 false, .row .nod x98 true]⟩ := by
  intro n
  induction n with
  | zero => intro _ _ h; exact none_e h
  | succ n ih =>
    intro x98 i99 h
    rw [impl_RedoLog_L1] at h
    refine WL_round ?_
    refine W_seq ?_
    refine W_region ?_
    refine WO_step 1 [0, 1, 2] [1, 5, 14, 15, 16, 17] (True ∧ True) ⟨[(1, .one (.e (.sl 1 0 x2.length))), (5, .one (.e (.sl 2 0 x98.length))), (14, .one (.e (.sl 1 0 x2.length))), (15, I ((x2.length : Nat) : Int)), (16, I i99), (17, B (decide (i99 < ((x2.length : Nat) : Int))))], [.row .nod x1 false, .row .rcd x2 false, .row .nod x98 true]⟩ (by kernel_rfl) ⟨trivial, trivial⟩ ?_
    refine WO_nil rfl ?_
    refine thenS_n ?_
    refine W_seq ?_
    refine iteO_e h (fun hb121 h => W_true rfl hb121 ?_) (fun hb121 h => W_false rfl hb121 ?_)
    · refine W_sub [0, 1, 2] [1, 5, 14, 15, 16] (st' := ⟨[(1, .one (.e (.sl 1 0 x2.length))), (5, .one (.e (.sl 2 0 x98.length))), (14, .one (.e (.sl 1 0 x2.length))), (15, I ((x2.length : Nat) : Int)), (16, I i99)], [.row .nod x1 false, .row .rcd x2 false, .row .nod x98 true]⟩) (by kernel_rfl) ?_
      refine W_skip ?_
      refine thenS_n ?_
      refine W_seq ?_
      refine W_block ?_
      refine W_seq ?_
      refine W_region ?_
      refine guardO_e h (fun hg129 h => ?_)
      refine WO_step 6 [0, 1, 2, 3] [1, 5, 6, 7, 14, 15, 16] ((0 ≤ i99 ∧ i99 < ((x2.length : Nat) : Int)) ∧ (True ∧ (True ∧ (True ∧ True)))) ⟨[(1, .one (.e (.sl 1 0 x2.length))), (5, .one (.e (.sl 2 0 x98.length))), (6, I i99), (7, .one (.e (.p 3 0))), (14, .one (.e (.sl 1 0 x2.length))), (15, I ((x2.length : Nat) : Int)), (16, I i99)], [.row .nod x1 false, .row .rcd x2 false, .row .nod x98 true, .cells [cI ((x2.getD i99.toNat drcd).who), cI ((x2.getD i99.toNat drcd).node), cI ((x2.getD i99.toNat drcd).value), cB ((x2.getD i99.toNat drcd).fin)]]⟩ (by kernel_rfl) ⟨hg129, trivial, trivial, trivial, trivial⟩ ?_
      refine WO_nil rfl ?_
      refine thenS_n ?_
      refine W_seq ?_
      refine W_region ?_
      refine WO_step 2 [0, 1, 2, 3] [1, 5, 7, 14, 15, 16, 21, 22] True ⟨[(1, .one (.e (.sl 1 0 x2.length))), (5, .one (.e (.sl 2 0 x98.length))), (7, .one (.e (.p 3 0))), (14, .one (.e (.sl 1 0 x2.length))), (15, I ((x2.length : Nat) : Int)), (16, I i99), (21, .one (.e (.sl 1 0 x2.length))), (22, I i99)], [.row .nod x1 false, .row .rcd x2 false, .row .nod x98 true, .cells [cI ((x2.getD i99.toNat drcd).who), cI ((x2.getD i99.toNat drcd).node), cI ((x2.getD i99.toNat drcd).value), cB ((x2.getD i99.toNat drcd).fin)]]⟩ (by kernel_rfl) trivial ?_
      refine bindO_e h (fun b130 hc131 h => ?_)
      refine WO_call [.ro 1] Try.f40 rfl rfl rfl (by kernel_rfl) rfl rfl (by kernel_rfl) (impl_isDone_ok n x2 i99 b130 hc131) (And.intro (And.intro rfl rfl) (trivial)) rfl ?_
      refine WO_sub [0, 1, 2, 3] [1, 5, 7, 14, 15, 16, 23] (st' := ⟨[(1, .one (.e (.sl 1 0 x2.length))), (5, .one (.e (.sl 2 0 x98.length))), (7, .one (.e (.p 3 0))), (14, .one (.e (.sl 1 0 x2.length))), (15, I ((x2.length : Nat) : Int)), (16, I i99), (23, B b130)], [.row .nod x1 false, .row .rcd x2 false, .row .nod x98 true, .cells [cI ((x2.getD i99.toNat drcd).who), cI ((x2.getD i99.toNat drcd).node), cI ((x2.getD i99.toNat drcd).value), cB ((x2.getD i99.toNat drcd).fin)]]⟩) (by kernel_rfl) ?_
      refine WO_nil rfl ?_
      refine thenS_n ?_
      refine bindO_e h (fun x134 hx134 h => ?_)
      refine W_cut (Q' := fun (e : Exit) (s : St) => e = .normal ∧ s = ⟨[(1, .one (.e (.sl 1 0 x2.length))), (5, .one (.e (.sl 2 0 x134.length))), (14, .one (.e (.sl 1 0 x2.length))), (15, I ((x2.length : Nat) : Int)), (16, I i99)], [.row .nod x1 false, .row .rcd x2 false, .row .nod x134 true]⟩) ?_ ?_
      · refine iteO_e hx134 (fun hb136 hx134 => W_true rfl hb136 ?_) (fun hb136 hx134 => W_false rfl hb136 ?_)
        · refine W_region ?_
          refine guardO_e hx134 (fun hg137 hx134 => ?_)
          refine WO_step 8 [0, 1, 2] [1, 5, 14, 15, 16] (True ∧ (True ∧ ((0 ≤ (x2.getD i99.toNat drcd).node ∧ (x2.getD i99.toNat drcd).node < ((x98.length : Nat) : Int)) ∧ (True ∧ True)))) ⟨[(1, .one (.e (.sl 1 0 x2.length))), (5, .one (.e (.sl 2 0 x98.length))), (14, .one (.e (.sl 1 0 x2.length))), (15, I ((x2.length : Nat) : Int)), (16, I i99)], [.row .nod x1 false, .row .rcd x2 false, .row .nod (x98.set (((x2.getD i99.toNat drcd).node).toNat) (⟨(x98.getD (((x2.getD i99.toNat drcd).node).toNat) dnod).parent, (x98.getD (((x2.getD i99.toNat drcd).node).toNat) dnod).name, (x2.getD i99.toNat drcd).value⟩ : Nod)) true]⟩ (by kernel_rfl) ⟨trivial, trivial, hg137, trivial, trivial⟩ ?_
          refine WO_eq (st' := ⟨[(1, .one (.e (.sl 1 0 x2.length))), (5, .one (.e (.sl 2 0 ((x98.set (((x2.getD i99.toNat drcd).node).toNat) (⟨(x98.getD (((x2.getD i99.toNat drcd).node).toNat) dnod).parent, (x98.getD (((x2.getD i99.toNat drcd).node).toNat) dnod).name, (x2.getD i99.toNat drcd).value⟩ : Nod)).length)))), (14, .one (.e (.sl 1 0 x2.length))), (15, I ((x2.length : Nat) : Int)), (16, I i99)], [.row .nod x1 false, .row .rcd x2 false, .row .nod (x98.set (((x2.getD i99.toNat drcd).node).toNat) (⟨(x98.getD (((x2.getD i99.toNat drcd).node).toNat) dnod).parent, (x98.getD (((x2.getD i99.toNat drcd).node).toNat) dnod).name, (x2.getD i99.toNat drcd).value⟩ : Nod)) true]⟩) (by simp only [List.length_set]) ?_
          refine WO_nil rfl ?_
          cases hx134
          exact And.intro rfl rfl
        · refine W_sub [0, 1, 2] [1, 5, 14, 15, 16] (st' := ⟨[(1, .one (.e (.sl 1 0 x2.length))), (5, .one (.e (.sl 2 0 x98.length))), (14, .one (.e (.sl 1 0 x2.length))), (15, I ((x2.length : Nat) : Int)), (16, I i99)], [.row .nod x1 false, .row .rcd x2 false, .row .nod x98 true]⟩) (by kernel_rfl) ?_
          refine W_skip ?_
          cases hx134
          exact And.intro rfl rfl
      · rintro _ _ ⟨rfl, rfl⟩
        refine blockS_n ?_
        refine thenS_n ?_
        refine W_region ?_
        refine WO_step 2 [0, 1, 2] [1, 5, 14, 15, 16] (True ∧ True) ⟨[(1, .one (.e (.sl 1 0 x2.length))), (5, .one (.e (.sl 2 0 x134.length))), (14, .one (.e (.sl 1 0 x2.length))), (15, I ((x2.length : Nat) : Int)), (16, I (w64 (i99 + 1)))], [.row .nod x1 false, .row .rcd x2 false, .row .nod x134 true]⟩ (by kernel_rfl) ⟨trivial, trivial⟩ ?_
        refine WO_nil rfl ?_
        refine thenS_n ?_
        exact ih _ _ h
    · refine W_sub [0, 1, 2] [5] (st' := ⟨[(5, .one (.e (.sl 2 0 x98.length)))], [.row .nod x1 false, .row .rcd x2 false, .row .nod x98 true]⟩) (by kernel_rfl) ?_
      refine W_exit ?_
      refine thenS_e ?_
      refine thenS_e ?_
      cases h
      exact And.intro rfl rfl

def impl_RedoLog (n : Nat) (x1 : List Nod) (x2 : List Rcd) : Option ((List Nod)) :=
 bindO (impl_ValidLog n x1 x2) fun b70 =>
 iteO (!b70)
 (some ([] : List Nod))
 (bindO (slices_Clone_Node x1) fun x74 =>
 bindO (impl_RedoLog_L1 x2 x1 n x74 0) fun x118 =>
 some x118)

theorem impl_RedoLog_ok (n : Nat) (x1 : List Nod) (x2 : List Rcd) (x69 : List Nod) (h : impl_RedoLog n x1 x2 = some x69) : FOk EE 19 [.one (.e (.sl 0 0 x1.length)), .one (.e (.sl 1 0 x2.length))] [.row .nod x1 false, .row .rcd x2 false] (.one (.e (.sl 2 0 x69.length))) [.row .nod x1 false, .row .rcd x2 false, .row .nod x69 true] := by
  unfold impl_RedoLog at h
  refine FOk_of_W 33 2 Try.func19 rfl rfl (Nat.le_of_ble_eq_true rfl) rfl (fun w X θ => ?_)
  refine W_seq ?_
  refine W_region ?_
  refine WO_step 1 [0, 1] [0, 1] True ⟨[(0, .one (.e (.sl 0 0 x1.length))), (1, .one (.e (.sl 1 0 x2.length)))], [.row .nod x1 false, .row .rcd x2 false]⟩ (by kernel_rfl) trivial ?_
  refine WO_nil rfl ?_
  refine thenS_n ?_
  refine W_seq ?_
  refine W_seq ?_
  refine W_region ?_
  refine WO_step 2 [0, 1] [0, 1, 8, 9] True ⟨[(0, .one (.e (.sl 0 0 x1.length))), (1, .one (.e (.sl 1 0 x2.length))), (8, .one (.e (.sl 0 0 x1.length))), (9, .one (.e (.sl 1 0 x2.length)))], [.row .nod x1 false, .row .rcd x2 false]⟩ (by kernel_rfl) trivial ?_
  refine bindO_e h (fun b70 hc71 h => ?_)
  refine WO_call [.ro 0, .ro 1] Try.f16 rfl rfl rfl (by kernel_rfl) rfl rfl (by kernel_rfl) (impl_ValidLog_ok n x1 x2 b70 hc71) (And.intro (And.intro rfl rfl) (And.intro (And.intro rfl rfl) (trivial))) rfl ?_
  refine WO_step 1 [0, 1] [0, 1, 11] True ⟨[(0, .one (.e (.sl 0 0 x1.length))), (1, .one (.e (.sl 1 0 x2.length))), (11, B (!b70))], [.row .nod x1 false, .row .rcd x2 false]⟩ (by kernel_rfl) trivial ?_
  refine WO_nil rfl ?_
  refine thenS_n ?_
  refine iteO_e h (fun hb73 h => W_true rfl hb73 ?_) (fun hb73 h => W_false rfl hb73 ?_)
  · refine W_seq ?_
    refine W_region ?_
    refine WO_step 1 [0, 1] [4] True ⟨[(4, .one (.e (.nsl)))], [.row .nod x1 false, .row .rcd x2 false]⟩ (by kernel_rfl) trivial ?_
    refine WO_nilrow 4 .nod rfl ?_
    refine WO_sub [0, 1, 2] [4] (st' := ⟨[(4, .one (.e (.sl 2 0 (([] : List Nod).length))))], [.row .nod x1 false, .row .rcd x2 false, .row .nod ([] : List Nod) true]⟩) (by kernel_rfl) ?_
    refine WO_nil rfl ?_
    refine thenS_n ?_
    refine W_ret ?_
    refine thenS_r ?_
    cases h
    exact ⟨[0, 1, 2], True, by kernel_rfl, trivial⟩
  · refine W_sub [0, 1] [0, 1] (st' := ⟨[(0, .one (.e (.sl 0 0 x1.length))), (1, .one (.e (.sl 1 0 x2.length)))], [.row .nod x1 false, .row .rcd x2 false]⟩) (by kernel_rfl) ?_
    refine W_skip ?_
    refine thenS_n ?_
    refine W_seq ?_
    refine W_region ?_
    refine WO_step 1 [0, 1] [1, 12] True ⟨[(1, .one (.e (.sl 1 0 x2.length))), (12, .one (.e (.sl 0 0 x1.length)))], [.row .nod x1 false, .row .rcd x2 false]⟩ (by kernel_rfl) trivial ?_
    refine bindO_e h (fun x74 hc75 h => ?_)
    refine WO_call [.ro 0] Try.f47 rfl rfl rfl (by kernel_rfl) rfl rfl (by kernel_rfl) (slices_Clone_Node_ok x1 x74 hc75) (And.intro (And.intro rfl rfl) (trivial)) rfl ?_
    refine WO_step 1 [0, 1, 2] [1, 5] True ⟨[(1, .one (.e (.sl 1 0 x2.length))), (5, .one (.e (.sl 2 0 x74.length)))], [.row .nod x1 false, .row .rcd x2 false, .row .nod x74 true]⟩ (by kernel_rfl) trivial ?_
    refine WO_nil rfl ?_
    refine thenS_n ?_
    refine W_seq ?_
    refine W_seq ?_
    refine W_region ?_
    refine WO_step 3 [0, 1, 2] [1, 5, 14, 15, 16] (True ∧ True) ⟨[(1, .one (.e (.sl 1 0 x2.length))), (5, .one (.e (.sl 2 0 x74.length))), (14, .one (.e (.sl 1 0 x2.length))), (15, I ((x2.length : Nat) : Int)), (16, I 0)], [.row .nod x1 false, .row .rcd x2 false, .row .nod x74 true]⟩ (by kernel_rfl) ⟨trivial, trivial⟩ ?_
    refine WO_nil rfl ?_
    refine thenS_n ?_
    refine W_block ?_
    refine W_loop ?_
    refine bindO_e h (fun x118 hx118 h => ?_)
    refine WL_cut (impl_RedoLog_L1_ok w X θ x2 x1 x118 n x74 0 hx118) ?_
    rintro _ _ ⟨rfl, rfl⟩
    refine blockS_y ?_
    refine thenS_n ?_
    refine W_seq ?_
    refine W_region ?_
    refine WO_step 2 [0, 1, 2] [4] True ⟨[(4, .one (.e (.sl 2 0 x118.length)))], [.row .nod x1 false, .row .rcd x2 false, .row .nod x118 true]⟩ (by kernel_rfl) trivial ?_
    refine WO_nil rfl ?_
    refine thenS_n ?_
    refine W_ret ?_
    cases h
    exact ⟨[0, 1, 2], True, by kernel_rfl, trivial⟩

/- spec.RedoLog -/
def spec_RedoLog_L1 (x2 : List Rcd) (x1 : List Nod) : Nat → (List Nod) → Int → Option ((List Nod))
| 0, _, _ => none
| n + 1, x192, i193 =>
 iteO (decide (i193 < ((x2.length : Nat) : Int)))
 (guardO (0 ≤ i193 ∧ i193 < ((x2.length : Nat) : Int)) <|
 bindO (iteO (!(x2.getD i193.toNat drcd).fin)
 (guardO (0 ≤ i193 ∧ i193 < ((x2.length : Nat) : Int)) <|
 bindO (spec_ended n x2 (w64 (i193 + 1)) ((x2.getD i193.toNat drcd).who)) fun b262 =>
 some b262)
 (some false)) fun b258 =>
 bindO (iteO b258
 (guardO (0 ≤ i193 ∧ i193 < ((x2.length : Nat) : Int)) <|
 guardO (0 ≤ i193 ∧ i193 < ((x2.length : Nat) : Int)) <|
 guardO (0 ≤ (x2.getD i193.toNat drcd).node ∧ (x2.getD i193.toNat drcd).node < ((x192.length : Nat) : Int)) <|
 some (x192.set (((x2.getD i193.toNat drcd).node).toNat) (⟨(x192.getD (((x2.getD i193.toNat drcd).node).toNat) dnod).parent, (x192.getD (((x2.getD i193.toNat drcd).node).toNat) dnod).name, (x2.getD i193.toNat drcd).value⟩ : Nod)))
 (some x192)) fun x268 =>
 spec_RedoLog_L1 x2 x1 n x268 (w64 (i193 + 1)))
 (some x192)

theorem spec_RedoLog_L1_ok (w : World) (X : Nat → Prop) (θ : List Loc) (x2 : List Rcd) (x1 : List Nod) (x232 : (List Nod)) : ∀ (n : Nat) (x192 : List Nod) (i193 : Int), spec_RedoLog_L1 x2 x1 n x192 i193 = some x232 → WL EE ⟨w, X, θ, 56, 2⟩ (subC [1, 1, 1, 0, 1, 4, 4] (bodyC Try.f21)) (fun (e : Exit) (s : St) => e = .exit 0 ∧ s = ⟨[(5, .one (.e (.sl 2 0 x232.length)))], [.row .nod x1 false, .row .rcd x2 false, .row .nod x232 true]⟩) ⟨[(1, .one (.e (.sl 1 0 x2.length))), (5, .one (.e (.sl 2 0 x192.length))), (6, I i193)], [.row .nod x1 false, .row .rcd x2 false, .row .nod x192 true]⟩ := by
  intro n
  induction n with
  | zero => intro _ _ h; exact none_e h
  | succ n ih =>
    intro x192 i193 h
    rw [spec_RedoLog_L1] at h
    refine WL_round ?_
    refine W_seq ?_
    refine W_seq ?_
    refine W_region ?_
    refine WO_step 4 [0, 1, 2] [1, 5, 6, 22] (True ∧ (True ∧ True)) ⟨[(1, .one (.e (.sl 1 0 x2.length))), (5, .one (.e (.sl 2 0 x192.length))), (6, I i193), (22, B (decide (i193 < ((x2.length : Nat) : Int))))], [.row .nod x1 false, .row .rcd x2 false, .row .nod x192 true]⟩ (by kernel_rfl) ⟨trivial, trivial, trivial⟩ ?_
    refine WO_nil rfl ?_
    refine thenS_n ?_
    refine iteO_e h (fun hb235 h => W_true rfl hb235 ?_) (fun hb235 h => W_false rfl hb235 ?_)
    · refine W_sub [0, 1, 2] [1, 5, 6] (st' := ⟨[(1, .one (.e (.sl 1 0 x2.length))), (5, .one (.e (.sl 2 0 x192.length))), (6, I i193)], [.row .nod x1 false, .row .rcd x2 false, .row .nod x192 true]⟩) (by kernel_rfl) ?_
      refine W_skip ?_
      refine thenS_n ?_
      refine W_seq ?_
      refine W_block ?_
      refine W_seq ?_
      refine W_region ?_
      refine guardO_e h (fun hg253 h => ?_)
      refine WO_step 7 [0, 1, 2] [1, 5, 6, 31] ((0 ≤ i193 ∧ i193 < ((x2.length : Nat) : Int)) ∧ (True ∧ True)) ⟨[(1, .one (.e (.sl 1 0 x2.length))), (5, .one (.e (.sl 2 0 x192.length))), (6, I i193), (31, B (!(x2.getD i193.toNat drcd).fin))], [.row .nod x1 false, .row .rcd x2 false, .row .nod x192 true]⟩ (by kernel_rfl) ⟨hg253, trivial, trivial⟩ ?_
      refine bindO_e h (fun b258 hv259 h => ?_)
      refine WO_thru ⟨[(1, .one (.e (.sl 1 0 x2.length))), (5, .one (.e (.sl 2 0 x192.length))), (6, I i193), (41, B b258)], [.row .nod x1 false, .row .rcd x2 false, .row .nod x192 true]⟩ ?_ ?_
      · refine iteO_e hv259 (fun hb260 hv259 => WO_known 31 true rfl hb260 ?_) (fun hb260 hv259 => WO_known 31 false rfl hb260 ?_)
        · refine guardO_e hv259 (fun hg261 hv259 => ?_)
          refine WO_step 8 [0, 1, 2] [1, 5, 6, 31, 32, 34, 39] (True ∧ ((0 ≤ i193 ∧ i193 < ((x2.length : Nat) : Int)) ∧ (True ∧ True))) ⟨[(1, .one (.e (.sl 1 0 x2.length))), (5, .one (.e (.sl 2 0 x192.length))), (6, I i193), (31, B true), (32, .one (.e (.sl 1 0 x2.length))), (34, I (w64 (i193 + 1))), (39, I ((x2.getD i193.toNat drcd).who))], [.row .nod x1 false, .row .rcd x2 false, .row .nod x192 true]⟩ (by kernel_rfl) ⟨trivial, hg261, trivial, trivial⟩ ?_
          refine bindO_e hv259 (fun b262 hc263 hv259 => ?_)
          refine WO_call [.ro 1] Try.f44 rfl rfl rfl (by kernel_rfl) rfl rfl (by kernel_rfl) (spec_ended_ok n x2 (w64 (i193 + 1)) ((x2.getD i193.toNat drcd).who) b262 hc263) (And.intro (And.intro rfl rfl) (trivial)) rfl ?_
          refine WO_step 1 [0, 1, 2] [1, 5, 6, 41] True ⟨[(1, .one (.e (.sl 1 0 x2.length))), (5, .one (.e (.sl 2 0 x192.length))), (6, I i193), (41, B b262)], [.row .nod x1 false, .row .rcd x2 false, .row .nod x192 true]⟩ (by kernel_rfl) trivial ?_
          cases hv259
          exact WO_nil rfl ⟨rfl, rfl⟩
        · refine WO_step 10 [0, 1, 2] [1, 5, 6, 41] True ⟨[(1, .one (.e (.sl 1 0 x2.length))), (5, .one (.e (.sl 2 0 x192.length))), (6, I i193), (41, B false)], [.row .nod x1 false, .row .rcd x2 false, .row .nod x192 true]⟩ (by kernel_rfl) trivial ?_
          cases hv259
          exact WO_nil rfl ⟨rfl, rfl⟩
      · refine thenS_n ?_
        refine bindO_e h (fun x268 hx268 h => ?_)
        refine W_cut (Q' := fun (e : Exit) (s : St) => e = .normal ∧ s = ⟨[(1, .one (.e (.sl 1 0 x2.length))), (5, .one (.e (.sl 2 0 x268.length))), (6, I i193)], [.row .nod x1 false, .row .rcd x2 false, .row .nod x268 true]⟩) ?_ ?_
        · refine iteO_e hx268 (fun hb270 hx268 => W_true rfl hb270 ?_) (fun hb270 hx268 => W_false rfl hb270 ?_)
          · refine guardO_e hx268 (fun hg271 hx268 => ?_)
            refine guardO_e hx268 (fun hg272 hx268 => ?_)
            refine guardO_e hx268 (fun hg273 hx268 => ?_)
            refine W_cut (Q' := fun (e : Exit) (s : St) => e = .normal ∧ s = ⟨[(1, .one (.e (.sl 1 0 x2.length))), (5, .one (.e (.sl 2 0 ((x192.set (((x2.getD i193.toNat drcd).node).toNat) (⟨(x192.getD (((x2.getD i193.toNat drcd).node).toNat) dnod).parent, (x192.getD (((x2.getD i193.toNat drcd).node).toNat) dnod).name, (x2.getD i193.toNat drcd).value⟩ : Nod)).length)))), (6, I i193)], [.row .nod x1 false, .row .rcd x2 false, .row .nod (x192.set (((x2.getD i193.toNat drcd).node).toNat) (⟨(x192.getD (((x2.getD i193.toNat drcd).node).toNat) dnod).parent, (x192.getD (((x2.getD i193.toNat drcd).node).toNat) dnod).name, (x2.getD i193.toNat drcd).value⟩ : Nod)) true]⟩) ?_ ?_
            · refine W_draw [2] false (by kernel_rfl) (by kernel_rfl) ?_
              refine WD_takeK [0, 1, 2, 3, 4, 5, 6, 7, 8, 9, 10] [1, 5, 6, 42, 47, 52] [1, 5, 6, 42, 47, 52] (φ := ((0 ≤ i193 ∧ i193 < ((x2.length : Nat) : Int)) ∧ (0 ≤ i193 ∧ i193 < ((x2.length : Nat) : Int)) ∧ (True ∧ True ∧ ((0 ≤ i193 ∧ i193 < ((x2.length : Nat) : Int)) ∧ (0 ≤ i193 ∧ i193 < ((x2.length : Nat) : Int)) ∧ (True ∧ True ∧ True))))) (ls' := #[true, true, true, true, true, true, true, true, true, true, true, false, false, false]) (Ts' := [(1, .one (.e (.sl 1 0 x2.length))), (5, .one (.e (.sl 2 0 x192.length))), (6, I i193), (42, .one (.e (.sl 2 0 x192.length))), (47, I ((x2.getD i193.toNat drcd).node)), (52, I ((x2.getD i193.toNat drcd).value))]) (st' := ⟨[(1, .one (.e (.sl 1 0 x2.length))), (5, .one (.e (.sl 2 0 x192.length))), (6, I i193), (42, .one (.e (.sl 2 0 x192.length))), (47, I ((x2.getD i193.toNat drcd).node)), (52, I ((x2.getD i193.toNat drcd).value))], [.row .nod x1 false, .row .rcd x2 false, .row .nod x192 true]⟩) (n2 := 3) (by kernel_rfl) ⟨hg271, hg271, trivial, trivial, hg272, hg272, trivial, trivial, trivial⟩ rfl ?_
              refine WD_all [11] (n := 2) (by kernel_rfl) rfl ?_
              refine WM_op (φ := 0 ≤ (x2.getD i193.toNat drcd).node ∧ (x2.getD i193.toNat drcd).node < ((x192.length : Nat) : Int)) (v := .one (.e (.rp 2 (((x2.getD i193.toNat drcd).node).toNat) 0))) (H' := [.row .nod x1 false, .row .rcd x2 false, .row .nod x192 true]) rfl rfl (by kernel_rfl) hg273 rfl (And.intro rfl (And.intro rfl (trivial))) ?_
              refine WD_all [12] (n := 1) (by kernel_rfl) rfl ?_
              refine WM_op (φ := True) (v := .one (.e (.rp 2 (((x2.getD i193.toNat drcd).node).toNat) 2))) (H' := [.row .nod x1 false, .row .rcd x2 false, .row .nod x192 true]) rfl rfl (by kernel_rfl) trivial rfl (And.intro rfl (And.intro rfl (trivial))) ?_
              refine WD_all [13] (n := 0) (by kernel_rfl) rfl ?_
              refine WM_store (u := .one (.e (.rp 2 (((x2.getD i193.toNat drcd).node).toNat) 2))) (v := I ((x2.getD i193.toNat drcd).value)) (φ := True) (H' := [.row .nod x1 false, .row .rcd x2 false, .row .nod (x192.set (((x2.getD i193.toNat drcd).node).toNat) (⟨(x192.getD (((x2.getD i193.toNat drcd).node).toNat) dnod).parent, (x192.getD (((x2.getD i193.toNat drcd).node).toNat) dnod).name, (x2.getD i193.toNat drcd).value⟩ : Nod)) true]) rfl rfl rfl rfl rfl (by kernel_rfl) trivial rfl (And.intro rfl (And.intro rfl (trivial))) ?_
              exact WD_done [0, 1, 2] [1, 5, 6] (st' := ⟨[(1, .one (.e (.sl 1 0 x2.length))), (5, .one (.e (.sl 2 0 x192.length))), (6, I i193)], [.row .nod x1 false, .row .rcd x2 false, .row .nod (x192.set (((x2.getD i193.toNat drcd).node).toNat) (⟨(x192.getD (((x2.getD i193.toNat drcd).node).toNat) dnod).parent, (x192.getD (((x2.getD i193.toNat drcd).node).toNat) dnod).name, (x2.getD i193.toNat drcd).value⟩ : Nod)) true]⟩) (by kernel_rfl) (by kernel_rfl) (And.intro rfl (by simp only [List.length_set]))
            · rintro _ _ ⟨rfl, rfl⟩
              cases hx268
              exact And.intro rfl rfl
          · refine W_sub [0, 1, 2] [1, 5, 6] (st' := ⟨[(1, .one (.e (.sl 1 0 x2.length))), (5, .one (.e (.sl 2 0 x192.length))), (6, I i193)], [.row .nod x1 false, .row .rcd x2 false, .row .nod x192 true]⟩) (by kernel_rfl) ?_
            refine W_skip ?_
            cases hx268
            exact And.intro rfl rfl
        · rintro _ _ ⟨rfl, rfl⟩
          refine blockS_n ?_
          refine thenS_n ?_
          refine W_region ?_
          refine WO_step 3 [0, 1, 2] [1, 5, 6] (True ∧ True) ⟨[(1, .one (.e (.sl 1 0 x2.length))), (5, .one (.e (.sl 2 0 x268.length))), (6, I (w64 (i193 + 1)))], [.row .nod x1 false, .row .rcd x2 false, .row .nod x268 true]⟩ (by kernel_rfl) ⟨trivial, trivial⟩ ?_
          refine WO_nil rfl ?_
          refine thenS_n ?_
          exact ih _ _ h
    · refine W_sub [0, 1, 2] [5] (st' := ⟨[(5, .one (.e (.sl 2 0 x192.length)))], [.row .nod x1 false, .row .rcd x2 false, .row .nod x192 true]⟩) (by kernel_rfl) ?_
      refine W_exit ?_
      refine thenS_e ?_
      refine thenS_e ?_
      cases h
      exact And.intro rfl rfl

def spec_RedoLog (n : Nat) (x1 : List Nod) (x2 : List Rcd) : Option ((List Nod)) :=
 bindO (spec_validTree n x1) fun b137 =>
 bindO (iteO (!b137)
 (some true)
 (bindO (spec_validLog n x1 x2) fun b145 =>
 some (!b145))) fun b142 =>
 iteO b142
 (some ([] : List Nod))
 (guardO (0 = 0 ∧ ([] : List Nod).length = ([] : List Nod).length ∧ ([] : List Nod).length + ((x1.drop 0).take x1.length).length ≤ 1099511627776) <|
 bindO (spec_RedoLog_L1 x2 x1 n (([] : List Nod) ++ ((x1.drop 0).take x1.length)) 0) fun x232 =>
 some x232)

theorem spec_RedoLog_ok (n : Nat) (x1 : List Nod) (x2 : List Rcd) (x136 : List Nod) (h : spec_RedoLog n x1 x2 = some x136) : FOk EE 21 [.one (.e (.sl 0 0 x1.length)), .one (.e (.sl 1 0 x2.length))] [.row .nod x1 false, .row .rcd x2 false] (.one (.e (.sl 2 0 x136.length))) [.row .nod x1 false, .row .rcd x2 false, .row .nod x136 true] := by
  unfold spec_RedoLog at h
  refine FOk_of_W 56 2 Try.func21 rfl rfl (Nat.le_of_ble_eq_true rfl) rfl (fun w X θ => ?_)
  refine W_seq ?_
  refine W_region ?_
  refine WO_step 1 [0, 1] [0, 1] True ⟨[(0, .one (.e (.sl 0 0 x1.length))), (1, .one (.e (.sl 1 0 x2.length)))], [.row .nod x1 false, .row .rcd x2 false]⟩ (by kernel_rfl) trivial ?_
  refine WO_nil rfl ?_
  refine thenS_n ?_
  refine W_seq ?_
  refine W_seq ?_
  refine W_region ?_
  refine WO_step 1 [0, 1] [0, 1, 7] True ⟨[(0, .one (.e (.sl 0 0 x1.length))), (1, .one (.e (.sl 1 0 x2.length))), (7, .one (.e (.sl 0 0 x1.length)))], [.row .nod x1 false, .row .rcd x2 false]⟩ (by kernel_rfl) trivial ?_
  refine bindO_e h (fun b137 hc138 h => ?_)
  refine WO_call [.ro 0] Try.f42 rfl rfl rfl (by kernel_rfl) rfl rfl (by kernel_rfl) (spec_validTree_ok n x1 b137 hc138) (And.intro (And.intro rfl rfl) (trivial)) rfl ?_
  refine WO_step 2 [0, 1] [0, 1, 10] True ⟨[(0, .one (.e (.sl 0 0 x1.length))), (1, .one (.e (.sl 1 0 x2.length))), (10, B (!b137))], [.row .nod x1 false, .row .rcd x2 false]⟩ (by kernel_rfl) trivial ?_
  refine bindO_e h (fun b142 hv143 h => ?_)
  refine WO_thru ⟨[(0, .one (.e (.sl 0 0 x1.length))), (1, .one (.e (.sl 1 0 x2.length))), (15, B b142)], [.row .nod x1 false, .row .rcd x2 false]⟩ ?_ ?_
  · refine iteO_e hv143 (fun hb144 hv143 => WO_known 10 true rfl hb144 ?_) (fun hb144 hv143 => WO_known 10 false rfl hb144 ?_)
    · refine WO_step 5 [0, 1] [0, 1, 15] True ⟨[(0, .one (.e (.sl 0 0 x1.length))), (1, .one (.e (.sl 1 0 x2.length))), (15, B true)], [.row .nod x1 false, .row .rcd x2 false]⟩ (by kernel_rfl) trivial ?_
      cases hv143
      exact WO_nil rfl ⟨rfl, rfl⟩
    · refine WO_step 2 [0, 1] [0, 1, 10, 11, 12] True ⟨[(0, .one (.e (.sl 0 0 x1.length))), (1, .one (.e (.sl 1 0 x2.length))), (10, B false), (11, .one (.e (.sl 0 0 x1.length))), (12, .one (.e (.sl 1 0 x2.length)))], [.row .nod x1 false, .row .rcd x2 false]⟩ (by kernel_rfl) trivial ?_
      refine bindO_e hv143 (fun b145 hc146 hv143 => ?_)
      refine WO_call [.ro 0, .ro 1] Try.f43 rfl rfl rfl (by kernel_rfl) rfl rfl (by kernel_rfl) (spec_validLog_ok n x1 x2 b145 hc146) (And.intro (And.intro rfl rfl) (And.intro (And.intro rfl rfl) (trivial))) rfl ?_
      refine WO_step 2 [0, 1] [0, 1, 15] True ⟨[(0, .one (.e (.sl 0 0 x1.length))), (1, .one (.e (.sl 1 0 x2.length))), (15, B (!b145))], [.row .nod x1 false, .row .rcd x2 false]⟩ (by kernel_rfl) trivial ?_
      cases hv143
      exact WO_nil rfl ⟨rfl, rfl⟩
  · refine thenS_n ?_
    refine iteO_e h (fun hb148 h => W_true rfl hb148 ?_) (fun hb148 h => W_false rfl hb148 ?_)
    · refine W_seq ?_
      refine W_region ?_
      refine WO_step 1 [0, 1] [4] True ⟨[(4, .one (.e (.nsl)))], [.row .nod x1 false, .row .rcd x2 false]⟩ (by kernel_rfl) trivial ?_
      refine WO_nilrow 4 .nod rfl ?_
      refine WO_sub [0, 1, 2] [4] (st' := ⟨[(4, .one (.e (.sl 2 0 (([] : List Nod).length))))], [.row .nod x1 false, .row .rcd x2 false, .row .nod ([] : List Nod) true]⟩) (by kernel_rfl) ?_
      refine WO_nil rfl ?_
      refine thenS_n ?_
      refine W_ret ?_
      refine thenS_r ?_
      cases h
      exact ⟨[0, 1, 2], True, by kernel_rfl, trivial⟩
    · refine W_sub [0, 1] [0, 1] (st' := ⟨[(0, .one (.e (.sl 0 0 x1.length))), (1, .one (.e (.sl 1 0 x2.length)))], [.row .nod x1 false, .row .rcd x2 false]⟩) (by kernel_rfl) ?_
      refine W_skip ?_
      refine thenS_n ?_
      refine W_seq ?_
      refine W_region ?_
      refine guardO_e h (fun hg149 h => ?_)
      refine WO_step 4 [0, 1, 3] [1, 5] ((0 = 0 ∧ ([] : List Nod).length = ([] : List Nod).length ∧ ([] : List Nod).length + ((x1.drop 0).take x1.length).length ≤ 1099511627776) ∧ True) ⟨[(1, .one (.e (.sl 1 0 x2.length))), (5, .one (.e (.sl 2 0 ((([] : List Nod) ++ ((x1.drop 0).take x1.length)).length))))], [.row .nod x1 false, .row .rcd x2 false, .row .nod (([] : List Nod) ++ ((x1.drop 0).take x1.length)) true]⟩ (by kernel_rfl) ⟨hg149, trivial⟩ ?_
      refine WO_nil rfl ?_
      refine thenS_n ?_
      refine W_seq ?_
      refine W_seq ?_
      refine W_region ?_
      refine WO_step 1 [0, 1, 2] [1, 5, 6] True ⟨[(1, .one (.e (.sl 1 0 x2.length))), (5, .one (.e (.sl 2 0 ((([] : List Nod) ++ ((x1.drop 0).take x1.length)).length)))), (6, I 0)], [.row .nod x1 false, .row .rcd x2 false, .row .nod (([] : List Nod) ++ ((x1.drop 0).take x1.length)) true]⟩ (by kernel_rfl) trivial ?_
      refine WO_nil rfl ?_
      refine thenS_n ?_
      refine W_block ?_
      refine W_loop ?_
      refine bindO_e h (fun x232 hx232 h => ?_)
      refine WL_cut (spec_RedoLog_L1_ok w X θ x2 x1 x232 n (([] : List Nod) ++ ((x1.drop 0).take x1.length)) 0 hx232) ?_
      rintro _ _ ⟨rfl, rfl⟩
      refine blockS_y ?_
      refine thenS_n ?_
      refine W_seq ?_
      refine W_region ?_
      refine WO_step 2 [0, 1, 2] [4] True ⟨[(4, .one (.e (.sl 2 0 x232.length)))], [.row .nod x1 false, .row .rcd x2 false, .row .nod x232 true]⟩ (by kernel_rfl) trivial ?_
      refine WO_nil rfl ?_
      refine thenS_n ?_
      refine W_ret ?_
      cases h
      exact ⟨[0, 1, 2], True, by kernel_rfl, trivial⟩

/- laws.heldNodeS -/
def laws_heldNodeS_L1 (x1 : List Nod) : Nat → Int → Int → Option ((Unit) ⊕ (Int))
| 0, _, _ => none
| n + 1, i118, i119 =>
 iteO (decide (i119 < ((x1.length : Nat) : Int)))
 (guardO (0 ≤ i119 ∧ i119 < ((x1.length : Nat) : Int)) <|
 iteO (!decide (((x1.getD i119.toNat dnod).parent) = i118))
 (some (.inl ()))
 (guardO (0 ≤ i119 ∧ i119 < ((x1.length : Nat) : Int)) <|
 bindO (laws_markText n (w64 (i118 + 1))) fun s165 =>
 iteO (!decide (((x1.getD i119.toNat dnod).name) = s165))
 (some (.inl ()))
 (guardO (0 ≤ i119 ∧ i119 < ((x1.length : Nat) : Int)) <|
 iteO (!decide (((x1.getD i119.toNat dnod).value) = (w64 ((w64 (i118 + 1)) + 1))))
 (some (.inl ()))
 (laws_heldNodeS_L1 x1 n (w64 ((w64 ((w64 (i118 + 1)) + 1)) + 1)) (w64 (i119 + 1))))))
 (some (.inr i118))

theorem laws_heldNodeS_L1_ok (w : World) (X : Nat → Prop) (θ : List Loc) (x1 : List Nod) (v : (Unit) ⊕ (Int)) : ∀ (n : Nat) (i118 : Int) (i119 : Int), laws_heldNodeS_L1 x1 n i118 i119 = some v → WL EE ⟨w, X, θ, 41, 1⟩ (subC [1, 0, 1, 4, 4] (bodyC Try.f34)) (fun (e : Exit) (s : St) => (match v with | (.inl _) => e = .ret ∧ s = ⟨[(4, I (-1))], [.row .nod x1 false]⟩ | (.inr i146) => e = .exit 0 ∧ s = ⟨[(1, I i146)], [.row .nod x1 false]⟩ : Prop)) ⟨[(0, .one (.e (.sl 0 0 x1.length))), (1, I i118), (5, I i119)], [.row .nod x1 false]⟩ := by
  intro n
  induction n with
  | zero => intro _ _ h; exact none_e h
  | succ n ih =>
    intro i118 i119 h
    rw [laws_heldNodeS_L1] at h
    refine WL_round ?_
    refine W_seq ?_
    refine W_seq ?_
    refine W_region ?_
    refine WO_step 4 [0] [0, 1, 5, 9] (True ∧ (True ∧ True)) ⟨[(0, .one (.e (.sl 0 0 x1.length))), (1, I i118), (5, I i119), (9, B (decide (i119 < ((x1.length : Nat) : Int))))], [.row .nod x1 false]⟩ (by kernel_rfl) ⟨trivial, trivial, trivial⟩ ?_
    refine WO_nil rfl ?_
    refine thenS_n ?_
    refine iteO_e h (fun hb149 h => W_true rfl hb149 ?_) (fun hb149 h => W_false rfl hb149 ?_)
    · refine W_sub [0] [0, 1, 5] (st' := ⟨[(0, .one (.e (.sl 0 0 x1.length))), (1, I i118), (5, I i119)], [.row .nod x1 false]⟩) (by kernel_rfl) ?_
      refine W_skip ?_
      refine thenS_n ?_
      refine W_seq ?_
      refine W_block ?_
      refine W_seq ?_
      refine W_seq ?_
      refine W_region ?_
      refine guardO_e h (fun hg161 h => ?_)
      refine WO_step 7 [0] [0, 1, 5, 18] ((0 ≤ i119 ∧ i119 < ((x1.length : Nat) : Int)) ∧ (True ∧ (True ∧ True))) ⟨[(0, .one (.e (.sl 0 0 x1.length))), (1, I i118), (5, I i119), (18, B (!decide (((x1.getD i119.toNat dnod).parent) = i118)))], [.row .nod x1 false]⟩ (by kernel_rfl) ⟨hg161, trivial, trivial, trivial⟩ ?_
      refine WO_nil rfl ?_
      refine thenS_n ?_
      refine iteO_e h (fun hb163 h => W_true rfl hb163 ?_) (fun hb163 h => W_false rfl hb163 ?_)
      · refine W_seq ?_
        refine W_region ?_
        refine WO_step 1 [0] [4] True ⟨[(4, I (-1))], [.row .nod x1 false]⟩ (by kernel_rfl) trivial ?_
        refine WO_nil rfl ?_
        refine thenS_n ?_
        refine W_ret ?_
        refine thenS_r ?_
        refine blockS_r ?_
        refine thenS_r ?_
        refine thenS_r ?_
        cases h
        exact And.intro rfl rfl
      · refine W_sub [0] [0, 1, 5] (st' := ⟨[(0, .one (.e (.sl 0 0 x1.length))), (1, I i118), (5, I i119)], [.row .nod x1 false]⟩) (by kernel_rfl) ?_
        refine W_skip ?_
        refine thenS_n ?_
        refine W_seq ?_
        refine W_region ?_
        refine WO_step 3 [0] [0, 1, 5] (True ∧ True) ⟨[(0, .one (.e (.sl 0 0 x1.length))), (1, I (w64 (i118 + 1))), (5, I i119)], [.row .nod x1 false]⟩ (by kernel_rfl) ⟨trivial, trivial⟩ ?_
        refine WO_nil rfl ?_
        refine thenS_n ?_
        refine W_seq ?_
        refine W_seq ?_
        refine guardO_e h (fun hg164 h => ?_)
        refine bindO_e h (fun s165 hc166 h => ?_)
        refine W_cut (Q' := fun (e : Exit) (s : St) => e = .normal ∧ s = ⟨[(0, .one (.e (.sl 0 0 x1.length))), (1, I (w64 (i118 + 1))), (5, I i119), (28, B (!decide (((x1.getD i119.toNat dnod).name) = s165)))], [.row .nod x1 false]⟩) ?_ ?_
        · refine W_draw [] false (by kernel_rfl) (by kernel_rfl) ?_
          refine WD_takeK [0, 1, 2, 3, 4, 5] [0, 1, 5, 25, 26] [0, 1, 5, 25, 26] (φ := ((0 ≤ i119 ∧ i119 < ((x1.length : Nat) : Int)) ∧ (0 ≤ i119 ∧ i119 < ((x1.length : Nat) : Int)) ∧ (True ∧ True ∧ True))) (ls' := #[true, true, true, true, true, true, false, false]) (Ts' := [(0, .one (.e (.sl 0 0 x1.length))), (1, I (w64 (i118 + 1))), (5, I i119), (25, S ((x1.getD i119.toNat dnod).name)), (26, I (w64 (i118 + 1)))]) (st' := ⟨[(0, .one (.e (.sl 0 0 x1.length))), (1, I (w64 (i118 + 1))), (5, I i119), (25, S ((x1.getD i119.toNat dnod).name)), (26, I (w64 (i118 + 1)))], [.row .nod x1 false]⟩) (n2 := 2) (by kernel_rfl) ⟨hg164, hg164, trivial, trivial, trivial⟩ rfl ?_
          refine WD_all [6] (n := 1) (by kernel_rfl) rfl ?_
          refine WM_call [] Try.f57 rfl rfl (by kernel_rfl) rfl rfl (by kernel_rfl) (laws_markText_ok n (w64 (i118 + 1)) s165 hc166) (trivial) rfl (And.intro rfl (trivial)) ?_
          refine WD_takeK [7] [0, 1, 5, 28] [0, 1, 5, 28] (φ := (True ∧ True ∧ True)) (ls' := #[true, true, true, true, true, true, true, true]) (Ts' := [(0, .one (.e (.sl 0 0 x1.length))), (1, I (w64 (i118 + 1))), (5, I i119), (28, B (!decide (((x1.getD i119.toNat dnod).name) = s165)))]) (st' := ⟨[(0, .one (.e (.sl 0 0 x1.length))), (1, I (w64 (i118 + 1))), (5, I i119), (28, B (!decide (((x1.getD i119.toNat dnod).name) = s165)))], [.row .nod x1 false]⟩) (n2 := 0) (by kernel_rfl) ⟨trivial, trivial, trivial⟩ rfl ?_
          exact WD_done [0] [0, 1, 5, 28] (st' := ⟨[(0, .one (.e (.sl 0 0 x1.length))), (1, I (w64 (i118 + 1))), (5, I i119), (28, B (!decide (((x1.getD i119.toNat dnod).name) = s165)))], [.row .nod x1 false]⟩) (by kernel_rfl) (by kernel_rfl) (And.intro rfl rfl)
        · rintro _ _ ⟨rfl, rfl⟩
          refine thenS_n ?_
          refine iteO_e h (fun hb168 h => W_true rfl hb168 ?_) (fun hb168 h => W_false rfl hb168 ?_)
          · refine W_seq ?_
            refine W_region ?_
            refine WO_step 1 [0] [4] True ⟨[(4, I (-1))], [.row .nod x1 false]⟩ (by kernel_rfl) trivial ?_
            refine WO_nil rfl ?_
            refine thenS_n ?_
            refine W_ret ?_
            refine thenS_r ?_
            refine blockS_r ?_
            refine thenS_r ?_
            refine thenS_r ?_
            cases h
            exact And.intro rfl rfl
          · refine W_sub [0] [0, 1, 5] (st' := ⟨[(0, .one (.e (.sl 0 0 x1.length))), (1, I (w64 (i118 + 1))), (5, I i119)], [.row .nod x1 false]⟩) (by kernel_rfl) ?_
            refine W_skip ?_
            refine thenS_n ?_
            refine W_seq ?_
            refine W_region ?_
            refine WO_step 3 [0] [0, 1, 5] (True ∧ True) ⟨[(0, .one (.e (.sl 0 0 x1.length))), (1, I (w64 ((w64 (i118 + 1)) + 1))), (5, I i119)], [.row .nod x1 false]⟩ (by kernel_rfl) ⟨trivial, trivial⟩ ?_
            refine WO_nil rfl ?_
            refine thenS_n ?_
            refine W_seq ?_
            refine W_seq ?_
            refine W_region ?_
            refine guardO_e h (fun hg169 h => ?_)
            refine WO_step 7 [0] [0, 1, 5, 37] ((0 ≤ i119 ∧ i119 < ((x1.length : Nat) : Int)) ∧ (True ∧ (True ∧ True))) ⟨[(0, .one (.e (.sl 0 0 x1.length))), (1, I (w64 ((w64 (i118 + 1)) + 1))), (5, I i119), (37, B (!decide (((x1.getD i119.toNat dnod).value) = (w64 ((w64 (i118 + 1)) + 1)))))], [.row .nod x1 false]⟩ (by kernel_rfl) ⟨hg169, trivial, trivial, trivial⟩ ?_
            refine WO_nil rfl ?_
            refine thenS_n ?_
            refine iteO_e h (fun hb171 h => W_true rfl hb171 ?_) (fun hb171 h => W_false rfl hb171 ?_)
            · refine W_seq ?_
              refine W_region ?_
              refine WO_step 1 [0] [4] True ⟨[(4, I (-1))], [.row .nod x1 false]⟩ (by kernel_rfl) trivial ?_
              refine WO_nil rfl ?_
              refine thenS_n ?_
              refine W_ret ?_
              refine thenS_r ?_
              refine blockS_r ?_
              refine thenS_r ?_
              refine thenS_r ?_
              cases h
              exact And.intro rfl rfl
            · refine W_sub [0] [0, 1, 5] (st' := ⟨[(0, .one (.e (.sl 0 0 x1.length))), (1, I (w64 ((w64 (i118 + 1)) + 1))), (5, I i119)], [.row .nod x1 false]⟩) (by kernel_rfl) ?_
              refine W_skip ?_
              refine thenS_n ?_
              refine W_region ?_
              refine WO_step 3 [0] [0, 1, 5] (True ∧ True) ⟨[(0, .one (.e (.sl 0 0 x1.length))), (1, I (w64 ((w64 ((w64 (i118 + 1)) + 1)) + 1))), (5, I i119)], [.row .nod x1 false]⟩ (by kernel_rfl) ⟨trivial, trivial⟩ ?_
              refine WO_nil rfl ?_
              refine blockS_n ?_
              refine thenS_n ?_
              refine W_region ?_
              refine WO_step 3 [0] [0, 1, 5] (True ∧ True) ⟨[(0, .one (.e (.sl 0 0 x1.length))), (1, I (w64 ((w64 ((w64 (i118 + 1)) + 1)) + 1))), (5, I (w64 (i119 + 1)))], [.row .nod x1 false]⟩ (by kernel_rfl) ⟨trivial, trivial⟩ ?_
              refine WO_nil rfl ?_
              refine thenS_n ?_
              exact ih _ _ h
    · refine W_sub [0] [1] (st' := ⟨[(1, I i118)], [.row .nod x1 false]⟩) (by kernel_rfl) ?_
      refine W_exit ?_
      refine thenS_e ?_
      refine thenS_e ?_
      cases h
      exact And.intro rfl rfl

def laws_heldNodeS (n : Nat) (x1 : List Nod) (i2 : Int) : Option (Int) :=
 bindO (laws_heldNodeS_L1 x1 n i2 0) fun v172 =>
 match v172 with
 | (.inl _) => (some (-1))
 | (.inr i146) => (some i146)


theorem laws_heldNodeS_ok (n : Nat) (x1 : List Nod) (i2 : Int) (i87 : Int) (h : laws_heldNodeS n x1 i2 = some i87) : FOk EE 34 [.one (.e (.sl 0 0 x1.length)), I i2] [.row .nod x1 false] (I i87) [.row .nod x1 false] := by
  unfold laws_heldNodeS at h
  refine FOk_of_W 41 1 Try.func34 rfl rfl (Nat.le_of_ble_eq_true rfl) rfl (fun w X θ => ?_)
  refine W_seq ?_
  refine W_region ?_
  refine WO_step 1 [0] [0, 1] True ⟨[(0, .one (.e (.sl 0 0 x1.length))), (1, I i2)], [.row .nod x1 false]⟩ (by kernel_rfl) trivial ?_
  refine WO_nil rfl ?_
  refine thenS_n ?_
  refine W_seq ?_
  refine W_seq ?_
  refine W_region ?_
  refine WO_step 1 [0] [0, 1, 5] True ⟨[(0, .one (.e (.sl 0 0 x1.length))), (1, I i2), (5, I 0)], [.row .nod x1 false]⟩ (by kernel_rfl) trivial ?_
  refine WO_nil rfl ?_
  refine thenS_n ?_
  refine W_block ?_
  refine W_loop ?_
  refine bindO_e h (fun v172 hv172 h => ?_)
  refine WL_cut (laws_heldNodeS_L1_ok w X θ x1 v172 n i2 0 hv172) ?_
  rcases v172 with _ | i146
  · rintro _ _ ⟨rfl, rfl⟩
    refine blockS_r ?_
    refine thenS_r ?_
    cases h
    exact ⟨[0], True, by kernel_rfl, trivial⟩
  · rintro _ _ ⟨rfl, rfl⟩
    refine blockS_y ?_
    refine thenS_n ?_
    refine W_seq ?_
    refine W_region ?_
    refine WO_step 2 [0] [4] True ⟨[(4, I i146)], [.row .nod x1 false]⟩ (by kernel_rfl) trivial ?_
    refine WO_nil rfl ?_
    refine thenS_n ?_
    refine W_ret ?_
    cases h
    exact ⟨[0], True, by kernel_rfl, trivial⟩

end Go.Proofs.Ytdkmgkeaebcobaa
