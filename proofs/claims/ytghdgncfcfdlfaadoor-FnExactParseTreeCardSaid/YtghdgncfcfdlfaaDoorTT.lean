import Derived.Test.YtghdgncfcfdlfaaDoorTT1
namespace Go.Proofs.YtghdgncfcfdlfaaDoor
open Go Go.Shelf Go.Proofs
set_option linter.unusedVariables false
/- impl.PathTo -/
def impl_PathTo_L1 (x1 : List Nod) : Nat → (List Int) → Int → Option ((List Int))
| 0, _, _ => none
| n + 1, x53, i54 =>
iteO (decide (0 ≤ i54))
 (guardO (0 = 0 ∧ x53.length = x53.length ∧ x53.length + (([i54].drop 0).take ([i54].length)).length ≤ 1099511627776) <|
guardO (0 ≤ i54 ∧ i54 < ((x1.length : Nat) : Int)) <|
impl_PathTo_L1 x1 n (x53 ++ (([i54].drop 0).take ([i54].length))) ((x1.getD i54.toNat dnod).parent))
 (some x53)

theorem impl_PathTo_L1_ok (w : World) (X : Nat → Prop) (θ : List Loc) (x1 : List Nod) (x62 : (List Int)) : ∀ (n : Nat) (x53 : List Int) (i54 : Int), impl_PathTo_L1 x1 n x53 i54 = some x62 → WL EE ⟨w, X, θ, 26, 1⟩ (subC [1, 1, 1, 0, 1, 4, 4] (bodyC Tryd.f42)) (fun (e : Exit) (s : St) => e = .exit 0 ∧ s = ⟨[(5, .one (.e (.sl 1 0 x62.length)))], [.row .nod x1 false, .row .int x62 true]⟩) ⟨[(0, .one (.e (.sl 0 0 x1.length))), (5, .one (.e (.sl 1 0 x53.length))), (6, I i54)], [.row .nod x1 false, .row .int x53 true]⟩ := by
  intro n
  induction n with
  | zero => intro _ _ h; exact none_e h
  | succ n ih =>
    intro x53 i54 h
    rw [impl_PathTo_L1] at h
    refine WL_round ?_
    refine W_seq ?_
    refine W_seq ?_
    refine W_region ?_
    refine WO_step 2 [0, 1] [0, 5, 6, 13] (True ∧ True) ⟨[(0, .one (.e (.sl 0 0 x1.length))), (5, .one (.e (.sl 1 0 x53.length))), (6, I i54), (13, B (decide (0 ≤ i54)))], [.row .nod x1 false, .row .int x53 true]⟩ (by kernel_rfl) ⟨trivial, trivial⟩ ?_
    refine WO_nil rfl ?_
    refine thenS_n ?_
    refine iteO_e h (fun hb65 h => W_true rfl hb65 ?_) (fun hb65 h => W_false rfl hb65 ?_)
    · refine W_sub [0, 1] [0, 5, 6] (st' := ⟨[(0, .one (.e (.sl 0 0 x1.length))), (5, .one (.e (.sl 1 0 x53.length))), (6, I i54)], [.row .nod x1 false, .row .int x53 true]⟩) (by kernel_rfl) ?_
      refine W_skip ?_
      refine thenS_n ?_
      refine W_seq ?_
      refine W_block ?_
      refine W_region ?_
      refine guardO_e h (fun hg67 h => ?_)
      refine WO_step 5 [0, 3] [0, 5, 6] ((0 = 0 ∧ x53.length = x53.length ∧ x53.length + (([i54].drop 0).take ([i54].length)).length ≤ 1099511627776) ∧ True) ⟨[(0, .one (.e (.sl 0 0 x1.length))), (5, .one (.e (.sl 1 0 ((x53 ++ (([i54].drop 0).take ([i54].length))).length)))), (6, I i54)], [.row .nod x1 false, .row .int (x53 ++ (([i54].drop 0).take ([i54].length))) true]⟩ (by kernel_rfl) ⟨hg67, trivial⟩ ?_
      refine WO_nil rfl ?_
      refine blockS_n ?_
      refine thenS_n ?_
      refine W_region ?_
      refine guardO_e h (fun hg68 h => ?_)
      refine WO_step 6 [0, 1] [0, 5, 6] ((0 ≤ i54 ∧ i54 < ((x1.length : Nat) : Int)) ∧ (True ∧ True)) ⟨[(0, .one (.e (.sl 0 0 x1.length))), (5, .one (.e (.sl 1 0 ((x53 ++ (([i54].drop 0).take ([i54].length))).length)))), (6, I ((x1.getD i54.toNat dnod).parent))], [.row .nod x1 false, .row .int (x53 ++ (([i54].drop 0).take ([i54].length))) true]⟩ (by kernel_rfl) ⟨hg68, trivial, trivial⟩ ?_
      refine WO_nil rfl ?_
      refine thenS_n ?_
      exact ih _ _ h
    · refine W_sub [0, 1] [5] (st' := ⟨[(5, .one (.e (.sl 1 0 x53.length)))], [.row .nod x1 false, .row .int x53 true]⟩) (by kernel_rfl) ?_
      refine W_exit ?_
      refine thenS_e ?_
      refine thenS_e ?_
      cases h
      exact And.intro rfl rfl

def impl_PathTo (n : Nat) (x1 : List Nod) (i2 : Int) : Option ((List Int)) :=
bindO (impl_isNode n x1 i2) fun b38 =>
iteO (!b38)
 (some ([] : List Int))
 (bindO (impl_PathTo_L1 x1 n ([] : List Int) i2) fun x62 =>
bindO (slices_Reverse_int_int n x62 x62.length) fun x70 =>
guardO (x62.length = x70.length) <|
some x70)

theorem impl_PathTo_ok (n : Nat) (x1 : List Nod) (i2 : Int) (x37 : List Int) (h : impl_PathTo n x1 i2 = some x37) : FOk EE 42 [.one (.e (.sl 0 0 x1.length)), I i2] [.row .nod x1 false] (.one (.e (.sl 1 0 x37.length))) [.row .nod x1 false, .row .int x37 true] := by
  unfold impl_PathTo at h
  refine FOk_of_W 26 1 Tryd.func42 rfl rfl (Nat.le_of_ble_eq_true rfl) rfl (fun w X θ => ?_)
  refine W_seq ?_
  refine W_region ?_
  refine WO_step 1 [0] [0, 1] True ⟨[(0, .one (.e (.sl 0 0 x1.length))), (1, I i2)], [.row .nod x1 false]⟩ (by kernel_rfl) trivial ?_
  refine WO_nil rfl ?_
  refine thenS_n ?_
  refine W_seq ?_
  refine W_seq ?_
  refine W_region ?_
  refine WO_step 2 [0] [0, 1, 7, 8] True ⟨[(0, .one (.e (.sl 0 0 x1.length))), (1, I i2), (7, .one (.e (.sl 0 0 x1.length))), (8, I i2)], [.row .nod x1 false]⟩ (by kernel_rfl) trivial ?_
  refine bindO_e h (fun b38 hc39 h => ?_)
  refine WO_call [.ro 0] Tryd.f59 rfl rfl rfl (by kernel_rfl) Tryd.func59 rfl (by kernel_rfl) (impl_isNode_ok n x1 i2 b38 hc39) (And.intro (And.intro rfl rfl) (trivial)) rfl ?_
  refine WO_step 1 [0] [0, 1, 10] True ⟨[(0, .one (.e (.sl 0 0 x1.length))), (1, I i2), (10, B (!b38))], [.row .nod x1 false]⟩ (by kernel_rfl) trivial ?_
  refine WO_nil rfl ?_
  refine thenS_n ?_
  refine iteO_e h (fun hb41 h => W_true rfl hb41 ?_) (fun hb41 h => W_false rfl hb41 ?_)
  · refine W_seq ?_
    refine W_region ?_
    refine WO_step 1 [0] [4] True ⟨[(4, .one (.e (.nsl)))], [.row .nod x1 false]⟩ (by kernel_rfl) trivial ?_
    refine WO_nilrow 4 .int rfl ?_
    refine WO_sub [0, 1] [4] (st' := ⟨[(4, .one (.e (.sl 1 0 (([] : List Int).length))))], [.row .nod x1 false, .row .int ([] : List Int) true]⟩) (by kernel_rfl) ?_
    refine WO_nil rfl ?_
    refine thenS_n ?_
    refine W_ret ?_
    refine thenS_r ?_
    cases h
    exact ⟨[0, 1], True, by kernel_rfl, trivial⟩
  · refine W_sub [0] [0, 1] (st' := ⟨[(0, .one (.e (.sl 0 0 x1.length))), (1, I i2)], [.row .nod x1 false]⟩) (by kernel_rfl) ?_
    refine W_skip ?_
    refine thenS_n ?_
    refine W_seq ?_
    refine W_region ?_
    refine WO_step 1 [0] [0, 1, 5] True ⟨[(0, .one (.e (.sl 0 0 x1.length))), (1, I i2), (5, .one (.e (.nsl)))], [.row .nod x1 false]⟩ (by kernel_rfl) trivial ?_
    refine WO_nilrow 5 .int rfl ?_
    refine WO_sub [0, 1] [0, 1, 5] (st' := ⟨[(0, .one (.e (.sl 0 0 x1.length))), (1, I i2), (5, .one (.e (.sl 1 0 (([] : List Int).length))))], [.row .nod x1 false, .row .int ([] : List Int) true]⟩) (by kernel_rfl) ?_
    refine WO_nil rfl ?_
    refine thenS_n ?_
    refine W_seq ?_
    refine W_seq ?_
    refine W_region ?_
    refine WO_step 2 [0, 1] [0, 5, 6] True ⟨[(0, .one (.e (.sl 0 0 x1.length))), (5, .one (.e (.sl 1 0 (([] : List Int).length)))), (6, I i2)], [.row .nod x1 false, .row .int ([] : List Int) true]⟩ (by kernel_rfl) trivial ?_
    refine WO_nil rfl ?_
    refine thenS_n ?_
    refine W_block ?_
    refine W_loop ?_
    refine bindO_e h (fun x62 hx62 h => ?_)
    refine WL_cut (impl_PathTo_L1_ok w X θ x1 x62 n ([] : List Int) i2 hx62) ?_
    rintro _ _ ⟨rfl, rfl⟩
    refine blockS_y ?_
    refine thenS_n ?_
    refine W_seq ?_
    refine W_region ?_
    refine WO_step 1 [0, 1] [5, 23] True ⟨[(5, .one (.e (.sl 1 0 x62.length))), (23, .one (.e (.sl 1 0 x62.length)))], [.row .nod x1 false, .row .int x62 true]⟩ (by kernel_rfl) trivial ?_
    refine bindO_e h (fun x70 hc71 h => ?_)
    refine guardO_e h (fun hl72 h => ?_)
    refine WO_call [.own 1] Tryd.f60 rfl rfl rfl (by kernel_rfl) Tryd.func60 rfl (by kernel_rfl) (slices_Reverse_int_int_ok n x62 x62.length x70 hc71) (And.intro (And.intro rfl (And.intro rfl hl72)) (trivial)) rfl ?_
    refine WO_sub [0, 1] [5, 23] (st' := ⟨[(5, .one (.e (.sl 1 0 x62.length))), (23, .one (.e (.sl 1 0 x62.length)))], [.row .nod x1 false, .row .int x70 true]⟩) (by kernel_rfl) ?_
    refine WO_eq (st' := ⟨[(5, .one (.e (.sl 1 0 x70.length))), (23, .one (.e (.sl 1 0 x70.length)))], [.row .nod x1 false, .row .int x70 true]⟩) (by simp only [hl72]) ?_
    refine WO_sub [0, 1] [5] (st' := ⟨[(5, .one (.e (.sl 1 0 x70.length)))], [.row .nod x1 false, .row .int x70 true]⟩) (by kernel_rfl) ?_
    refine WO_nil rfl ?_
    refine thenS_n ?_
    refine W_seq ?_
    refine W_region ?_
    refine WO_step 2 [0, 1] [4] True ⟨[(4, .one (.e (.sl 1 0 x70.length)))], [.row .nod x1 false, .row .int x70 true]⟩ (by kernel_rfl) trivial ?_
    refine WO_nil rfl ?_
    refine thenS_n ?_
    refine W_ret ?_
    cases h
    exact ⟨[0, 1], True, by kernel_rfl, trivial⟩

/- (*strings.Builder).copyCheck -/
def lays240R : Shelf.Ren := ⟨fun n => match n with | 240 => 41 | 276 => 58 | _ => 0, fun n => match n with | 0 => 0 | 4 => 4 | 9 => 9 | 20 => 20 | 70 => 36 | 72 => 38 | 164 => 79 | 37 => 22 | 5 => 5 | _ => 0, fun n => n⟩
set_option maxRecDepth 100000 in
theorem lays240 : Lays.n240 Tryd.prog lays240R where
  mixed := by kernel_rfl
  f240 := by kernel_rfl
  f276 := by kernel_rfl
  t0 := Tryd.underlying0
  a0 := Tryd.isAgg0
  z0 := Tryd.sizeOf0
  v0 := Tryd.zeroValue0
  t4 := Tryd.underlying4
  a4 := Tryd.isAgg4
  z4 := Tryd.sizeOf4
  v4 := Tryd.zeroValue4
  t9 := Tryd.underlying9
  a9 := Tryd.isAgg9
  z9 := Tryd.sizeOf9
  v9 := Tryd.zeroValue9
  t20 := Tryd.underlying20
  a20 := Tryd.isAgg20
  z20 := Tryd.sizeOf20
  v20 := Tryd.zeroValue20
  t70 := Tryd.underlying36
  a70 := Tryd.isAgg36
  z70 := Tryd.sizeOf36
  v70 := Tryd.zeroValue36
  t72 := Tryd.underlying38
  a72 := Tryd.isAgg38
  z72 := Tryd.sizeOf38
  v72 := Tryd.zeroValue38
  t164 := Tryd.underlying79
  a164 := Tryd.isAgg79
  z164 := Tryd.sizeOf79
  v164 := Tryd.zeroValue79
theorem x72 : Builder.X72 Tryd.prog lays240R where
  sizeBuilder := by kernel_rfl
  liesBuilder := by kernel_rfl
theorem copyCheck_ok (x1 : List Int) : FOk EE 41 [.one (.e (.p 0 0))] [.cells [.sp 0 38, .bsl 1 x1.length], .row .u8 x1 true] (.tup []) [.cells [.sp 0 38, .bsl 1 x1.length], .row .u8 x1 true] := by
  refine FOk_copy (fun b w h0 h1 h2 => ?_) (fun b w h0 => ?_) x1.length x1
  · exact Any.Builder_copyCheck_fresh lays240 x72 b w h0 h1 h2
  · exact Any.Builder_copyCheck_used lays240 x72 b w h0

/- (*strings.Builder).WriteByte -/
def strings_Builder_WriteByte (x1 : List Int) (i2 : Int) : Option ((List Int)) :=
guardO (0 = 0 ∧ x1.length = x1.length ∧ x1.length + (([i2].drop 0).take ([i2].length)).length ≤ 1099511627776) <|
some (x1 ++ (([i2].drop 0).take ([i2].length)))

theorem strings_Builder_WriteByte_ok (x1 : List Int) (i2 : Int) (x4 : List Int) (h : strings_Builder_WriteByte x1 i2 = some x4) : FOk EE 19 [.one (.e (.p 0 0)), U i2] [.cells [.sp 0 38, .bsl 1 x1.length], .row .u8 x1 true] (.one (.e (.nif))) [.cells [.sp 0 38, .bsl 2 x4.length], .dead, .row .u8 x4 true] := by
  unfold strings_Builder_WriteByte at h
  refine FOk_of_W 17 2 Tryd.func19 rfl rfl (Nat.le_of_ble_eq_true rfl) rfl (fun w X θ => ?_)
  refine W_seq ?_
  refine W_region ?_
  refine WO_step 1 [0, 1] [0, 1] True ⟨[(0, .one (.e (.p 0 0))), (1, U i2)], [.cells [.sp 0 38, .bsl 1 x1.length], .row .u8 x1 true]⟩ (by kernel_rfl) trivial ?_
  refine WO_nil rfl ?_
  refine thenS_n ?_
  refine W_seq ?_
  refine W_region ?_
  refine WO_step 1 [0, 1] [0, 1, 5] True ⟨[(0, .one (.e (.p 0 0))), (1, U i2), (5, .one (.e (.p 0 0)))], [.cells [.sp 0 38, .bsl 1 x1.length], .row .u8 x1 true]⟩ (by kernel_rfl) trivial ?_
  refine WO_call [.own 0, .own 1] Tryd.f41 rfl rfl rfl (by kernel_rfl) Tryd.func41 rfl (by kernel_rfl) (copyCheck_ok x1) (And.intro (trivial) (And.intro (And.intro rfl (And.intro rfl rfl)) (trivial))) rfl ?_
  refine WO_sub [0, 1] [0, 1] (st' := ⟨[(0, .one (.e (.p 0 0))), (1, U i2)], [.cells [.sp 0 38, .bsl 1 x1.length], .row .u8 x1 true]⟩) (by kernel_rfl) ?_
  refine WO_nil rfl ?_
  refine thenS_n ?_
  refine W_seq ?_
  refine W_region ?_
  refine guardO_e h (fun hg5 h => ?_)
  refine WO_step 11 [0, 1, 3] [] (True ∧ ((0 = 0 ∧ x1.length = x1.length ∧ x1.length + (([i2].drop 0).take ([i2].length)).length ≤ 1099511627776) ∧ (True ∧ True))) ⟨[], [.cells [.sp 0 38, .bsl 2 ((x1 ++ (([i2].drop 0).take ([i2].length))).length)], .dead, .row .u8 (x1 ++ (([i2].drop 0).take ([i2].length))) true]⟩ (by kernel_rfl) ⟨trivial, hg5, trivial, trivial⟩ ?_
  refine WO_nil rfl ?_
  refine thenS_n ?_
  refine W_seq ?_
  refine W_region ?_
  refine WO_step 1 [0, 1, 2] [4] True ⟨[(4, .one (.e (.nif)))], [.cells [.sp 0 38, .bsl 2 ((x1 ++ (([i2].drop 0).take ([i2].length))).length)], .dead, .row .u8 (x1 ++ (([i2].drop 0).take ([i2].length))) true]⟩ (by kernel_rfl) trivial ?_
  refine WO_nil rfl ?_
  refine thenS_n ?_
  refine W_ret ?_
  cases h
  exact ⟨[0, 1, 2], True, by kernel_rfl, trivial⟩

/- (*strings.Builder).WriteString -/
def strings_Builder_WriteString (x1 : List Int) (s2 : Str) : Option ((List Int) × Int) :=
guardO (0 = 0 ∧ x1.length = x1.length ∧ x1.length + ((s2 : Str).map fun b => ((b.toNat : Nat) : Int)).length ≤ 1099511627776) <|
some ((x1 ++ ((s2 : Str).map fun b => ((b.toNat : Nat) : Int))), ((s2.length : Nat) : Int))

theorem strings_Builder_WriteString_ok (x1 : List Int) (s2 : Str) (x4 : List Int) (i5 : Int) (h : strings_Builder_WriteString x1 s2 = some (x4, i5)) : FOk EE 17 [.one (.e (.p 0 0)), S s2] [.cells [.sp 0 38, .bsl 1 x1.length], .row .u8 x1 true] (.tup [.e (cI i5), .e (.nif)]) [.cells [.sp 0 38, .bsl 2 x4.length], .dead, .row .u8 x4 true] := by
  unfold strings_Builder_WriteString at h
  refine FOk_of_W 19 2 Tryd.func17 rfl rfl (Nat.le_of_ble_eq_true rfl) rfl (fun w X θ => ?_)
  refine W_seq ?_
  refine W_region ?_
  refine WO_step 2 [0, 1] [0, 1] True ⟨[(0, .one (.e (.p 0 0))), (1, S s2)], [.cells [.sp 0 38, .bsl 1 x1.length], .row .u8 x1 true]⟩ (by kernel_rfl) trivial ?_
  refine WO_nil rfl ?_
  refine thenS_n ?_
  refine W_seq ?_
  refine W_region ?_
  refine WO_step 1 [0, 1] [0, 1, 6] True ⟨[(0, .one (.e (.p 0 0))), (1, S s2), (6, .one (.e (.p 0 0)))], [.cells [.sp 0 38, .bsl 1 x1.length], .row .u8 x1 true]⟩ (by kernel_rfl) trivial ?_
  refine WO_call [.own 0, .own 1] Tryd.f41 rfl rfl rfl (by kernel_rfl) Tryd.func41 rfl (by kernel_rfl) (copyCheck_ok x1) (And.intro (trivial) (And.intro (And.intro rfl (And.intro rfl rfl)) (trivial))) rfl ?_
  refine WO_sub [0, 1] [0, 1] (st' := ⟨[(0, .one (.e (.p 0 0))), (1, S s2)], [.cells [.sp 0 38, .bsl 1 x1.length], .row .u8 x1 true]⟩) (by kernel_rfl) ?_
  refine WO_nil rfl ?_
  refine thenS_n ?_
  refine W_seq ?_
  refine W_region ?_
  refine guardO_e h (fun hg6 h => ?_)
  refine WO_step 10 [0, 1, 2] [1] (True ∧ ((0 = 0 ∧ x1.length = x1.length ∧ x1.length + ((s2 : Str).map fun b => ((b.toNat : Nat) : Int)).length ≤ 1099511627776) ∧ (True ∧ True))) ⟨[(1, S s2)], [.cells [.sp 0 38, .bsl 2 ((x1 ++ ((s2 : Str).map fun b => ((b.toNat : Nat) : Int))).length)], .dead, .row .u8 (x1 ++ ((s2 : Str).map fun b => ((b.toNat : Nat) : Int))) true]⟩ (by kernel_rfl) ⟨trivial, hg6, trivial, trivial⟩ ?_
  refine WO_nil rfl ?_
  refine thenS_n ?_
  refine W_seq ?_
  refine W_region ?_
  refine WO_step 4 [0, 1, 2] [4, 5] (True ∧ True) ⟨[(4, I ((s2.length : Nat) : Int)), (5, .one (.e (.nif)))], [.cells [.sp 0 38, .bsl 2 ((x1 ++ ((s2 : Str).map fun b => ((b.toNat : Nat) : Int))).length)], .dead, .row .u8 (x1 ++ ((s2 : Str).map fun b => ((b.toNat : Nat) : Int))) true]⟩ (by kernel_rfl) ⟨trivial, trivial⟩ ?_
  refine WO_nil rfl ?_
  refine thenS_n ?_
  refine W_ret ?_
  cases h
  exact ⟨[0, 1, 2], True, by kernel_rfl, trivial⟩

/- (*strings.Builder).String -/
def strings_Builder_String (x1 : List Int) : Option (Nat × Str) :=
guardO (((x1.length : Nat) : Int) = (x1.length : Int) ∧ ∀ x ∈ x1, 0 ≤ x ∧ x ≤ 255) <|
some (x1.length, (bytesOf x1))

theorem strings_Builder_String_ok (x1 : List Int) (k3 : Nat) (s4 : Str) (h : strings_Builder_String x1 = some (k3, s4)) : FOk EE 21 [.one (.e (.p 0 0))] [.cells [.sp 0 38, .bsl 1 x1.length], .row .u8 x1 true] (S s4) [.cells [.sp 0 38, .bsl 1 k3], .dead] := by
  unfold strings_Builder_String at h
  refine FOk_of_W 14 2 Tryd.func21 rfl rfl (Nat.le_of_ble_eq_true rfl) rfl (fun w X θ => ?_)
  refine W_seq ?_
  refine W_region ?_
  refine WO_step 1 [0, 1] [0] True ⟨[(0, .one (.e (.p 0 0)))], [.cells [.sp 0 38, .bsl 1 x1.length], .row .u8 x1 true]⟩ (by kernel_rfl) trivial ?_
  refine WO_nil rfl ?_
  refine thenS_n ?_
  refine W_seq ?_
  refine guardO_e h (fun hg5 h => ?_)
  refine W_cut (Q' := fun (e : Exit) (s : St) => e = .normal ∧ s = ⟨[(2, S (bytesOf x1))], [.cells [.sp 0 38, .bsl 1 x1.length], .dead]⟩) ?_ ?_
  · refine W_draw [1] false (by kernel_rfl) (by kernel_rfl) ?_
    refine WD_takeK [0, 1, 2, 5, 6, 7] [5, 10] [5, 10] (φ := True) (ls' := #[true, true, true, false, false, true, true, true, false, false, false, false]) (Ts' := [(5, .one (.e (.p 0 1))), (10, .one (.e (.p 0 1)))]) (st' := ⟨[(5, .one (.e (.p 0 1))), (10, .one (.e (.p 0 1)))], [.cells [.sp 0 38, .bsl 1 x1.length], .row .u8 x1 true]⟩) (n2 := 6) (by kernel_rfl) trivial rfl ?_
    refine WD_all [3, 8] (n := 5) (by kernel_rfl) rfl (And.intro ?_ (?_))
    · refine WM_op (φ := True) (v := .one (.e (.bsl 1 x1.length))) (H' := [.cells [.sp 0 38, .bsl 1 x1.length], .row .u8 x1 true]) rfl rfl (by kernel_rfl) trivial rfl (And.intro (And.intro rfl rfl) (trivial)) ?_
      refine WD_all [4, 8] (n := 4) (by kernel_rfl) rfl (And.intro ?_ (?_))
      · refine WM_op (φ := True) (v := .one (.e (.sd 1))) (H' := [.cells [.sp 0 38, .bsl 1 x1.length], .row .u8 x1 true]) rfl rfl (by kernel_rfl) trivial rfl (And.intro (And.intro rfl rfl) (trivial)) ?_
        refine WD_all [8] (n := 3) (by kernel_rfl) rfl ?_
        refine WM_op (φ := True) (v := .one (.e (.bsl 1 x1.length))) (H' := [.cells [.sp 0 38, .bsl 1 x1.length], .row .u8 x1 true]) rfl rfl (by kernel_rfl) trivial rfl (And.intro (And.intro rfl rfl) (trivial)) ?_
        refine WD_all [9] (n := 2) (by kernel_rfl) rfl ?_
        refine WM_op (φ := True) (v := I ((x1.length : Nat) : Int)) (H' := [.cells [.sp 0 38, .bsl 1 x1.length], .row .u8 x1 true]) rfl rfl (by kernel_rfl) trivial rfl (And.intro (And.intro rfl rfl) (trivial)) ?_
        refine WD_all [10] (n := 1) (by kernel_rfl) rfl ?_
        refine WM_op (φ := ((x1.length : Nat) : Int) = (x1.length : Int) ∧ ∀ x ∈ x1, 0 ≤ x ∧ x ≤ 255) (v := S (bytesOf x1)) (H' := [.cells [.sp 0 38, .bsl 1 x1.length], .dead]) rfl rfl (by kernel_rfl) hg5 rfl (And.intro (And.intro rfl rfl) (trivial)) ?_
        refine WD_takeK [11] [2] [2] (φ := True) (ls' := #[true, true, true, true, true, true, true, true, true, true, true, true]) (Ts' := [(2, S (bytesOf x1))]) (st' := ⟨[(2, S (bytesOf x1))], [.cells [.sp 0 38, .bsl 1 x1.length], .dead]⟩) (n2 := 0) (by kernel_rfl) trivial rfl ?_
        exact WD_done [0, 1] [2] (st' := ⟨[(2, S (bytesOf x1))], [.cells [.sp 0 38, .bsl 1 x1.length], .dead]⟩) (by kernel_rfl) (by kernel_rfl) (And.intro rfl rfl)
      · refine WM_op (φ := True) (v := .one (.e (.bsl 1 x1.length))) (H' := [.cells [.sp 0 38, .bsl 1 x1.length], .row .u8 x1 true]) rfl rfl (by kernel_rfl) trivial rfl (And.intro (And.intro rfl rfl) (trivial)) ?_
        refine WD_all [4, 9] (n := 3) (by kernel_rfl) rfl (And.intro ?_ (?_))
        · refine WM_op (φ := True) (v := .one (.e (.sd 1))) (H' := [.cells [.sp 0 38, .bsl 1 x1.length], .row .u8 x1 true]) rfl rfl (by kernel_rfl) trivial rfl (And.intro (And.intro rfl rfl) (trivial)) ?_
          refine WD_all [9] (n := 2) (by kernel_rfl) rfl ?_
          refine WM_op (φ := True) (v := I ((x1.length : Nat) : Int)) (H' := [.cells [.sp 0 38, .bsl 1 x1.length], .row .u8 x1 true]) rfl rfl (by kernel_rfl) trivial rfl (And.intro (And.intro rfl rfl) (trivial)) ?_
          refine WD_all [10] (n := 1) (by kernel_rfl) rfl ?_
          refine WM_op (φ := ((x1.length : Nat) : Int) = (x1.length : Int) ∧ ∀ x ∈ x1, 0 ≤ x ∧ x ≤ 255) (v := S (bytesOf x1)) (H' := [.cells [.sp 0 38, .bsl 1 x1.length], .dead]) rfl rfl (by kernel_rfl) hg5 rfl (And.intro (And.intro rfl rfl) (trivial)) ?_
          refine WD_takeK [11] [2] [2] (φ := True) (ls' := #[true, true, true, true, true, true, true, true, true, true, true, true]) (Ts' := [(2, S (bytesOf x1))]) (st' := ⟨[(2, S (bytesOf x1))], [.cells [.sp 0 38, .bsl 1 x1.length], .dead]⟩) (n2 := 0) (by kernel_rfl) trivial rfl ?_
          exact WD_done [0, 1] [2] (st' := ⟨[(2, S (bytesOf x1))], [.cells [.sp 0 38, .bsl 1 x1.length], .dead]⟩) (by kernel_rfl) (by kernel_rfl) (And.intro rfl rfl)
        · refine WM_op (φ := True) (v := I ((x1.length : Nat) : Int)) (H' := [.cells [.sp 0 38, .bsl 1 x1.length], .row .u8 x1 true]) rfl rfl (by kernel_rfl) trivial rfl (And.intro (And.intro rfl rfl) (trivial)) ?_
          refine WD_all [4] (n := 2) (by kernel_rfl) rfl ?_
          refine WM_op (φ := True) (v := .one (.e (.sd 1))) (H' := [.cells [.sp 0 38, .bsl 1 x1.length], .row .u8 x1 true]) rfl rfl (by kernel_rfl) trivial rfl (And.intro (And.intro rfl rfl) (trivial)) ?_
          refine WD_all [10] (n := 1) (by kernel_rfl) rfl ?_
          refine WM_op (φ := ((x1.length : Nat) : Int) = (x1.length : Int) ∧ ∀ x ∈ x1, 0 ≤ x ∧ x ≤ 255) (v := S (bytesOf x1)) (H' := [.cells [.sp 0 38, .bsl 1 x1.length], .dead]) rfl rfl (by kernel_rfl) hg5 rfl (And.intro (And.intro rfl rfl) (trivial)) ?_
          refine WD_takeK [11] [2] [2] (φ := True) (ls' := #[true, true, true, true, true, true, true, true, true, true, true, true]) (Ts' := [(2, S (bytesOf x1))]) (st' := ⟨[(2, S (bytesOf x1))], [.cells [.sp 0 38, .bsl 1 x1.length], .dead]⟩) (n2 := 0) (by kernel_rfl) trivial rfl ?_
          exact WD_done [0, 1] [2] (st' := ⟨[(2, S (bytesOf x1))], [.cells [.sp 0 38, .bsl 1 x1.length], .dead]⟩) (by kernel_rfl) (by kernel_rfl) (And.intro rfl rfl)
    · refine WM_op (φ := True) (v := .one (.e (.bsl 1 x1.length))) (H' := [.cells [.sp 0 38, .bsl 1 x1.length], .row .u8 x1 true]) rfl rfl (by kernel_rfl) trivial rfl (And.intro (And.intro rfl rfl) (trivial)) ?_
      refine WD_all [3, 9] (n := 4) (by kernel_rfl) rfl (And.intro ?_ (?_))
      · refine WM_op (φ := True) (v := .one (.e (.bsl 1 x1.length))) (H' := [.cells [.sp 0 38, .bsl 1 x1.length], .row .u8 x1 true]) rfl rfl (by kernel_rfl) trivial rfl (And.intro (And.intro rfl rfl) (trivial)) ?_
        refine WD_all [4, 9] (n := 3) (by kernel_rfl) rfl (And.intro ?_ (?_))
        · refine WM_op (φ := True) (v := .one (.e (.sd 1))) (H' := [.cells [.sp 0 38, .bsl 1 x1.length], .row .u8 x1 true]) rfl rfl (by kernel_rfl) trivial rfl (And.intro (And.intro rfl rfl) (trivial)) ?_
          refine WD_all [9] (n := 2) (by kernel_rfl) rfl ?_
          refine WM_op (φ := True) (v := I ((x1.length : Nat) : Int)) (H' := [.cells [.sp 0 38, .bsl 1 x1.length], .row .u8 x1 true]) rfl rfl (by kernel_rfl) trivial rfl (And.intro (And.intro rfl rfl) (trivial)) ?_
          refine WD_all [10] (n := 1) (by kernel_rfl) rfl ?_
          refine WM_op (φ := ((x1.length : Nat) : Int) = (x1.length : Int) ∧ ∀ x ∈ x1, 0 ≤ x ∧ x ≤ 255) (v := S (bytesOf x1)) (H' := [.cells [.sp 0 38, .bsl 1 x1.length], .dead]) rfl rfl (by kernel_rfl) hg5 rfl (And.intro (And.intro rfl rfl) (trivial)) ?_
          refine WD_takeK [11] [2] [2] (φ := True) (ls' := #[true, true, true, true, true, true, true, true, true, true, true, true]) (Ts' := [(2, S (bytesOf x1))]) (st' := ⟨[(2, S (bytesOf x1))], [.cells [.sp 0 38, .bsl 1 x1.length], .dead]⟩) (n2 := 0) (by kernel_rfl) trivial rfl ?_
          exact WD_done [0, 1] [2] (st' := ⟨[(2, S (bytesOf x1))], [.cells [.sp 0 38, .bsl 1 x1.length], .dead]⟩) (by kernel_rfl) (by kernel_rfl) (And.intro rfl rfl)
        · refine WM_op (φ := True) (v := I ((x1.length : Nat) : Int)) (H' := [.cells [.sp 0 38, .bsl 1 x1.length], .row .u8 x1 true]) rfl rfl (by kernel_rfl) trivial rfl (And.intro (And.intro rfl rfl) (trivial)) ?_
          refine WD_all [4] (n := 2) (by kernel_rfl) rfl ?_
          refine WM_op (φ := True) (v := .one (.e (.sd 1))) (H' := [.cells [.sp 0 38, .bsl 1 x1.length], .row .u8 x1 true]) rfl rfl (by kernel_rfl) trivial rfl (And.intro (And.intro rfl rfl) (trivial)) ?_
          refine WD_all [10] (n := 1) (by kernel_rfl) rfl ?_
          refine WM_op (φ := ((x1.length : Nat) : Int) = (x1.length : Int) ∧ ∀ x ∈ x1, 0 ≤ x ∧ x ≤ 255) (v := S (bytesOf x1)) (H' := [.cells [.sp 0 38, .bsl 1 x1.length], .dead]) rfl rfl (by kernel_rfl) hg5 rfl (And.intro (And.intro rfl rfl) (trivial)) ?_
          refine WD_takeK [11] [2] [2] (φ := True) (ls' := #[true, true, true, true, true, true, true, true, true, true, true, true]) (Ts' := [(2, S (bytesOf x1))]) (st' := ⟨[(2, S (bytesOf x1))], [.cells [.sp 0 38, .bsl 1 x1.length], .dead]⟩) (n2 := 0) (by kernel_rfl) trivial rfl ?_
          exact WD_done [0, 1] [2] (st' := ⟨[(2, S (bytesOf x1))], [.cells [.sp 0 38, .bsl 1 x1.length], .dead]⟩) (by kernel_rfl) (by kernel_rfl) (And.intro rfl rfl)
      · refine WM_op (φ := True) (v := I ((x1.length : Nat) : Int)) (H' := [.cells [.sp 0 38, .bsl 1 x1.length], .row .u8 x1 true]) rfl rfl (by kernel_rfl) trivial rfl (And.intro (And.intro rfl rfl) (trivial)) ?_
        refine WD_all [3] (n := 3) (by kernel_rfl) rfl ?_
        refine WM_op (φ := True) (v := .one (.e (.bsl 1 x1.length))) (H' := [.cells [.sp 0 38, .bsl 1 x1.length], .row .u8 x1 true]) rfl rfl (by kernel_rfl) trivial rfl (And.intro (And.intro rfl rfl) (trivial)) ?_
        refine WD_all [4] (n := 2) (by kernel_rfl) rfl ?_
        refine WM_op (φ := True) (v := .one (.e (.sd 1))) (H' := [.cells [.sp 0 38, .bsl 1 x1.length], .row .u8 x1 true]) rfl rfl (by kernel_rfl) trivial rfl (And.intro (And.intro rfl rfl) (trivial)) ?_
        refine WD_all [10] (n := 1) (by kernel_rfl) rfl ?_
        refine WM_op (φ := ((x1.length : Nat) : Int) = (x1.length : Int) ∧ ∀ x ∈ x1, 0 ≤ x ∧ x ≤ 255) (v := S (bytesOf x1)) (H' := [.cells [.sp 0 38, .bsl 1 x1.length], .dead]) rfl rfl (by kernel_rfl) hg5 rfl (And.intro (And.intro rfl rfl) (trivial)) ?_
        refine WD_takeK [11] [2] [2] (φ := True) (ls' := #[true, true, true, true, true, true, true, true, true, true, true, true]) (Ts' := [(2, S (bytesOf x1))]) (st' := ⟨[(2, S (bytesOf x1))], [.cells [.sp 0 38, .bsl 1 x1.length], .dead]⟩) (n2 := 0) (by kernel_rfl) trivial rfl ?_
        exact WD_done [0, 1] [2] (st' := ⟨[(2, S (bytesOf x1))], [.cells [.sp 0 38, .bsl 1 x1.length], .dead]⟩) (by kernel_rfl) (by kernel_rfl) (And.intro rfl rfl)
  · rintro _ _ ⟨rfl, rfl⟩
    refine thenS_n ?_
    refine W_ret ?_
    cases h
    exact ⟨[0, 1], True, by kernel_rfl, trivial⟩

/- impl.PathText -/
def impl_PathText_L1 (x1 : List Nod) (x81 : List Int) : Nat → (List Int) → Int → Option ((List Int))
| 0, _, _ => none
| n + 1, x112, i113 =>
iteO (decide (i113 < (((x81.length - 1) : Nat) : Int)))
 (guardO (0 ≤ i113 ∧ i113 < (((x81.length - 1) : Nat) : Int)) <|
bindO (strings_Builder_WriteByte x112 47) fun x147 =>
guardO (0 ≤ (x81.getD (1 + i113.toNat) 0) ∧ (x81.getD (1 + i113.toNat) 0) < ((x1.length : Nat) : Int)) <|
bindO (strings_Builder_WriteString x147 ((x1.getD ((x81.getD (1 + i113.toNat) 0).toNat) dnod).name)) fun (x150, i151) =>
impl_PathText_L1 x1 x81 n x150 (w64 (i113 + 1)))
 (some x112)

theorem impl_PathText_L1_ok (w : World) (X : Nat → Prop) (θ : List Loc) (x1 : List Nod) (x81 : List Int) (x134 : (List Int)) : ∀ (n : Nat) (x112 : List Int) (i113 : Int), impl_PathText_L1 x1 x81 n x112 i113 = some x134 → WL EE ⟨w, X, θ, 34, 1⟩ (subC [1, 1, 1, 1, 1, 0, 1, 4, 4] (bodyC Tryd.f18)) (fun (e : Exit) (s : St) => e = .exit 0 ∧ s = ⟨[(6, .one (.e (.p 1 0)))], [.row .nod x1 false, .cells [.sp 1 38, .bsl 2 x134.length], .row .u8 x134 true]⟩) ⟨[(0, .one (.e (.sl 0 0 x1.length))), (6, .one (.e (.p 1 0))), (19, .one (.e (.sl 2 1 (x81.length - 1)))), (20, I (((x81.length - 1) : Nat) : Int)), (21, I i113)], [.row .nod x1 false, .cells [.sp 1 38, .bsl 3 x112.length], .row .int x81 true, .row .u8 x112 true]⟩ := by
  intro n
  induction n with
  | zero => intro _ _ h; exact none_e h
  | succ n ih =>
    intro x112 i113 h
    rw [impl_PathText_L1] at h
    refine WL_round ?_
    refine W_seq ?_
    refine W_region ?_
    refine WO_step 1 [0, 1, 2, 3] [0, 6, 19, 20, 21, 22] (True ∧ True) ⟨[(0, .one (.e (.sl 0 0 x1.length))), (6, .one (.e (.p 1 0))), (19, .one (.e (.sl 2 1 (x81.length - 1)))), (20, I (((x81.length - 1) : Nat) : Int)), (21, I i113), (22, B (decide (i113 < (((x81.length - 1) : Nat) : Int))))], [.row .nod x1 false, .cells [.sp 1 38, .bsl 3 x112.length], .row .int x81 true, .row .u8 x112 true]⟩ (by kernel_rfl) ⟨trivial, trivial⟩ ?_
    refine WO_nil rfl ?_
    refine thenS_n ?_
    refine W_seq ?_
    refine iteO_e h (fun hb137 h => W_true rfl hb137 ?_) (fun hb137 h => W_false rfl hb137 ?_)
    · refine W_sub [0, 1, 2, 3] [0, 6, 19, 20, 21] (st' := ⟨[(0, .one (.e (.sl 0 0 x1.length))), (6, .one (.e (.p 1 0))), (19, .one (.e (.sl 2 1 (x81.length - 1)))), (20, I (((x81.length - 1) : Nat) : Int)), (21, I i113)], [.row .nod x1 false, .cells [.sp 1 38, .bsl 3 x112.length], .row .int x81 true, .row .u8 x112 true]⟩) (by kernel_rfl) ?_
      refine W_skip ?_
      refine thenS_n ?_
      refine W_seq ?_
      refine W_block ?_
      refine W_seq ?_
      refine W_region ?_
      refine guardO_e h (fun hg146 h => ?_)
      refine WO_step 3 [0, 1, 2, 3] [0, 6, 8, 19, 20, 21] ((0 ≤ i113 ∧ i113 < (((x81.length - 1) : Nat) : Int)) ∧ (True ∧ True)) ⟨[(0, .one (.e (.sl 0 0 x1.length))), (6, .one (.e (.p 1 0))), (8, I (x81.getD (1 + i113.toNat) 0)), (19, .one (.e (.sl 2 1 (x81.length - 1)))), (20, I (((x81.length - 1) : Nat) : Int)), (21, I i113)], [.row .nod x1 false, .cells [.sp 1 38, .bsl 3 x112.length], .row .int x81 true, .row .u8 x112 true]⟩ (by kernel_rfl) ⟨hg146, trivial, trivial⟩ ?_
      refine WO_nil rfl ?_
      refine thenS_n ?_
      refine W_seq ?_
      refine W_region ?_
      refine bindO_e h (fun x147 hc148 h => ?_)
      refine WO_call [.own 1, .own 3] Tryd.f19 rfl rfl rfl (by kernel_rfl) Tryd.func19 rfl (by kernel_rfl) (strings_Builder_WriteByte_ok x112 47 x147 hc148) (And.intro (trivial) (And.intro (trivial) (trivial))) rfl ?_
      refine WO_sub [0, 1, 2, 4] [0, 6, 8, 19, 20, 21] (st' := ⟨[(0, .one (.e (.sl 0 0 x1.length))), (6, .one (.e (.p 1 0))), (8, I (x81.getD (1 + i113.toNat) 0)), (19, .one (.e (.sl 2 1 (x81.length - 1)))), (20, I (((x81.length - 1) : Nat) : Int)), (21, I i113)], [.row .nod x1 false, .cells [.sp 1 38, .bsl 3 x147.length], .row .int x81 true, .row .u8 x147 true]⟩) (by kernel_rfl) ?_
      refine WO_nil rfl ?_
      refine thenS_n ?_
      refine W_region ?_
      refine guardO_e h (fun hg149 h => ?_)
      refine WO_step 5 [0, 1, 2, 3] [0, 6, 19, 20, 21, 30] ((0 ≤ (x81.getD (1 + i113.toNat) 0) ∧ (x81.getD (1 + i113.toNat) 0) < ((x1.length : Nat) : Int)) ∧ (True ∧ True)) ⟨[(0, .one (.e (.sl 0 0 x1.length))), (6, .one (.e (.p 1 0))), (19, .one (.e (.sl 2 1 (x81.length - 1)))), (20, I (((x81.length - 1) : Nat) : Int)), (21, I i113), (30, S ((x1.getD ((x81.getD (1 + i113.toNat) 0).toNat) dnod).name))], [.row .nod x1 false, .cells [.sp 1 38, .bsl 3 x147.length], .row .int x81 true, .row .u8 x147 true]⟩ (by kernel_rfl) ⟨hg149, trivial, trivial⟩ ?_
      refine bindO_e h (fun v153 hc152 h => ?_)
      obtain ⟨x150, i151⟩ := v153
      refine WO_call [.own 1, .own 3] Tryd.f17 rfl rfl rfl (by kernel_rfl) Tryd.func17 rfl (by kernel_rfl) (strings_Builder_WriteString_ok x147 ((x1.getD ((x81.getD (1 + i113.toNat) 0).toNat) dnod).name) x150 i151 hc152) (And.intro (trivial) (And.intro (trivial) (trivial))) rfl ?_
      refine WO_sub [0, 1, 2, 4] [0, 6, 19, 20, 21] (st' := ⟨[(0, .one (.e (.sl 0 0 x1.length))), (6, .one (.e (.p 1 0))), (19, .one (.e (.sl 2 1 (x81.length - 1)))), (20, I (((x81.length - 1) : Nat) : Int)), (21, I i113)], [.row .nod x1 false, .cells [.sp 1 38, .bsl 3 x150.length], .row .int x81 true, .row .u8 x150 true]⟩) (by kernel_rfl) ?_
      refine WO_nil rfl ?_
      refine blockS_n ?_
      refine thenS_n ?_
      refine W_region ?_
      refine WO_step 2 [0, 1, 2, 3] [0, 6, 19, 20, 21] (True ∧ True) ⟨[(0, .one (.e (.sl 0 0 x1.length))), (6, .one (.e (.p 1 0))), (19, .one (.e (.sl 2 1 (x81.length - 1)))), (20, I (((x81.length - 1) : Nat) : Int)), (21, I (w64 (i113 + 1)))], [.row .nod x1 false, .cells [.sp 1 38, .bsl 3 x150.length], .row .int x81 true, .row .u8 x150 true]⟩ (by kernel_rfl) ⟨trivial, trivial⟩ ?_
      refine WO_nil rfl ?_
      refine thenS_n ?_
      exact ih _ _ h
    · refine W_sub [0, 1, 3] [6] (st' := ⟨[(6, .one (.e (.p 1 0)))], [.row .nod x1 false, .cells [.sp 1 38, .bsl 2 x112.length], .row .u8 x112 true]⟩) (by kernel_rfl) ?_
      refine W_exit ?_
      refine thenS_e ?_
      refine thenS_e ?_
      cases h
      exact And.intro rfl rfl

def impl_PathText (n : Nat) (x1 : List Nod) (i2 : Int) : Option (Str) :=
bindO (impl_PathTo n x1 i2) fun x81 =>
iteO (decide (((x81.length : Nat) : Int) = 0))
 (some [])
 (iteO (decide (((x81.length : Nat) : Int) = 1))
 (some [47])
 (guardO (0 ≤ (1 : Int) ∧ (1 : Int) ≤ ((x81.length : Nat) : Int)) <|
bindO (impl_PathText_L1 x1 x81 n ([] : List Int) 0) fun x134 =>
bindO (strings_Builder_String x134) fun (k155, s156) =>
some s156))

theorem impl_PathText_ok (n : Nat) (x1 : List Nod) (i2 : Int) (s80 : Str) (h : impl_PathText n x1 i2 = some s80) : FOk EE 18 [.one (.e (.sl 0 0 x1.length)), I i2] [.row .nod x1 false] (S s80) [.row .nod x1 false] := by
  unfold impl_PathText at h
  refine FOk_of_W 34 1 Tryd.func18 rfl rfl (Nat.le_of_ble_eq_true rfl) rfl (fun w X θ => ?_)
  refine W_seq ?_
  refine W_region ?_
  refine WO_step 1 [0] [0, 1] True ⟨[(0, .one (.e (.sl 0 0 x1.length))), (1, I i2)], [.row .nod x1 false]⟩ (by kernel_rfl) trivial ?_
  refine WO_nil rfl ?_
  refine thenS_n ?_
  refine W_seq ?_
  refine W_region ?_
  refine WO_step 2 [0] [0, 9, 10] True ⟨[(0, .one (.e (.sl 0 0 x1.length))), (9, .one (.e (.sl 0 0 x1.length))), (10, I i2)], [.row .nod x1 false]⟩ (by kernel_rfl) trivial ?_
  refine bindO_e h (fun x81 hc82 h => ?_)
  refine WO_call [.ro 0] Tryd.f42 rfl rfl rfl (by kernel_rfl) Tryd.func42 rfl (by kernel_rfl) (impl_PathTo_ok n x1 i2 x81 hc82) (And.intro (And.intro rfl rfl) (trivial)) rfl ?_
  refine WO_step 1 [0, 1] [0, 5] True ⟨[(0, .one (.e (.sl 0 0 x1.length))), (5, .one (.e (.sl 1 0 x81.length)))], [.row .nod x1 false, .row .int x81 true]⟩ (by kernel_rfl) trivial ?_
  refine WO_nil rfl ?_
  refine thenS_n ?_
  refine W_seq ?_
  refine W_seq ?_
  refine W_region ?_
  refine WO_step 3 [0, 1] [0, 5, 14] (True ∧ (True ∧ True)) ⟨[(0, .one (.e (.sl 0 0 x1.length))), (5, .one (.e (.sl 1 0 x81.length))), (14, B (decide (((x81.length : Nat) : Int) = 0)))], [.row .nod x1 false, .row .int x81 true]⟩ (by kernel_rfl) ⟨trivial, trivial, trivial⟩ ?_
  refine WO_nil rfl ?_
  refine thenS_n ?_
  refine iteO_e h (fun hb84 h => W_true rfl hb84 ?_) (fun hb84 h => W_false rfl hb84 ?_)
  · refine W_seq ?_
    refine W_region ?_
    refine WO_step 1 [0] [4] True ⟨[(4, S [])], [.row .nod x1 false]⟩ (by kernel_rfl) trivial ?_
    refine WO_nil rfl ?_
    refine thenS_n ?_
    refine W_ret ?_
    refine thenS_r ?_
    cases h
    exact ⟨[0], True, by kernel_rfl, trivial⟩
  · refine W_sub [0, 1] [0, 5] (st' := ⟨[(0, .one (.e (.sl 0 0 x1.length))), (5, .one (.e (.sl 1 0 x81.length)))], [.row .nod x1 false, .row .int x81 true]⟩) (by kernel_rfl) ?_
    refine W_skip ?_
    refine thenS_n ?_
    refine W_seq ?_
    refine W_seq ?_
    refine W_region ?_
    refine WO_step 3 [0, 1] [0, 5, 17] (True ∧ (True ∧ True)) ⟨[(0, .one (.e (.sl 0 0 x1.length))), (5, .one (.e (.sl 1 0 x81.length))), (17, B (decide (((x81.length : Nat) : Int) = 1)))], [.row .nod x1 false, .row .int x81 true]⟩ (by kernel_rfl) ⟨trivial, trivial, trivial⟩ ?_
    refine WO_nil rfl ?_
    refine thenS_n ?_
    refine iteO_e h (fun hb86 h => W_true rfl hb86 ?_) (fun hb86 h => W_false rfl hb86 ?_)
    · refine W_seq ?_
      refine W_region ?_
      refine WO_step 1 [0] [4] True ⟨[(4, S [47])], [.row .nod x1 false]⟩ (by kernel_rfl) trivial ?_
      refine WO_nil rfl ?_
      refine thenS_n ?_
      refine W_ret ?_
      refine thenS_r ?_
      cases h
      exact ⟨[0], True, by kernel_rfl, trivial⟩
    · refine W_sub [0, 1] [0, 5] (st' := ⟨[(0, .one (.e (.sl 0 0 x1.length))), (5, .one (.e (.sl 1 0 x81.length)))], [.row .nod x1 false, .row .int x81 true]⟩) (by kernel_rfl) ?_
      refine W_skip ?_
      refine thenS_n ?_
      refine W_seq ?_
      refine W_region ?_
      refine WO_step 1 [0, 1, 2] [0, 5, 6] (True ∧ True) ⟨[(0, .one (.e (.sl 0 0 x1.length))), (5, .one (.e (.sl 1 0 x81.length))), (6, .one (.e (.p 2 0)))], [.row .nod x1 false, .row .int x81 true, .cells [.sp 2 38, .nsl]]⟩ (by kernel_rfl) ⟨trivial, trivial⟩ ?_
      refine WO_bld 2 rfl ?_
      refine WO_nil rfl ?_
      refine thenS_n ?_
      refine W_seq ?_
      refine W_seq ?_
      refine W_region ?_
      refine guardO_e h (fun hg87 h => ?_)
      refine WO_step 4 [0, 2, 1, 3] [0, 6, 19, 20, 21] ((0 ≤ (1 : Int) ∧ (1 : Int) ≤ ((x81.length : Nat) : Int)) ∧ (True ∧ True)) ⟨[(0, .one (.e (.sl 0 0 x1.length))), (6, .one (.e (.p 1 0))), (19, .one (.e (.sl 2 1 (x81.length - 1)))), (20, I (((x81.length - 1) : Nat) : Int)), (21, I 0)], [.row .nod x1 false, .cells [.sp 1 38, .bsl 3 (([] : List Int).length)], .row .int x81 true, .row .u8 ([] : List Int) true]⟩ (by kernel_rfl) ⟨hg87, trivial, trivial⟩ ?_
      refine WO_nil rfl ?_
      refine thenS_n ?_
      refine W_block ?_
      refine W_loop ?_
      refine bindO_e h (fun x134 hx134 h => ?_)
      refine WL_cut (impl_PathText_L1_ok w X θ x1 x81 x134 n ([] : List Int) 0 hx134) ?_
      rintro _ _ ⟨rfl, rfl⟩
      refine blockS_y ?_
      refine thenS_n ?_
      refine W_seq ?_
      refine W_region ?_
      refine bindO_e h (fun v158 hc157 h => ?_)
      obtain ⟨k155, s156⟩ := v158
      refine WO_call [.own 1, .own 2] Tryd.f21 rfl rfl rfl (by kernel_rfl) Tryd.func21 rfl (by kernel_rfl) (strings_Builder_String_ok x134 k155 s156 hc157) (And.intro (trivial) (And.intro (trivial) (trivial))) rfl ?_
      refine WO_step 1 [0] [4] True ⟨[(4, S s156)], [.row .nod x1 false]⟩ (by kernel_rfl) trivial ?_
      refine WO_nil rfl ?_
      refine thenS_n ?_
      refine W_ret ?_
      cases h
      exact ⟨[0], True, by kernel_rfl, trivial⟩

/- impl.addPath -/
def impl_addPath (n : Nat) (x1 : List Nod) (s2 : Str) (i3 : Int) : Option ((List Nod) × Bool) :=
bindO (impl_upperNode n x1 s2) fun i26 =>
bindO (strings_LastIndexByte n s2 47) fun i28 =>
guardO (0 ≤ (w64 (i28 + 1)) ∧ (w64 (i28 + 1)) ≤ ((s2.length : Nat) : Int)) <|
bindO (impl_AddNode n x1 i26 (s2.drop ((w64 (i28 + 1)).toNat)) i3) fun (x31, i32, b33) =>
bindO (iteO (!b33)
 (some true)
 (bindO (impl_PathText n x31 i32) fun s41 =>
some (!decide (s41 = s2)))) fun b38 =>
iteO b38
 (some (([] : List Nod), false))
 (some (x31, true))

theorem impl_addPath_ok (n : Nat) (x1 : List Nod) (s2 : Str) (i3 : Int) (x24 : List Nod) (b25 : Bool) (h : impl_addPath n x1 s2 i3 = some (x24, b25)) : FOk EE 27 [.one (.e (.sl 0 0 x1.length)), S s2, I i3] [.row .nod x1 false] (.tup [.e (.sl 1 0 x24.length), .e (cB b25)]) [.row .nod x1 false, .row .nod x24 true] := by
  unfold impl_addPath at h
  refine FOk_of_W 36 1 Tryd.func27 rfl rfl (Nat.le_of_ble_eq_true rfl) rfl (fun w X θ => ?_)
  refine W_seq ?_
  refine W_region ?_
  refine WO_step 2 [0] [0, 1, 2] True ⟨[(0, .one (.e (.sl 0 0 x1.length))), (1, S s2), (2, I i3)], [.row .nod x1 false]⟩ (by kernel_rfl) trivial ?_
  refine WO_nil rfl ?_
  refine thenS_n ?_
  refine W_seq ?_
  refine W_region ?_
  refine WO_step 3 [0] [1, 2, 12, 13, 14] True ⟨[(1, S s2), (2, I i3), (12, .one (.e (.sl 0 0 x1.length))), (13, .one (.e (.sl 0 0 x1.length))), (14, S s2)], [.row .nod x1 false]⟩ (by kernel_rfl) trivial ?_
  refine bindO_e h (fun i26 hc27 h => ?_)
  refine WO_call [.ro 0] Tryd.f53 rfl rfl rfl (by kernel_rfl) Tryd.func53 rfl (by kernel_rfl) (impl_upperNode_ok n x1 s2 i26 hc27) (And.intro (And.intro rfl rfl) (trivial)) rfl ?_
  refine WO_step 2 [0] [1, 2, 12, 15, 16, 17] True ⟨[(1, S s2), (2, I i3), (12, .one (.e (.sl 0 0 x1.length))), (15, I i26), (16, S s2), (17, S s2)], [.row .nod x1 false]⟩ (by kernel_rfl) trivial ?_
  refine bindO_e h (fun i28 hc29 h => ?_)
  refine WO_call [] Tryd.f54 rfl rfl rfl (by kernel_rfl) Tryd.func54 rfl (by kernel_rfl) (strings_LastIndexByte_ok n s2 47 i28 hc29) (trivial) rfl ?_
  refine guardO_e h (fun hg30 h => ?_)
  refine WO_step 3 [0] [1, 12, 15, 20, 21] (True ∧ ((0 ≤ (w64 (i28 + 1)) ∧ (w64 (i28 + 1)) ≤ ((s2.length : Nat) : Int)) ∧ True)) ⟨[(1, S s2), (12, .one (.e (.sl 0 0 x1.length))), (15, I i26), (20, S (s2.drop ((w64 (i28 + 1)).toNat))), (21, I i3)], [.row .nod x1 false]⟩ (by kernel_rfl) ⟨trivial, hg30, trivial⟩ ?_
  refine bindO_e h (fun v45 hc34 h => ?_)
  obtain ⟨x31, i32, b33⟩ := v45
  refine WO_call [.ro 0] Tryd.f52 rfl rfl rfl (by kernel_rfl) Tryd.func52 rfl (by kernel_rfl) (impl_AddNode_ok n x1 i26 (s2.drop ((w64 (i28 + 1)).toNat)) i3 x31 i32 b33 hc34) (And.intro (And.intro rfl rfl) (trivial)) rfl ?_
  refine WO_step 7 [0, 1] [1, 8, 9, 10] True ⟨[(1, S s2), (8, .one (.e (.sl 1 0 x31.length))), (9, I i32), (10, B b33)], [.row .nod x1 false, .row .nod x31 true]⟩ (by kernel_rfl) trivial ?_
  refine WO_nil rfl ?_
  refine thenS_n ?_
  refine W_seq ?_
  refine W_seq ?_
  refine W_region ?_
  refine WO_step 3 [0, 1] [1, 8, 9, 28] True ⟨[(1, S s2), (8, .one (.e (.sl 1 0 x31.length))), (9, I i32), (28, B (!b33))], [.row .nod x1 false, .row .nod x31 true]⟩ (by kernel_rfl) trivial ?_
  refine bindO_e h (fun b38 hv39 h => ?_)
  refine WO_thru ⟨[(8, .one (.e (.sl 1 0 x31.length))), (34, B b38)], [.row .nod x1 false, .row .nod x31 true]⟩ ?_ ?_
  · refine iteO_e hv39 (fun hb40 hv39 => WO_known 28 true rfl hb40 ?_) (fun hb40 hv39 => WO_known 28 false rfl hb40 ?_)
    · refine WO_step 6 [0, 1] [8, 34] True ⟨[(8, .one (.e (.sl 1 0 x31.length))), (34, B true)], [.row .nod x1 false, .row .nod x31 true]⟩ (by kernel_rfl) trivial ?_
      cases hv39
      exact WO_nil rfl ⟨rfl, rfl⟩
    · refine WO_step 2 [0, 1] [1, 8, 28, 29, 30] True ⟨[(1, S s2), (8, .one (.e (.sl 1 0 x31.length))), (28, B false), (29, .one (.e (.sl 1 0 x31.length))), (30, I i32)], [.row .nod x1 false, .row .nod x31 true]⟩ (by kernel_rfl) trivial ?_
      refine bindO_e hv39 (fun s41 hc42 hv39 => ?_)
      refine WO_call [.ro 1] Tryd.f18 rfl rfl rfl (by kernel_rfl) Tryd.func18 rfl (by kernel_rfl) (impl_PathText_ok n x31 i32 s41 hc42) (And.intro (And.intro rfl rfl) (trivial)) rfl ?_
      refine WO_step 3 [0, 1] [8, 34] (True ∧ True) ⟨[(8, .one (.e (.sl 1 0 x31.length))), (34, B (!decide (s41 = s2)))], [.row .nod x1 false, .row .nod x31 true]⟩ (by kernel_rfl) ⟨trivial, trivial⟩ ?_
      cases hv39
      exact WO_nil rfl ⟨rfl, rfl⟩
  · refine thenS_n ?_
    refine iteO_e h (fun hb44 h => W_true rfl hb44 ?_) (fun hb44 h => W_false rfl hb44 ?_)
    · refine W_seq ?_
      refine W_region ?_
      refine WO_step 2 [0] [6, 7] True ⟨[(6, .one (.e (.nsl))), (7, B false)], [.row .nod x1 false]⟩ (by kernel_rfl) trivial ?_
      refine WO_nilrow 6 .nod rfl ?_
      refine WO_sub [0, 1] [6, 7] (st' := ⟨[(6, .one (.e (.sl 1 0 (([] : List Nod).length)))), (7, B false)], [.row .nod x1 false, .row .nod ([] : List Nod) true]⟩) (by kernel_rfl) ?_
      refine WO_nil rfl ?_
      refine thenS_n ?_
      refine W_ret ?_
      refine thenS_r ?_
      cases h
      exact ⟨[0, 1], True, by kernel_rfl, trivial⟩
    · refine W_sub [0, 1] [8] (st' := ⟨[(8, .one (.e (.sl 1 0 x31.length)))], [.row .nod x1 false, .row .nod x31 true]⟩) (by kernel_rfl) ?_
      refine W_skip ?_
      refine thenS_n ?_
      refine W_seq ?_
      refine W_region ?_
      refine WO_step 3 [0, 1] [6, 7] True ⟨[(6, .one (.e (.sl 1 0 x31.length))), (7, B true)], [.row .nod x1 false, .row .nod x31 true]⟩ (by kernel_rfl) trivial ?_
      refine WO_nil rfl ?_
      refine thenS_n ?_
      refine W_ret ?_
      cases h
      exact ⟨[0, 1], True, by kernel_rfl, trivial⟩

/- strconv.Itoa -/
def lays171R : Shelf.Ren := ⟨fun n => match n with | 129 => 94 | 171 => 20 | 243 => 43 | 246 => 61 | 283 => 78 | 284 => 79 | 285 => 80 | 286 => 81 | 317 => 93 | 318 => 95 | 319 => 96 | 320 => 97 | 337 => 104 | 338 => 105 | _ => 0, fun n => match n with | 0 => 0 | 2 => 2 | 3 => 3 | 4 => 4 | 5 => 5 | 9 => 9 | 20 => 20 | 37 => 22 | 46 => 101 | 51 => 112 | 53 => 93 | 171 => 92 | 173 => 96 | 212 => 111 | 213 => 113 | 232 => 128 | 233 => 129 | _ => 0, fun n => match n with | 17 => 3 | 18 => 6 | 19 => 7 | _ => 0⟩
set_option maxRecDepth 100000 in
theorem lays171 : LaysM.n171 Tryd.prog lays171R where
  mixed := by kernel_rfl
  f129 := by kernel_rfl
  f171 := by kernel_rfl
  f243 := by kernel_rfl
  f246 := by kernel_rfl
  f283 := by kernel_rfl
  f284 := by kernel_rfl
  f285 := by kernel_rfl
  f286 := by kernel_rfl
  f317 := by kernel_rfl
  f318 := by kernel_rfl
  f319 := by kernel_rfl
  f320 := by kernel_rfl
  f337 := by kernel_rfl
  f338 := by kernel_rfl
  t0 := Tryd.underlying0
  a0 := Tryd.isAgg0
  z0 := Tryd.sizeOf0
  v0 := Tryd.zeroValue0
  t2 := Tryd.underlying2
  a2 := Tryd.isAgg2
  z2 := Tryd.sizeOf2
  v2 := Tryd.zeroValue2
  t3 := Tryd.underlying3
  a3 := Tryd.isAgg3
  z3 := Tryd.sizeOf3
  v3 := Tryd.zeroValue3
  t4 := Tryd.underlying4
  a4 := Tryd.isAgg4
  z4 := Tryd.sizeOf4
  v4 := Tryd.zeroValue4
  t5 := Tryd.underlying5
  a5 := Tryd.isAgg5
  z5 := Tryd.sizeOf5
  v5 := Tryd.zeroValue5
  t9 := Tryd.underlying9
  a9 := Tryd.isAgg9
  z9 := Tryd.sizeOf9
  v9 := Tryd.zeroValue9
  t20 := Tryd.underlying20
  a20 := Tryd.isAgg20
  z20 := Tryd.sizeOf20
  v20 := Tryd.zeroValue20
  t37 := Tryd.underlying22
  a37 := Tryd.isAgg22
  z37 := Tryd.sizeOf22
  v37 := Tryd.zeroValue22
  t46 := Tryd.underlying101
  a46 := Tryd.isAgg101
  z46 := Tryd.sizeOf101
  v46 := Tryd.zeroValue101
  t51 := Tryd.underlying112
  a51 := Tryd.isAgg112
  z51 := Tryd.sizeOf112
  v51 := Tryd.zeroValue112
  t53 := Tryd.underlying93
  a53 := Tryd.isAgg93
  z53 := Tryd.sizeOf93
  v53 := Tryd.zeroValue93
  t171 := Tryd.underlying92
  a171 := Tryd.isAgg92
  z171 := Tryd.sizeOf92
  v171 := Tryd.zeroValue92
  t173 := Tryd.underlying96
  a173 := Tryd.isAgg96
  z173 := Tryd.sizeOf96
  v173 := Tryd.zeroValue96
  t212 := Tryd.underlying111
  a212 := Tryd.isAgg111
  z212 := Tryd.sizeOf111
  v212 := Tryd.zeroValue111
  t213 := Tryd.underlying113
  a213 := Tryd.isAgg113
  z213 := Tryd.sizeOf113
  t232 := Tryd.underlying128
  a232 := Tryd.isAgg128
  z232 := Tryd.sizeOf128
  v232 := Tryd.zeroValue128
  t233 := Tryd.underlying129
  a233 := Tryd.isAgg129
  z233 := Tryd.sizeOf129
  v233 := Tryd.zeroValue129
  g17 := by kernel_rfl
  g18 := by kernel_rfl
  g19 := by kernel_rfl
  i0 := by kernel_rfl
  i2 := by kernel_rfl
  i3 := by kernel_rfl
  i4 := by kernel_rfl
  i5 := by kernel_rfl
  i9 := by kernel_rfl
  i20 := by kernel_rfl
  i37 := by kernel_rfl
  i46 := by kernel_rfl
  i51 := by kernel_rfl
  i53 := by kernel_rfl
  i171 := by kernel_rfl
  i173 := by kernel_rfl
  i212 := by kernel_rfl
  i232 := by kernel_rfl
  i233 := by kernel_rfl
  m17 := by kernel_rfl
  m18 := by kernel_rfl
  m19 := by kernel_rfl
def strconv_Itoa (i1 : Int) : Option Str :=
guardO (-9223372036854775808 ≤ i1 ∧ i1 ≤ 9223372036854775807) <|
some (Lib.itoa i1)
theorem strconv_Itoa_ok (i1 : Int) (s2 : Str) (h : strconv_Itoa i1 = some s2) : FOk EE 20 [I i1] [] (S s2) [] := by
  unfold strconv_Itoa at h
  refine guardO_e h (fun hg h => ?_)
  cases h
  refine FOk_kept (args := [.int .i64 i1]) (r := .str (Lib.itoa i1)) (fun w hw => ?_)
  refine (Any.strconv_Itoa lays171 i1 hg.1 hg.2 w (KK_tab w hw)).mono ?_
  rintro e w' ⟨rfl, k, os, rfl⟩
  exact ⟨rfl, Lib.below_grow _ w (Nat.le_refl _) k os⟩

/- impl.FormatTree -/
def impl_FormatTree_L1 (x1 : List Nod) : Nat → (List Int) → Int → Option ((List Int))
| 0, _, _ => none
| n + 1, x217, i218 =>
iteO (decide (i218 < ((x1.length : Nat) : Int)))
 (guardO (0 ≤ i218 ∧ i218 < ((x1.length : Nat) : Int)) <|
bindO (iteO (decide (0 < i218))
 (bindO (strings_Builder_WriteString x217 [59, 32]) fun (x302, i303) =>
some x302)
 (some x217)) fun x299 =>
bindO (impl_PathText n x1 i218) fun s306 =>
bindO (strings_Builder_WriteString x299 s306) fun (x308, i309) =>
bindO (strings_Builder_WriteByte x308 32) fun x311 =>
bindO (strconv_Itoa ((x1.getD i218.toNat dnod).value)) fun s313 =>
bindO (strings_Builder_WriteString x311 s313) fun (x315, i316) =>
impl_FormatTree_L1 x1 n x315 (w64 (i218 + 1)))
 (some x217)

theorem impl_FormatTree_L1_ok (w : World) (X : Nat → Prop) (θ : List Loc) (x1 : List Nod) (x267 : (List Int)) : ∀ (n : Nat) (x217 : List Int) (i218 : Int), impl_FormatTree_L1 x1 n x217 i218 = some x267 → WL EE ⟨w, X, θ, 30, 1⟩ (subC [1, 1, 1, 0, 1, 4, 4] (bodyC Tryd.f6)) (fun (e : Exit) (s : St) => e = .exit 0 ∧ s = ⟨[(3, .one (.e (.p 1 0)))], [.row .nod x1 false, .cells [.sp 1 38, .bsl 2 x267.length], .row .u8 x267 true]⟩) ⟨[(0, .one (.e (.sl 0 0 x1.length))), (3, .one (.e (.p 1 0))), (9, .one (.e (.sl 0 0 x1.length))), (10, I ((x1.length : Nat) : Int)), (11, I i218)], [.row .nod x1 false, .cells [.sp 1 38, .bsl 2 x217.length], .row .u8 x217 true]⟩ := by
  intro n
  induction n with
  | zero => intro _ _ h; exact none_e h
  | succ n ih =>
    intro x217 i218 h
    rw [impl_FormatTree_L1] at h
    refine WL_round ?_
    refine W_seq ?_
    refine W_region ?_
    refine WO_step 1 [0, 1, 2] [0, 3, 9, 10, 11, 12] (True ∧ True) ⟨[(0, .one (.e (.sl 0 0 x1.length))), (3, .one (.e (.p 1 0))), (9, .one (.e (.sl 0 0 x1.length))), (10, I ((x1.length : Nat) : Int)), (11, I i218), (12, B (decide (i218 < ((x1.length : Nat) : Int))))], [.row .nod x1 false, .cells [.sp 1 38, .bsl 2 x217.length], .row .u8 x217 true]⟩ (by kernel_rfl) ⟨trivial, trivial⟩ ?_
    refine WO_nil rfl ?_
    refine thenS_n ?_
    refine W_seq ?_
    refine iteO_e h (fun hb270 h => W_true rfl hb270 ?_) (fun hb270 h => W_false rfl hb270 ?_)
    · refine W_sub [0, 1, 2] [0, 3, 9, 10, 11] (st' := ⟨[(0, .one (.e (.sl 0 0 x1.length))), (3, .one (.e (.p 1 0))), (9, .one (.e (.sl 0 0 x1.length))), (10, I ((x1.length : Nat) : Int)), (11, I i218)], [.row .nod x1 false, .cells [.sp 1 38, .bsl 2 x217.length], .row .u8 x217 true]⟩) (by kernel_rfl) ?_
      refine W_skip ?_
      refine thenS_n ?_
      refine W_seq ?_
      refine W_block ?_
      refine W_seq ?_
      refine W_region ?_
      refine guardO_e h (fun hg293 h => ?_)
      refine WO_step 6 [0, 1, 3, 2] [0, 3, 4, 5, 9, 10, 11] ((0 ≤ i218 ∧ i218 < ((x1.length : Nat) : Int)) ∧ (True ∧ (True ∧ (True ∧ True)))) ⟨[(0, .one (.e (.sl 0 0 x1.length))), (3, .one (.e (.p 1 0))), (4, I i218), (5, .one (.e (.p 2 0))), (9, .one (.e (.sl 0 0 x1.length))), (10, I ((x1.length : Nat) : Int)), (11, I i218)], [.row .nod x1 false, .cells [.sp 1 38, .bsl 3 x217.length], .cells [cI ((x1.getD i218.toNat dnod).parent), cS ((x1.getD i218.toNat dnod).name), cI ((x1.getD i218.toNat dnod).value)], .row .u8 x217 true]⟩ (by kernel_rfl) ⟨hg293, trivial, trivial, trivial, trivial⟩ ?_
      refine WO_nil rfl ?_
      refine thenS_n ?_
      refine W_seq ?_
      refine W_seq ?_
      refine W_region ?_
      refine WO_step 2 [0, 1, 2, 3] [0, 3, 4, 5, 9, 10, 11, 17] (True ∧ True) ⟨[(0, .one (.e (.sl 0 0 x1.length))), (3, .one (.e (.p 1 0))), (4, I i218), (5, .one (.e (.p 2 0))), (9, .one (.e (.sl 0 0 x1.length))), (10, I ((x1.length : Nat) : Int)), (11, I i218), (17, B (decide (0 < i218)))], [.row .nod x1 false, .cells [.sp 1 38, .bsl 3 x217.length], .cells [cI ((x1.getD i218.toNat dnod).parent), cS ((x1.getD i218.toNat dnod).name), cI ((x1.getD i218.toNat dnod).value)], .row .u8 x217 true]⟩ (by kernel_rfl) ⟨trivial, trivial⟩ ?_
      refine WO_nil rfl ?_
      refine thenS_n ?_
      refine bindO_e h (fun x299 hx299 h => ?_)
      refine W_cut (Q' := fun (e : Exit) (s : St) => e = .normal ∧ s = ⟨[(0, .one (.e (.sl 0 0 x1.length))), (3, .one (.e (.p 1 0))), (4, I i218), (5, .one (.e (.p 2 0))), (9, .one (.e (.sl 0 0 x1.length))), (10, I ((x1.length : Nat) : Int)), (11, I i218)], [.row .nod x1 false, .cells [.sp 1 38, .bsl 3 x299.length], .cells [cI ((x1.getD i218.toNat dnod).parent), cS ((x1.getD i218.toNat dnod).name), cI ((x1.getD i218.toNat dnod).value)], .row .u8 x299 true]⟩) ?_ ?_
      · refine iteO_e hx299 (fun hb301 hx299 => W_true rfl hb301 ?_) (fun hb301 hx299 => W_false rfl hb301 ?_)
        · refine W_region ?_
          refine WO_sub [0, 1, 2, 3] [0, 3, 4, 5, 9, 10, 11] (st' := ⟨[(0, .one (.e (.sl 0 0 x1.length))), (3, .one (.e (.p 1 0))), (4, I i218), (5, .one (.e (.p 2 0))), (9, .one (.e (.sl 0 0 x1.length))), (10, I ((x1.length : Nat) : Int)), (11, I i218)], [.row .nod x1 false, .cells [.sp 1 38, .bsl 3 x217.length], .cells [cI ((x1.getD i218.toNat dnod).parent), cS ((x1.getD i218.toNat dnod).name), cI ((x1.getD i218.toNat dnod).value)], .row .u8 x217 true]⟩) (by kernel_rfl) ?_
          refine bindO_e hx299 (fun v305 hc304 hx299 => ?_)
          obtain ⟨x302, i303⟩ := v305
          refine WO_call [.own 1, .own 3] Tryd.f17 rfl rfl rfl (by kernel_rfl) Tryd.func17 rfl (by kernel_rfl) (strings_Builder_WriteString_ok x217 [59, 32] x302 i303 hc304) (And.intro (trivial) (And.intro (trivial) (trivial))) rfl ?_
          refine WO_sub [0, 1, 2, 4] [0, 3, 4, 5, 9, 10, 11] (st' := ⟨[(0, .one (.e (.sl 0 0 x1.length))), (3, .one (.e (.p 1 0))), (4, I i218), (5, .one (.e (.p 2 0))), (9, .one (.e (.sl 0 0 x1.length))), (10, I ((x1.length : Nat) : Int)), (11, I i218)], [.row .nod x1 false, .cells [.sp 1 38, .bsl 3 x302.length], .cells [cI ((x1.getD i218.toNat dnod).parent), cS ((x1.getD i218.toNat dnod).name), cI ((x1.getD i218.toNat dnod).value)], .row .u8 x302 true]⟩) (by kernel_rfl) ?_
          refine WO_nil rfl ?_
          cases hx299
          exact And.intro rfl rfl
        · refine W_sub [0, 1, 2, 3] [0, 3, 4, 5, 9, 10, 11] (st' := ⟨[(0, .one (.e (.sl 0 0 x1.length))), (3, .one (.e (.p 1 0))), (4, I i218), (5, .one (.e (.p 2 0))), (9, .one (.e (.sl 0 0 x1.length))), (10, I ((x1.length : Nat) : Int)), (11, I i218)], [.row .nod x1 false, .cells [.sp 1 38, .bsl 3 x217.length], .cells [cI ((x1.getD i218.toNat dnod).parent), cS ((x1.getD i218.toNat dnod).name), cI ((x1.getD i218.toNat dnod).value)], .row .u8 x217 true]⟩) (by kernel_rfl) ?_
          refine W_skip ?_
          cases hx299
          exact And.intro rfl rfl
      · rintro _ _ ⟨rfl, rfl⟩
        refine thenS_n ?_
        refine W_seq ?_
        refine W_region ?_
        refine WO_step 2 [0, 1, 2, 3] [0, 3, 5, 9, 10, 11, 19, 20] True ⟨[(0, .one (.e (.sl 0 0 x1.length))), (3, .one (.e (.p 1 0))), (5, .one (.e (.p 2 0))), (9, .one (.e (.sl 0 0 x1.length))), (10, I ((x1.length : Nat) : Int)), (11, I i218), (19, .one (.e (.sl 0 0 x1.length))), (20, I i218)], [.row .nod x1 false, .cells [.sp 1 38, .bsl 3 x299.length], .cells [cI ((x1.getD i218.toNat dnod).parent), cS ((x1.getD i218.toNat dnod).name), cI ((x1.getD i218.toNat dnod).value)], .row .u8 x299 true]⟩ (by kernel_rfl) trivial ?_
        refine bindO_e h (fun s306 hc307 h => ?_)
        refine WO_call [.ro 0] Tryd.f18 rfl rfl rfl (by kernel_rfl) Tryd.func18 rfl (by kernel_rfl) (impl_PathText_ok n x1 i218 s306 hc307) (And.intro (And.intro rfl rfl) (trivial)) rfl ?_
        refine WO_sub [0, 1, 2, 3] [0, 3, 5, 9, 10, 11, 21] (st' := ⟨[(0, .one (.e (.sl 0 0 x1.length))), (3, .one (.e (.p 1 0))), (5, .one (.e (.p 2 0))), (9, .one (.e (.sl 0 0 x1.length))), (10, I ((x1.length : Nat) : Int)), (11, I i218), (21, S s306)], [.row .nod x1 false, .cells [.sp 1 38, .bsl 3 x299.length], .cells [cI ((x1.getD i218.toNat dnod).parent), cS ((x1.getD i218.toNat dnod).name), cI ((x1.getD i218.toNat dnod).value)], .row .u8 x299 true]⟩) (by kernel_rfl) ?_
        refine bindO_e h (fun v319 hc310 h => ?_)
        obtain ⟨x308, i309⟩ := v319
        refine WO_call [.own 1, .own 3] Tryd.f17 rfl rfl rfl (by kernel_rfl) Tryd.func17 rfl (by kernel_rfl) (strings_Builder_WriteString_ok x299 s306 x308 i309 hc310) (And.intro (trivial) (And.intro (trivial) (trivial))) rfl ?_
        refine WO_sub [0, 1, 2, 4] [0, 3, 5, 9, 10, 11] (st' := ⟨[(0, .one (.e (.sl 0 0 x1.length))), (3, .one (.e (.p 1 0))), (5, .one (.e (.p 2 0))), (9, .one (.e (.sl 0 0 x1.length))), (10, I ((x1.length : Nat) : Int)), (11, I i218)], [.row .nod x1 false, .cells [.sp 1 38, .bsl 3 x308.length], .cells [cI ((x1.getD i218.toNat dnod).parent), cS ((x1.getD i218.toNat dnod).name), cI ((x1.getD i218.toNat dnod).value)], .row .u8 x308 true]⟩) (by kernel_rfl) ?_
        refine WO_nil rfl ?_
        refine thenS_n ?_
        refine W_seq ?_
        refine W_region ?_
        refine bindO_e h (fun x311 hc312 h => ?_)
        refine WO_call [.own 1, .own 3] Tryd.f19 rfl rfl rfl (by kernel_rfl) Tryd.func19 rfl (by kernel_rfl) (strings_Builder_WriteByte_ok x308 32 x311 hc312) (And.intro (trivial) (And.intro (trivial) (trivial))) rfl ?_
        refine WO_sub [0, 1, 2, 4] [0, 3, 5, 9, 10, 11] (st' := ⟨[(0, .one (.e (.sl 0 0 x1.length))), (3, .one (.e (.p 1 0))), (5, .one (.e (.p 2 0))), (9, .one (.e (.sl 0 0 x1.length))), (10, I ((x1.length : Nat) : Int)), (11, I i218)], [.row .nod x1 false, .cells [.sp 1 38, .bsl 3 x311.length], .cells [cI ((x1.getD i218.toNat dnod).parent), cS ((x1.getD i218.toNat dnod).name), cI ((x1.getD i218.toNat dnod).value)], .row .u8 x311 true]⟩) (by kernel_rfl) ?_
        refine WO_nil rfl ?_
        refine thenS_n ?_
        refine W_region ?_
        refine WO_step 2 [0, 1, 3] [0, 3, 9, 10, 11, 25] (True ∧ True) ⟨[(0, .one (.e (.sl 0 0 x1.length))), (3, .one (.e (.p 1 0))), (9, .one (.e (.sl 0 0 x1.length))), (10, I ((x1.length : Nat) : Int)), (11, I i218), (25, I ((x1.getD i218.toNat dnod).value))], [.row .nod x1 false, .cells [.sp 1 38, .bsl 2 x311.length], .row .u8 x311 true]⟩ (by kernel_rfl) ⟨trivial, trivial⟩ ?_
        refine bindO_e h (fun s313 hc314 h => ?_)
        refine WO_call [] Tryd.f20 rfl rfl rfl (by kernel_rfl) Tryd.func20 rfl (by kernel_rfl) (strconv_Itoa_ok ((x1.getD i218.toNat dnod).value) s313 hc314) (trivial) rfl ?_
        refine WO_sub [0, 1, 2] [0, 3, 9, 10, 11, 26] (st' := ⟨[(0, .one (.e (.sl 0 0 x1.length))), (3, .one (.e (.p 1 0))), (9, .one (.e (.sl 0 0 x1.length))), (10, I ((x1.length : Nat) : Int)), (11, I i218), (26, S s313)], [.row .nod x1 false, .cells [.sp 1 38, .bsl 2 x311.length], .row .u8 x311 true]⟩) (by kernel_rfl) ?_
        refine bindO_e h (fun v318 hc317 h => ?_)
        obtain ⟨x315, i316⟩ := v318
        refine WO_call [.own 1, .own 2] Tryd.f17 rfl rfl rfl (by kernel_rfl) Tryd.func17 rfl (by kernel_rfl) (strings_Builder_WriteString_ok x311 s313 x315 i316 hc317) (And.intro (trivial) (And.intro (trivial) (trivial))) rfl ?_
        refine WO_sub [0, 1, 3] [0, 3, 9, 10, 11] (st' := ⟨[(0, .one (.e (.sl 0 0 x1.length))), (3, .one (.e (.p 1 0))), (9, .one (.e (.sl 0 0 x1.length))), (10, I ((x1.length : Nat) : Int)), (11, I i218)], [.row .nod x1 false, .cells [.sp 1 38, .bsl 2 x315.length], .row .u8 x315 true]⟩) (by kernel_rfl) ?_
        refine WO_nil rfl ?_
        refine blockS_n ?_
        refine thenS_n ?_
        refine W_region ?_
        refine WO_step 2 [0, 1, 2] [0, 3, 9, 10, 11] (True ∧ True) ⟨[(0, .one (.e (.sl 0 0 x1.length))), (3, .one (.e (.p 1 0))), (9, .one (.e (.sl 0 0 x1.length))), (10, I ((x1.length : Nat) : Int)), (11, I (w64 (i218 + 1)))], [.row .nod x1 false, .cells [.sp 1 38, .bsl 2 x315.length], .row .u8 x315 true]⟩ (by kernel_rfl) ⟨trivial, trivial⟩ ?_
        refine WO_nil rfl ?_
        refine thenS_n ?_
        exact ih _ _ h
    · refine W_sub [0, 1, 2] [3] (st' := ⟨[(3, .one (.e (.p 1 0)))], [.row .nod x1 false, .cells [.sp 1 38, .bsl 2 x217.length], .row .u8 x217 true]⟩) (by kernel_rfl) ?_
      refine W_exit ?_
      refine thenS_e ?_
      refine thenS_e ?_
      cases h
      exact And.intro rfl rfl

def impl_FormatTree (n : Nat) (x1 : List Nod) : Option (Str) :=
bindO (impl_ValidTree n x1) fun b161 =>
iteO (!b161)
 (some [])
 (bindO (impl_FormatTree_L1 x1 n ([] : List Int) 0) fun x267 =>
bindO (strings_Builder_String x267) fun (k321, s322) =>
some s322)

theorem impl_FormatTree_ok (n : Nat) (x1 : List Nod) (s160 : Str) (h : impl_FormatTree n x1 = some s160) : FOk EE 6 [.one (.e (.sl 0 0 x1.length))] [.row .nod x1 false] (S s160) [.row .nod x1 false] := by
  unfold impl_FormatTree at h
  refine FOk_of_W 30 1 Tryd.func6 rfl rfl (Nat.le_of_ble_eq_true rfl) rfl (fun w X θ => ?_)
  refine W_seq ?_
  refine W_region ?_
  refine WO_step 1 [0] [0] True ⟨[(0, .one (.e (.sl 0 0 x1.length)))], [.row .nod x1 false]⟩ (by kernel_rfl) trivial ?_
  refine WO_nil rfl ?_
  refine thenS_n ?_
  refine W_seq ?_
  refine W_seq ?_
  refine W_region ?_
  refine WO_step 1 [0] [0, 6] True ⟨[(0, .one (.e (.sl 0 0 x1.length))), (6, .one (.e (.sl 0 0 x1.length)))], [.row .nod x1 false]⟩ (by kernel_rfl) trivial ?_
  refine bindO_e h (fun b161 hc162 h => ?_)
  refine WO_call [.ro 0] Tryd.f16 rfl rfl rfl (by kernel_rfl) Tryd.func16 rfl (by kernel_rfl) (impl_ValidTree_ok n x1 b161 hc162) (And.intro (And.intro rfl rfl) (trivial)) rfl ?_
  refine WO_step 1 [0] [0, 8] True ⟨[(0, .one (.e (.sl 0 0 x1.length))), (8, B (!b161))], [.row .nod x1 false]⟩ (by kernel_rfl) trivial ?_
  refine WO_nil rfl ?_
  refine thenS_n ?_
  refine iteO_e h (fun hb164 h => W_true rfl hb164 ?_) (fun hb164 h => W_false rfl hb164 ?_)
  · refine W_seq ?_
    refine W_region ?_
    refine WO_step 1 [0] [2] True ⟨[(2, S [])], [.row .nod x1 false]⟩ (by kernel_rfl) trivial ?_
    refine WO_nil rfl ?_
    refine thenS_n ?_
    refine W_ret ?_
    refine thenS_r ?_
    cases h
    exact ⟨[0], True, by kernel_rfl, trivial⟩
  · refine W_sub [0] [0] (st' := ⟨[(0, .one (.e (.sl 0 0 x1.length)))], [.row .nod x1 false]⟩) (by kernel_rfl) ?_
    refine W_skip ?_
    refine thenS_n ?_
    refine W_seq ?_
    refine W_region ?_
    refine WO_step 1 [0, 1] [0, 3] (True ∧ True) ⟨[(0, .one (.e (.sl 0 0 x1.length))), (3, .one (.e (.p 1 0)))], [.row .nod x1 false, .cells [.sp 1 38, .nsl]]⟩ (by kernel_rfl) ⟨trivial, trivial⟩ ?_
    refine WO_bld 1 rfl ?_
    refine WO_nil rfl ?_
    refine thenS_n ?_
    refine W_seq ?_
    refine W_seq ?_
    refine W_region ?_
    refine WO_step 3 [0, 1, 2] [0, 3, 9, 10, 11] (True ∧ True) ⟨[(0, .one (.e (.sl 0 0 x1.length))), (3, .one (.e (.p 1 0))), (9, .one (.e (.sl 0 0 x1.length))), (10, I ((x1.length : Nat) : Int)), (11, I 0)], [.row .nod x1 false, .cells [.sp 1 38, .bsl 2 (([] : List Int).length)], .row .u8 ([] : List Int) true]⟩ (by kernel_rfl) ⟨trivial, trivial⟩ ?_
    refine WO_nil rfl ?_
    refine thenS_n ?_
    refine W_block ?_
    refine W_loop ?_
    refine bindO_e h (fun x267 hx267 h => ?_)
    refine WL_cut (impl_FormatTree_L1_ok w X θ x1 x267 n ([] : List Int) 0 hx267) ?_
    rintro _ _ ⟨rfl, rfl⟩
    refine blockS_y ?_
    refine thenS_n ?_
    refine W_seq ?_
    refine W_region ?_
    refine bindO_e h (fun v324 hc323 h => ?_)
    obtain ⟨k321, s322⟩ := v324
    refine WO_call [.own 1, .own 2] Tryd.f21 rfl rfl rfl (by kernel_rfl) Tryd.func21 rfl (by kernel_rfl) (strings_Builder_String_ok x267 k321 s322 hc323) (And.intro (trivial) (And.intro (trivial) (trivial))) rfl ?_
    refine WO_step 1 [0] [2] True ⟨[(2, S s322)], [.row .nod x1 false]⟩ (by kernel_rfl) trivial ?_
    refine WO_nil rfl ?_
    refine thenS_n ?_
    refine W_ret ?_
    cases h
    exact ⟨[0], True, by kernel_rfl, trivial⟩

/- impl.ParseTree -/
def impl_ParseTree_L1 (s1 : Str) (x180 : List Str) : Nat → (List Nod) → Int → Option ((Unit) ⊕ ((List Nod)))
| 0, _, _ => none
| n + 1, x238, i239 =>
iteO (decide (i239 < ((x180.length : Nat) : Int)))
 (guardO (0 ≤ i239 ∧ i239 < ((x180.length : Nat) : Int)) <|
bindO (strings_Cut (x180.getD i239.toNat []) [32]) fun (s321, s322, b323) =>
bindO (strconv_Atoi s322) fun (i325, b326) =>
iteO ((!b323) || b326)
 (some (.inl ()))
 (bindO (iteO (decide (i239 = 0))
 (some (.inl [(⟨(-1), [], i325⟩ : Nod)]))
 (bindO (impl_addPath n x238 s321 i325) fun (x343, b344) =>
iteO (!b344)
 (some (.inr ()))
 (some (.inl x343))) : Option (((List Nod)) ⊕ (Unit))) fun v341 =>
match v341 with
 | (.inl x340) => (impl_ParseTree_L1 s1 x180 n x340 (w64 (i239 + 1)))
 | (.inr _) => (some (.inl ()))
))
 (some (.inr x238))

theorem impl_ParseTree_L1_ok (w : World) (X : Nat → Prop) (θ : List Loc) (s1 : Str) (x180 : List Str) (v : (Unit) ⊕ ((List Nod))) : ∀ (n : Nat) (x238 : List Nod) (i239 : Int), impl_ParseTree_L1 s1 x180 n x238 i239 = some v → WL EE ⟨w, X, θ, 62, 0⟩ (subC [1, 1, 0, 1, 4, 4] (bodyC Tryd.f8)) (fun (e : Exit) (s : St) => (match v with | (.inl _) => e = .ret ∧ s = ⟨[(2, .one (.e (.sl 0 0 (([] : List Nod).length)))), (3, B false)], [.row .nod ([] : List Nod) true]⟩ | (.inr x292) => e = .exit 0 ∧ s = ⟨[(0, S s1), (4, .one (.e (.sl 0 0 x292.length)))], [.row .nod x292 true]⟩ : Prop)) ⟨[(0, S s1), (4, .one (.e (.sl 0 0 x238.length))), (13, .one (.e (.sl 1 0 x180.length))), (14, I ((x180.length : Nat) : Int)), (15, I i239)], [.row .nod x238 true, .row .str x180 true]⟩ := by
  intro n
  induction n with
  | zero => intro _ _ h; exact none_e h
  | succ n ih =>
    intro x238 i239 h
    rw [impl_ParseTree_L1] at h
    refine WL_round ?_
    refine W_seq ?_
    refine W_region ?_
    refine WO_step 1 [0, 1] [0, 4, 13, 14, 15, 16] (True ∧ True) ⟨[(0, S s1), (4, .one (.e (.sl 0 0 x238.length))), (13, .one (.e (.sl 1 0 x180.length))), (14, I ((x180.length : Nat) : Int)), (15, I i239), (16, B (decide (i239 < ((x180.length : Nat) : Int))))], [.row .nod x238 true, .row .str x180 true]⟩ (by kernel_rfl) ⟨trivial, trivial⟩ ?_
    refine WO_nil rfl ?_
    refine thenS_n ?_
    refine W_seq ?_
    refine iteO_e h (fun hb295 h => W_true rfl hb295 ?_) (fun hb295 h => W_false rfl hb295 ?_)
    · refine W_sub [0, 1] [0, 4, 13, 14, 15] (st' := ⟨[(0, S s1), (4, .one (.e (.sl 0 0 x238.length))), (13, .one (.e (.sl 1 0 x180.length))), (14, I ((x180.length : Nat) : Int)), (15, I i239)], [.row .nod x238 true, .row .str x180 true]⟩) (by kernel_rfl) ?_
      refine W_skip ?_
      refine thenS_n ?_
      refine W_seq ?_
      refine W_block ?_
      refine W_seq ?_
      refine W_region ?_
      refine guardO_e h (fun hg320 h => ?_)
      refine WO_step 5 [0, 1] [0, 4, 5, 6, 13, 14, 15] ((0 ≤ i239 ∧ i239 < ((x180.length : Nat) : Int)) ∧ (True ∧ True)) ⟨[(0, S s1), (4, .one (.e (.sl 0 0 x238.length))), (5, I i239), (6, S (x180.getD i239.toNat [])), (13, .one (.e (.sl 1 0 x180.length))), (14, I ((x180.length : Nat) : Int)), (15, I i239)], [.row .nod x238 true, .row .str x180 true]⟩ (by kernel_rfl) ⟨hg320, trivial, trivial⟩ ?_
      refine WO_nil rfl ?_
      refine thenS_n ?_
      refine W_seq ?_
      refine W_region ?_
      refine WO_step 1 [0, 1] [0, 4, 5, 13, 14, 15, 21] True ⟨[(0, S s1), (4, .one (.e (.sl 0 0 x238.length))), (5, I i239), (13, .one (.e (.sl 1 0 x180.length))), (14, I ((x180.length : Nat) : Int)), (15, I i239), (21, S (x180.getD i239.toNat []))], [.row .nod x238 true, .row .str x180 true]⟩ (by kernel_rfl) trivial ?_
      refine bindO_e h (fun v350 hc324 h => ?_)
      obtain ⟨s321, s322, b323⟩ := v350
      refine WO_call [] Tryd.f25 rfl rfl rfl (by kernel_rfl) Tryd.func25 rfl (by kernel_rfl) (strings_Cut_ok (x180.getD i239.toNat []) [32] s321 s322 b323 hc324) (trivial) rfl ?_
      refine WO_step 7 [0, 1] [0, 4, 5, 7, 8, 9, 13, 14, 15] True ⟨[(0, S s1), (4, .one (.e (.sl 0 0 x238.length))), (5, I i239), (7, S s321), (8, S s322), (9, B b323), (13, .one (.e (.sl 1 0 x180.length))), (14, I ((x180.length : Nat) : Int)), (15, I i239)], [.row .nod x238 true, .row .str x180 true]⟩ (by kernel_rfl) trivial ?_
      refine WO_nil rfl ?_
      refine thenS_n ?_
      refine W_seq ?_
      refine W_region ?_
      refine WO_step 1 [0, 1] [0, 4, 5, 7, 9, 13, 14, 15, 27] True ⟨[(0, S s1), (4, .one (.e (.sl 0 0 x238.length))), (5, I i239), (7, S s321), (9, B b323), (13, .one (.e (.sl 1 0 x180.length))), (14, I ((x180.length : Nat) : Int)), (15, I i239), (27, S s322)], [.row .nod x238 true, .row .str x180 true]⟩ (by kernel_rfl) trivial ?_
      refine bindO_e h (fun v349 hc327 h => ?_)
      obtain ⟨i325, b326⟩ := v349
      refine WO_call [] Tryd.f26 rfl rfl rfl (by kernel_rfl) Tryd.func26 rfl (by kernel_rfl) (strconv_Atoi_ok s322 i325 b326 hc327) (trivial) rfl ?_
      refine WO_step 5 [0, 1] [0, 4, 5, 7, 9, 10, 11, 13, 14, 15] True ⟨[(0, S s1), (4, .one (.e (.sl 0 0 x238.length))), (5, I i239), (7, S s321), (9, B b323), (10, I i325), (11, .one (.e (.err b326))), (13, .one (.e (.sl 1 0 x180.length))), (14, I ((x180.length : Nat) : Int)), (15, I i239)], [.row .nod x238 true, .row .str x180 true]⟩ (by kernel_rfl) trivial ?_
      refine WO_nil rfl ?_
      refine thenS_n ?_
      refine W_seq ?_
      refine W_seq ?_
      refine W_region ?_
      refine WO_step 3 [0, 1] [0, 4, 5, 7, 10, 11, 13, 14, 15, 33] True ⟨[(0, S s1), (4, .one (.e (.sl 0 0 x238.length))), (5, I i239), (7, S s321), (10, I i325), (11, .one (.e (.err b326))), (13, .one (.e (.sl 1 0 x180.length))), (14, I ((x180.length : Nat) : Int)), (15, I i239), (33, B (!b323))], [.row .nod x238 true, .row .str x180 true]⟩ (by kernel_rfl) trivial ?_
      refine WO_thru ⟨[(0, S s1), (4, .one (.e (.sl 0 0 x238.length))), (5, I i239), (7, S s321), (10, I i325), (13, .one (.e (.sl 1 0 x180.length))), (14, I ((x180.length : Nat) : Int)), (15, I i239), (36, B ((!b323) || b326))], [.row .nod x238 true, .row .str x180 true]⟩ ?_ ?_
      · refine WO_if 33 rfl (fun hb330 => ?_) (fun hb330 => ?_)
        · refine WO_step 3 [0, 1] [0, 4, 5, 7, 10, 13, 14, 15, 36] True ⟨[(0, S s1), (4, .one (.e (.sl 0 0 x238.length))), (5, I i239), (7, S s321), (10, I i325), (13, .one (.e (.sl 1 0 x180.length))), (14, I ((x180.length : Nat) : Int)), (15, I i239), (36, B true)], [.row .nod x238 true, .row .str x180 true]⟩ (by kernel_rfl) trivial ?_
          exact WO_nil rfl ⟨rfl, by first | rfl | (rw [hb330]; first | done | rfl)⟩
        · refine WO_step 3 [0, 1] [0, 4, 5, 7, 10, 13, 14, 15, 36] (True ∧ True) ⟨[(0, S s1), (4, .one (.e (.sl 0 0 x238.length))), (5, I i239), (7, S s321), (10, I i325), (13, .one (.e (.sl 1 0 x180.length))), (14, I ((x180.length : Nat) : Int)), (15, I i239), (36, B b326)], [.row .nod x238 true, .row .str x180 true]⟩ (by kernel_rfl) ⟨trivial, trivial⟩ ?_
          exact WO_nil rfl ⟨rfl, by first | rfl | (rw [hb330]; first | done | rfl)⟩
      · refine thenS_n ?_
        refine iteO_e h (fun hb332 h => W_true rfl hb332 ?_) (fun hb332 h => W_false rfl hb332 ?_)
        · refine W_seq ?_
          refine W_region ?_
          refine WO_step 2 [] [2, 3] True ⟨[(2, .one (.e (.nsl))), (3, B false)], []⟩ (by kernel_rfl) trivial ?_
          refine WO_nilrow 2 .nod rfl ?_
          refine WO_sub [0] [2, 3] (st' := ⟨[(2, .one (.e (.sl 0 0 (([] : List Nod).length)))), (3, B false)], [.row .nod ([] : List Nod) true]⟩) (by kernel_rfl) ?_
          refine WO_nil rfl ?_
          refine thenS_n ?_
          refine W_ret ?_
          refine thenS_r ?_
          refine blockS_r ?_
          refine thenS_r ?_
          refine thenS_r ?_
          cases h
          exact And.intro rfl rfl
        · refine W_sub [0, 1] [0, 4, 5, 7, 10, 13, 14, 15] (st' := ⟨[(0, S s1), (4, .one (.e (.sl 0 0 x238.length))), (5, I i239), (7, S s321), (10, I i325), (13, .one (.e (.sl 1 0 x180.length))), (14, I ((x180.length : Nat) : Int)), (15, I i239)], [.row .nod x238 true, .row .str x180 true]⟩) (by kernel_rfl) ?_
          refine W_skip ?_
          refine thenS_n ?_
          refine W_seq ?_
          refine W_region ?_
          refine WO_step 2 [0, 1] [0, 4, 7, 10, 13, 14, 15, 38] (True ∧ True) ⟨[(0, S s1), (4, .one (.e (.sl 0 0 x238.length))), (7, S s321), (10, I i325), (13, .one (.e (.sl 1 0 x180.length))), (14, I ((x180.length : Nat) : Int)), (15, I i239), (38, B (decide (i239 = 0)))], [.row .nod x238 true, .row .str x180 true]⟩ (by kernel_rfl) ⟨trivial, trivial⟩ ?_
          refine WO_nil rfl ?_
          refine thenS_n ?_
          refine bindO_e h (fun v341 hv341 h => ?_)
          refine W_cut (Q' := fun (e : Exit) (s : St) => (match v341 with | (.inl x340) => e = .normal ∧ s = ⟨[(0, S s1), (4, .one (.e (.sl 0 0 x340.length))), (13, .one (.e (.sl 1 0 x180.length))), (14, I ((x180.length : Nat) : Int)), (15, I i239)], [.row .nod x340 true, .row .str x180 true]⟩ | (.inr _) => e = .ret ∧ s = ⟨[(2, .one (.e (.sl 0 0 (([] : List Nod).length)))), (3, B false)], [.row .nod ([] : List Nod) true]⟩ : Prop)) ?_ ?_
          · refine iteO_e hv341 (fun hb342 hv341 => W_true rfl hb342 ?_) (fun hb342 hv341 => W_false rfl hb342 ?_)
            · refine W_region ?_
              refine WO_step 4 [2, 1] [0, 4, 13, 14, 15] True ⟨[(0, S s1), (4, .one (.e (.sl 0 0 ([(⟨(-1), [], i325⟩ : Nod)].length)))), (13, .one (.e (.sl 1 0 x180.length))), (14, I ((x180.length : Nat) : Int)), (15, I i239)], [.row .nod [(⟨(-1), [], i325⟩ : Nod)] true, .row .str x180 true]⟩ (by kernel_rfl) trivial ?_
              refine WO_nil rfl ?_
              cases hv341
              exact And.intro rfl rfl
            · refine W_seq ?_
              refine W_region ?_
              refine WO_step 3 [1, 0] [0, 13, 14, 15, 43, 44, 45] True ⟨[(0, S s1), (13, .one (.e (.sl 0 0 x180.length))), (14, I ((x180.length : Nat) : Int)), (15, I i239), (43, .one (.e (.sl 1 0 x238.length))), (44, S s321), (45, I i325)], [.row .str x180 true, .row .nod x238 true]⟩ (by kernel_rfl) trivial ?_
              refine bindO_e hv341 (fun v348 hc345 hv341 => ?_)
              obtain ⟨x343, b344⟩ := v348
              refine WO_call [.ro 1] Tryd.f27 rfl rfl rfl (by kernel_rfl) Tryd.func27 rfl (by kernel_rfl) (impl_addPath_ok n x238 s321 i325 x343 b344 hc345) (And.intro (And.intro rfl rfl) (trivial)) rfl ?_
              refine WO_step 5 [2, 0] [0, 4, 9, 13, 14, 15] True ⟨[(0, S s1), (4, .one (.e (.sl 0 0 x343.length))), (9, B b344), (13, .one (.e (.sl 1 0 x180.length))), (14, I ((x180.length : Nat) : Int)), (15, I i239)], [.row .nod x343 true, .row .str x180 true]⟩ (by kernel_rfl) trivial ?_
              refine WO_nil rfl ?_
              refine thenS_n ?_
              refine W_seq ?_
              refine W_region ?_
              refine WO_step 2 [0, 1] [0, 4, 13, 14, 15, 50] True ⟨[(0, S s1), (4, .one (.e (.sl 0 0 x343.length))), (13, .one (.e (.sl 1 0 x180.length))), (14, I ((x180.length : Nat) : Int)), (15, I i239), (50, B (!b344))], [.row .nod x343 true, .row .str x180 true]⟩ (by kernel_rfl) trivial ?_
              refine WO_nil rfl ?_
              refine thenS_n ?_
              refine iteO_e hv341 (fun hb347 hv341 => W_true rfl hb347 ?_) (fun hb347 hv341 => W_false rfl hb347 ?_)
              · refine W_seq ?_
                refine W_region ?_
                refine WO_step 2 [] [2, 3] True ⟨[(2, .one (.e (.nsl))), (3, B false)], []⟩ (by kernel_rfl) trivial ?_
                refine WO_nilrow 2 .nod rfl ?_
                refine WO_sub [0] [2, 3] (st' := ⟨[(2, .one (.e (.sl 0 0 (([] : List Nod).length)))), (3, B false)], [.row .nod ([] : List Nod) true]⟩) (by kernel_rfl) ?_
                refine WO_nil rfl ?_
                refine thenS_n ?_
                refine W_ret ?_
                cases hv341
                exact And.intro rfl rfl
              · refine W_sub [0, 1] [0, 4, 13, 14, 15] (st' := ⟨[(0, S s1), (4, .one (.e (.sl 0 0 x343.length))), (13, .one (.e (.sl 1 0 x180.length))), (14, I ((x180.length : Nat) : Int)), (15, I i239)], [.row .nod x343 true, .row .str x180 true]⟩) (by kernel_rfl) ?_
                refine W_skip ?_
                cases hv341
                exact And.intro rfl rfl
          · rcases v341 with x340 | _
            · rintro _ _ ⟨rfl, rfl⟩
              refine blockS_n ?_
              refine thenS_n ?_
              refine W_region ?_
              refine WO_step 2 [0, 1] [0, 4, 13, 14, 15] (True ∧ True) ⟨[(0, S s1), (4, .one (.e (.sl 0 0 x340.length))), (13, .one (.e (.sl 1 0 x180.length))), (14, I ((x180.length : Nat) : Int)), (15, I (w64 (i239 + 1)))], [.row .nod x340 true, .row .str x180 true]⟩ (by kernel_rfl) ⟨trivial, trivial⟩ ?_
              refine WO_nil rfl ?_
              refine thenS_n ?_
              exact ih _ _ h
            · rintro _ _ ⟨rfl, rfl⟩
              refine blockS_r ?_
              refine thenS_r ?_
              refine thenS_r ?_
              cases h
              exact And.intro rfl rfl
    · refine W_sub [0] [0, 4] (st' := ⟨[(0, S s1), (4, .one (.e (.sl 0 0 x238.length)))], [.row .nod x238 true]⟩) (by kernel_rfl) ?_
      refine W_exit ?_
      refine thenS_e ?_
      refine thenS_e ?_
      cases h
      exact And.intro rfl rfl

def impl_ParseTree (n : Nat) (s1 : Str) : Option ((List Nod) × Bool) :=
bindO (strings_SplitN s1 [59, 32] 13) fun x180 =>
bindO (impl_ParseTree_L1 s1 x180 n ([] : List Nod) 0) fun v351 =>
match v351 with
 | (.inl _) => (some (([] : List Nod), false))
 | (.inr x292) => (bindO (impl_ValidTree n x292) fun b352 =>
bindO (iteO (!b352)
 (some true)
 (bindO (impl_FormatTree n x292) fun s360 =>
some (!decide (s360 = s1)))) fun b357 =>
iteO b357
 (some (([] : List Nod), false))
 (some (x292, true)))


theorem impl_ParseTree_ok (n : Nat) (s1 : Str) (x178 : List Nod) (b179 : Bool) (h : impl_ParseTree n s1 = some (x178, b179)) : FOk EE 8 [S s1] [] (.tup [.e (.sl 0 0 x178.length), .e (cB b179)]) [.row .nod x178 true] := by
  unfold impl_ParseTree at h
  refine FOk_of_W 62 0 Tryd.func8 rfl rfl (Nat.le_of_ble_eq_true rfl) rfl (fun w X θ => ?_)
  refine W_seq ?_
  refine W_region ?_
  refine WO_step 2 [] [0] True ⟨[(0, S s1)], []⟩ (by kernel_rfl) trivial ?_
  refine WO_nil rfl ?_
  refine thenS_n ?_
  refine W_seq ?_
  refine W_region ?_
  refine WO_step 1 [] [0, 4] True ⟨[(0, S s1), (4, .one (.e (.nsl)))], []⟩ (by kernel_rfl) trivial ?_
  refine WO_nilrow 4 .nod rfl ?_
  refine WO_sub [0] [0, 4] (st' := ⟨[(0, S s1), (4, .one (.e (.sl 0 0 (([] : List Nod).length))))], [.row .nod ([] : List Nod) true]⟩) (by kernel_rfl) ?_
  refine WO_nil rfl ?_
  refine thenS_n ?_
  refine W_seq ?_
  refine W_seq ?_
  refine W_region ?_
  refine WO_step 1 [0] [0, 4, 12] True ⟨[(0, S s1), (4, .one (.e (.sl 0 0 (([] : List Nod).length)))), (12, S s1)], [.row .nod ([] : List Nod) true]⟩ (by kernel_rfl) trivial ?_
  refine bindO_e h (fun x180 hc181 h => ?_)
  refine WO_call [] Tryd.f24 rfl rfl rfl (by kernel_rfl) Tryd.func24 rfl (by kernel_rfl) (strings_SplitN_ok s1 [59, 32] 13 x180 hc181) (trivial) rfl ?_
  refine WO_step 2 [0, 1] [0, 4, 13, 14, 15] (True ∧ True) ⟨[(0, S s1), (4, .one (.e (.sl 0 0 (([] : List Nod).length)))), (13, .one (.e (.sl 1 0 x180.length))), (14, I ((x180.length : Nat) : Int)), (15, I 0)], [.row .nod ([] : List Nod) true, .row .str x180 true]⟩ (by kernel_rfl) ⟨trivial, trivial⟩ ?_
  refine WO_nil rfl ?_
  refine thenS_n ?_
  refine W_block ?_
  refine W_loop ?_
  refine bindO_e h (fun v351 hv351 h => ?_)
  refine WL_cut (impl_ParseTree_L1_ok w X θ s1 x180 v351 n ([] : List Nod) 0 hv351) ?_
  rcases v351 with _ | x292
  · rintro _ _ ⟨rfl, rfl⟩
    refine blockS_r ?_
    refine thenS_r ?_
    cases h
    exact ⟨[0], True, by kernel_rfl, trivial⟩
  · rintro _ _ ⟨rfl, rfl⟩
    refine blockS_y ?_
    refine thenS_n ?_
    refine W_seq ?_
    refine W_seq ?_
    refine W_region ?_
    refine WO_step 1 [0] [0, 4, 52] True ⟨[(0, S s1), (4, .one (.e (.sl 0 0 x292.length))), (52, .one (.e (.sl 0 0 x292.length)))], [.row .nod x292 true]⟩ (by kernel_rfl) trivial ?_
    refine bindO_e h (fun b352 hc353 h => ?_)
    refine WO_call [.ro 0] Tryd.f16 rfl rfl rfl (by kernel_rfl) Tryd.func16 rfl (by kernel_rfl) (impl_ValidTree_ok n x292 b352 hc353) (And.intro (And.intro rfl rfl) (trivial)) rfl ?_
    refine WO_step 2 [0] [0, 4, 55] True ⟨[(0, S s1), (4, .one (.e (.sl 0 0 x292.length))), (55, B (!b352))], [.row .nod x292 true]⟩ (by kernel_rfl) trivial ?_
    refine bindO_e h (fun b357 hv358 h => ?_)
    refine WO_thru ⟨[(4, .one (.e (.sl 0 0 x292.length))), (60, B b357)], [.row .nod x292 true]⟩ ?_ ?_
    · refine iteO_e hv358 (fun hb359 hv358 => WO_known 55 true rfl hb359 ?_) (fun hb359 hv358 => WO_known 55 false rfl hb359 ?_)
      · refine WO_step 5 [0] [4, 60] True ⟨[(4, .one (.e (.sl 0 0 x292.length))), (60, B true)], [.row .nod x292 true]⟩ (by kernel_rfl) trivial ?_
        cases hv358
        exact WO_nil rfl ⟨rfl, rfl⟩
      · refine WO_step 1 [0] [0, 4, 55, 56] True ⟨[(0, S s1), (4, .one (.e (.sl 0 0 x292.length))), (55, B false), (56, .one (.e (.sl 0 0 x292.length)))], [.row .nod x292 true]⟩ (by kernel_rfl) trivial ?_
        refine bindO_e hv358 (fun s360 hc361 hv358 => ?_)
        refine WO_call [.ro 0] Tryd.f6 rfl rfl rfl (by kernel_rfl) Tryd.func6 rfl (by kernel_rfl) (impl_FormatTree_ok n x292 s360 hc361) (And.intro (And.intro rfl rfl) (trivial)) rfl ?_
        refine WO_step 3 [0] [4, 60] (True ∧ True) ⟨[(4, .one (.e (.sl 0 0 x292.length))), (60, B (!decide (s360 = s1)))], [.row .nod x292 true]⟩ (by kernel_rfl) ⟨trivial, trivial⟩ ?_
        cases hv358
        exact WO_nil rfl ⟨rfl, rfl⟩
    · refine thenS_n ?_
      refine iteO_e h (fun hb363 h => W_true rfl hb363 ?_) (fun hb363 h => W_false rfl hb363 ?_)
      · refine W_seq ?_
        refine W_region ?_
        refine WO_step 2 [] [2, 3] True ⟨[(2, .one (.e (.nsl))), (3, B false)], []⟩ (by kernel_rfl) trivial ?_
        refine WO_nilrow 2 .nod rfl ?_
        refine WO_sub [0] [2, 3] (st' := ⟨[(2, .one (.e (.sl 0 0 (([] : List Nod).length)))), (3, B false)], [.row .nod ([] : List Nod) true]⟩) (by kernel_rfl) ?_
        refine WO_nil rfl ?_
        refine thenS_n ?_
        refine W_ret ?_
        refine thenS_r ?_
        cases h
        exact ⟨[0], True, by kernel_rfl, trivial⟩
      · refine W_sub [0] [4] (st' := ⟨[(4, .one (.e (.sl 0 0 x292.length)))], [.row .nod x292 true]⟩) (by kernel_rfl) ?_
        refine W_skip ?_
        refine thenS_n ?_
        refine W_seq ?_
        refine W_region ?_
        refine WO_step 3 [0] [2, 3] True ⟨[(2, .one (.e (.sl 0 0 x292.length))), (3, B true)], [.row .nod x292 true]⟩ (by kernel_rfl) trivial ?_
        refine WO_nil rfl ?_
        refine thenS_n ?_
        refine W_ret ?_
        cases h
        exact ⟨[0], True, by kernel_rfl, trivial⟩

/- laws.eqNode -/
def laws_eqNode (x1 : Nod) (x2 : Nod) : Option (Bool) :=
iteO (!decide (x1.parent = x2.parent))
 (some false)
 (iteO (!decide (x1.name = x2.name))
 (some false)
 (iteO (!decide (x1.value = x2.value))
 (some false)
 (some true)))

theorem laws_eqNode_ok (x1 : Nod) (x2 : Nod) (b9 : Bool) (h : laws_eqNode x1 x2 = some b9) : FOk EE 32 [AGG [cI x1.parent, cS x1.name, cI x1.value], AGG [cI x2.parent, cS x2.name, cI x2.value]] [] (B b9) [] := by
  unfold laws_eqNode at h
  refine FOk_of_W 20 0 Tryd.func32 rfl rfl (Nat.le_of_ble_eq_true rfl) rfl (fun w X θ => ?_)
  refine W_seq ?_
  refine W_region ?_
  refine WO_step 3 [0, 1] [2, 3] (True ∧ (True ∧ True)) ⟨[(2, .one (.e (.p 0 0))), (3, .one (.e (.p 1 0)))], [.cells [cI x1.parent, cS x1.name, cI x1.value], .cells [cI x2.parent, cS x2.name, cI x2.value]]⟩ (by kernel_rfl) ⟨trivial, trivial, trivial⟩ ?_
  refine WO_nil rfl ?_
  refine thenS_n ?_
  refine W_seq ?_
  refine W_seq ?_
  refine W_region ?_
  refine WO_step 5 [0, 1] [2, 3, 9] (True ∧ (True ∧ (True ∧ True))) ⟨[(2, .one (.e (.p 0 0))), (3, .one (.e (.p 1 0))), (9, B (!decide (x1.parent = x2.parent)))], [.cells [cI x1.parent, cS x1.name, cI x1.value], .cells [cI x2.parent, cS x2.name, cI x2.value]]⟩ (by kernel_rfl) ⟨trivial, trivial, trivial, trivial⟩ ?_
  refine WO_nil rfl ?_
  refine thenS_n ?_
  refine iteO_e h (fun hb11 h => W_true rfl hb11 ?_) (fun hb11 h => W_false rfl hb11 ?_)
  · refine W_seq ?_
    refine W_region ?_
    refine WO_step 1 [] [4] True ⟨[(4, B false)], []⟩ (by kernel_rfl) trivial ?_
    refine WO_nil rfl ?_
    refine thenS_n ?_
    refine W_ret ?_
    refine thenS_r ?_
    cases h
    exact ⟨[], True, by kernel_rfl, trivial⟩
  · refine W_sub [0, 1] [2, 3] (st' := ⟨[(2, .one (.e (.p 0 0))), (3, .one (.e (.p 1 0)))], [.cells [cI x1.parent, cS x1.name, cI x1.value], .cells [cI x2.parent, cS x2.name, cI x2.value]]⟩) (by kernel_rfl) ?_
    refine W_skip ?_
    refine thenS_n ?_
    refine W_seq ?_
    refine W_seq ?_
    refine W_region ?_
    refine WO_step 5 [0, 1] [2, 3, 14] (True ∧ (True ∧ (True ∧ True))) ⟨[(2, .one (.e (.p 0 0))), (3, .one (.e (.p 1 0))), (14, B (!decide (x1.name = x2.name)))], [.cells [cI x1.parent, cS x1.name, cI x1.value], .cells [cI x2.parent, cS x2.name, cI x2.value]]⟩ (by kernel_rfl) ⟨trivial, trivial, trivial, trivial⟩ ?_
    refine WO_nil rfl ?_
    refine thenS_n ?_
    refine iteO_e h (fun hb13 h => W_true rfl hb13 ?_) (fun hb13 h => W_false rfl hb13 ?_)
    · refine W_seq ?_
      refine W_region ?_
      refine WO_step 1 [] [4] True ⟨[(4, B false)], []⟩ (by kernel_rfl) trivial ?_
      refine WO_nil rfl ?_
      refine thenS_n ?_
      refine W_ret ?_
      refine thenS_r ?_
      cases h
      exact ⟨[], True, by kernel_rfl, trivial⟩
    · refine W_sub [0, 1] [2, 3] (st' := ⟨[(2, .one (.e (.p 0 0))), (3, .one (.e (.p 1 0)))], [.cells [cI x1.parent, cS x1.name, cI x1.value], .cells [cI x2.parent, cS x2.name, cI x2.value]]⟩) (by kernel_rfl) ?_
      refine W_skip ?_
      refine thenS_n ?_
      refine W_seq ?_
      refine W_seq ?_
      refine W_region ?_
      refine WO_step 5 [] [19] (True ∧ (True ∧ (True ∧ True))) ⟨[(19, B (!decide (x1.value = x2.value)))], []⟩ (by kernel_rfl) ⟨trivial, trivial, trivial, trivial⟩ ?_
      refine WO_nil rfl ?_
      refine thenS_n ?_
      refine iteO_e h (fun hb15 h => W_true rfl hb15 ?_) (fun hb15 h => W_false rfl hb15 ?_)
      · refine W_seq ?_
        refine W_region ?_
        refine WO_step 1 [] [4] True ⟨[(4, B false)], []⟩ (by kernel_rfl) trivial ?_
        refine WO_nil rfl ?_
        refine thenS_n ?_
        refine W_ret ?_
        refine thenS_r ?_
        cases h
        exact ⟨[], True, by kernel_rfl, trivial⟩
      · refine W_sub [] [] (st' := ⟨[], []⟩) (by kernel_rfl) ?_
        refine W_skip ?_
        refine thenS_n ?_
        refine W_seq ?_
        refine W_region ?_
        refine WO_step 1 [] [4] True ⟨[(4, B true)], []⟩ (by kernel_rfl) trivial ?_
        refine WO_nil rfl ?_
        refine thenS_n ?_
        refine W_ret ?_
        cases h
        exact ⟨[], True, by kernel_rfl, trivial⟩

/- laws.eqNodeS -/
def laws_eqNodeS_L1 (x1 : List Nod) (x2 : List Nod) : Nat → Int → Option ((Unit) ⊕ (Unit))
| 0, _ => none
| n + 1, i73 =>
iteO (decide (i73 < ((x1.length : Nat) : Int)))
 (guardO (0 ≤ i73 ∧ i73 < ((x1.length : Nat) : Int)) <|
guardO (0 ≤ i73 ∧ i73 < ((x2.length : Nat) : Int)) <|
bindO (laws_eqNode (x1.getD i73.toNat dnod) (x2.getD i73.toNat dnod)) fun b100 =>
iteO (!b100)
 (some (.inl ()))
 (laws_eqNodeS_L1 x1 x2 n (w64 (i73 + 1))))
 (some (.inr ()))

theorem laws_eqNodeS_L1_ok (w : World) (X : Nat → Prop) (θ : List Loc) (x1 : List Nod) (x2 : List Nod) (v : (Unit) ⊕ (Unit)) : ∀ (n : Nat) (i73 : Int), laws_eqNodeS_L1 x1 x2 n i73 = some v → WL EE ⟨w, X, θ, 27, 2⟩ (subC [1, 1, 0, 1, 4, 4] (bodyC Tryd.f11)) (fun (e : Exit) (s : St) => (match v with | (.inl _) => e = .ret ∧ s = ⟨[(4, B false)], [.row .nod x1 false, .row .nod x2 false]⟩ | (.inr _) => e = .exit 0 ∧ s = ⟨[], [.row .nod x1 false, .row .nod x2 false]⟩ : Prop)) ⟨[(0, .one (.e (.sl 0 0 x1.length))), (1, .one (.e (.sl 1 0 x2.length))), (5, I i73)], [.row .nod x1 false, .row .nod x2 false]⟩ := by
  intro n
  induction n with
  | zero => intro _ h; exact none_e h
  | succ n ih =>
    intro i73 h
    rw [laws_eqNodeS_L1] at h
    refine WL_round ?_
    refine W_seq ?_
    refine W_seq ?_
    refine W_region ?_
    refine WO_step 4 [0, 1] [0, 1, 5, 14] (True ∧ (True ∧ True)) ⟨[(0, .one (.e (.sl 0 0 x1.length))), (1, .one (.e (.sl 1 0 x2.length))), (5, I i73), (14, B (decide (i73 < ((x1.length : Nat) : Int))))], [.row .nod x1 false, .row .nod x2 false]⟩ (by kernel_rfl) ⟨trivial, trivial, trivial⟩ ?_
    refine WO_nil rfl ?_
    refine thenS_n ?_
    refine iteO_e h (fun hb91 h => W_true rfl hb91 ?_) (fun hb91 h => W_false rfl hb91 ?_)
    · refine W_sub [0, 1] [0, 1, 5] (st' := ⟨[(0, .one (.e (.sl 0 0 x1.length))), (1, .one (.e (.sl 1 0 x2.length))), (5, I i73)], [.row .nod x1 false, .row .nod x2 false]⟩) (by kernel_rfl) ?_
      refine W_skip ?_
      refine thenS_n ?_
      refine W_seq ?_
      refine W_block ?_
      refine W_seq ?_
      refine guardO_e h (fun hg98 h => ?_)
      refine guardO_e h (fun hg99 h => ?_)
      refine bindO_e h (fun b100 hc101 h => ?_)
      refine W_cut (Q' := fun (e : Exit) (s : St) => e = .normal ∧ s = ⟨[(0, .one (.e (.sl 0 0 x1.length))), (1, .one (.e (.sl 1 0 x2.length))), (5, I i73), (26, B (!b100))], [.row .nod x1 false, .row .nod x2 false]⟩) ?_ ?_
      · refine W_draw [] false (by kernel_rfl) (by kernel_rfl) ?_
        refine WD_takeK [0, 1, 2, 3, 4, 5, 6, 7] [0, 1, 5, 20, 24] [0, 1, 5, 20, 24] (φ := ((0 ≤ i73 ∧ i73 < ((x1.length : Nat) : Int)) ∧ (0 ≤ i73 ∧ i73 < ((x1.length : Nat) : Int)) ∧ (True ∧ True ∧ ((0 ≤ i73 ∧ i73 < ((x2.length : Nat) : Int)) ∧ (0 ≤ i73 ∧ i73 < ((x2.length : Nat) : Int)) ∧ (True ∧ True ∧ True))))) (ls' := #[true, true, true, true, true, true, true, true, false, false]) (Ts' := [(0, .one (.e (.sl 0 0 x1.length))), (1, .one (.e (.sl 1 0 x2.length))), (5, I i73), (20, AGG [cI ((x1.getD i73.toNat dnod).parent), cS ((x1.getD i73.toNat dnod).name), cI ((x1.getD i73.toNat dnod).value)]), (24, AGG [cI ((x2.getD i73.toNat dnod).parent), cS ((x2.getD i73.toNat dnod).name), cI ((x2.getD i73.toNat dnod).value)])]) (st' := ⟨[(0, .one (.e (.sl 0 0 x1.length))), (1, .one (.e (.sl 1 0 x2.length))), (5, I i73), (20, AGG [cI ((x1.getD i73.toNat dnod).parent), cS ((x1.getD i73.toNat dnod).name), cI ((x1.getD i73.toNat dnod).value)]), (24, AGG [cI ((x2.getD i73.toNat dnod).parent), cS ((x2.getD i73.toNat dnod).name), cI ((x2.getD i73.toNat dnod).value)])], [.row .nod x1 false, .row .nod x2 false]⟩) (n2 := 2) (by kernel_rfl) ⟨hg98, hg98, trivial, trivial, hg99, hg99, trivial, trivial, trivial⟩ rfl ?_
        refine WD_all [8] (n := 1) (by kernel_rfl) rfl ?_
        refine WM_call [] Tryd.f32 rfl rfl (by kernel_rfl) Tryd.func32 rfl (by kernel_rfl) (laws_eqNode_ok (x1.getD i73.toNat dnod) (x2.getD i73.toNat dnod) b100 hc101) (trivial) rfl (And.intro rfl (And.intro rfl (trivial))) ?_
        refine WD_takeK [9] [0, 1, 5, 26] [0, 1, 5, 26] (φ := True) (ls' := #[true, true, true, true, true, true, true, true, true, true]) (Ts' := [(0, .one (.e (.sl 0 0 x1.length))), (1, .one (.e (.sl 1 0 x2.length))), (5, I i73), (26, B (!b100))]) (st' := ⟨[(0, .one (.e (.sl 0 0 x1.length))), (1, .one (.e (.sl 1 0 x2.length))), (5, I i73), (26, B (!b100))], [.row .nod x1 false, .row .nod x2 false]⟩) (n2 := 0) (by kernel_rfl) trivial rfl ?_
        exact WD_done [0, 1] [0, 1, 5, 26] (st' := ⟨[(0, .one (.e (.sl 0 0 x1.length))), (1, .one (.e (.sl 1 0 x2.length))), (5, I i73), (26, B (!b100))], [.row .nod x1 false, .row .nod x2 false]⟩) (by kernel_rfl) (by kernel_rfl) (And.intro rfl rfl)
      · rintro _ _ ⟨rfl, rfl⟩
        refine thenS_n ?_
        refine iteO_e h (fun hb103 h => W_true rfl hb103 ?_) (fun hb103 h => W_false rfl hb103 ?_)
        · refine W_seq ?_
          refine W_region ?_
          refine WO_step 1 [0, 1] [4] True ⟨[(4, B false)], [.row .nod x1 false, .row .nod x2 false]⟩ (by kernel_rfl) trivial ?_
          refine WO_nil rfl ?_
          refine thenS_n ?_
          refine W_ret ?_
          refine blockS_r ?_
          refine thenS_r ?_
          refine thenS_r ?_
          cases h
          exact And.intro rfl rfl
        · refine W_sub [0, 1] [0, 1, 5] (st' := ⟨[(0, .one (.e (.sl 0 0 x1.length))), (1, .one (.e (.sl 1 0 x2.length))), (5, I i73)], [.row .nod x1 false, .row .nod x2 false]⟩) (by kernel_rfl) ?_
          refine W_skip ?_
          refine blockS_n ?_
          refine thenS_n ?_
          refine W_region ?_
          refine WO_step 3 [0, 1] [0, 1, 5] (True ∧ True) ⟨[(0, .one (.e (.sl 0 0 x1.length))), (1, .one (.e (.sl 1 0 x2.length))), (5, I (w64 (i73 + 1)))], [.row .nod x1 false, .row .nod x2 false]⟩ (by kernel_rfl) ⟨trivial, trivial⟩ ?_
          refine WO_nil rfl ?_
          refine thenS_n ?_
          exact ih _ h
    · refine W_sub [0, 1] [] (st' := ⟨[], [.row .nod x1 false, .row .nod x2 false]⟩) (by kernel_rfl) ?_
      refine W_exit ?_
      refine thenS_e ?_
      refine thenS_e ?_
      cases h
      exact And.intro rfl rfl

def laws_eqNodeS (n : Nat) (x1 : List Nod) (x2 : List Nod) : Option (Bool) :=
iteO (!decide (((x1.length : Nat) : Int) = ((x2.length : Nat) : Int)))
 (some false)
 (bindO (laws_eqNodeS_L1 x1 x2 n 0) fun v104 =>
match v104 with
 | (.inl _) => (some false)
 | (.inr _) => (some true)
)

theorem laws_eqNodeS_ok (n : Nat) (x1 : List Nod) (x2 : List Nod) (b53 : Bool) (h : laws_eqNodeS n x1 x2 = some b53) : FOk EE 11 [.one (.e (.sl 0 0 x1.length)), .one (.e (.sl 1 0 x2.length))] [.row .nod x1 false, .row .nod x2 false] (B b53) [.row .nod x1 false, .row .nod x2 false] := by
  unfold laws_eqNodeS at h
  refine FOk_of_W 27 2 Tryd.func11 rfl rfl (Nat.le_of_ble_eq_true rfl) rfl (fun w X θ => ?_)
  refine W_seq ?_
  refine W_region ?_
  refine WO_step 1 [0, 1] [0, 1] True ⟨[(0, .one (.e (.sl 0 0 x1.length))), (1, .one (.e (.sl 1 0 x2.length)))], [.row .nod x1 false, .row .nod x2 false]⟩ (by kernel_rfl) trivial ?_
  refine WO_nil rfl ?_
  refine thenS_n ?_
  refine W_seq ?_
  refine W_seq ?_
  refine W_region ?_
  refine WO_step 5 [0, 1] [0, 1, 10] (True ∧ (True ∧ (True ∧ True))) ⟨[(0, .one (.e (.sl 0 0 x1.length))), (1, .one (.e (.sl 1 0 x2.length))), (10, B (!decide (((x1.length : Nat) : Int) = ((x2.length : Nat) : Int))))], [.row .nod x1 false, .row .nod x2 false]⟩ (by kernel_rfl) ⟨trivial, trivial, trivial, trivial⟩ ?_
  refine WO_nil rfl ?_
  refine thenS_n ?_
  refine iteO_e h (fun hb55 h => W_true rfl hb55 ?_) (fun hb55 h => W_false rfl hb55 ?_)
  · refine W_seq ?_
    refine W_region ?_
    refine WO_step 1 [0, 1] [4] True ⟨[(4, B false)], [.row .nod x1 false, .row .nod x2 false]⟩ (by kernel_rfl) trivial ?_
    refine WO_nil rfl ?_
    refine thenS_n ?_
    refine W_ret ?_
    refine thenS_r ?_
    cases h
    exact ⟨[0, 1], True, by kernel_rfl, trivial⟩
  · refine W_sub [0, 1] [0, 1] (st' := ⟨[(0, .one (.e (.sl 0 0 x1.length))), (1, .one (.e (.sl 1 0 x2.length)))], [.row .nod x1 false, .row .nod x2 false]⟩) (by kernel_rfl) ?_
    refine W_skip ?_
    refine thenS_n ?_
    refine W_seq ?_
    refine W_seq ?_
    refine W_region ?_
    refine WO_step 1 [0, 1] [0, 1, 5] True ⟨[(0, .one (.e (.sl 0 0 x1.length))), (1, .one (.e (.sl 1 0 x2.length))), (5, I 0)], [.row .nod x1 false, .row .nod x2 false]⟩ (by kernel_rfl) trivial ?_
    refine WO_nil rfl ?_
    refine thenS_n ?_
    refine W_block ?_
    refine W_loop ?_
    refine bindO_e h (fun v104 hv104 h => ?_)
    refine WL_cut (laws_eqNodeS_L1_ok w X θ x1 x2 v104 n 0 hv104) ?_
    rcases v104 with _ | _
    · rintro _ _ ⟨rfl, rfl⟩
      refine blockS_r ?_
      refine thenS_r ?_
      cases h
      exact ⟨[0, 1], True, by kernel_rfl, trivial⟩
    · rintro _ _ ⟨rfl, rfl⟩
      refine blockS_y ?_
      refine thenS_n ?_
      refine W_seq ?_
      refine W_region ?_
      refine WO_step 1 [0, 1] [4] True ⟨[(4, B true)], [.row .nod x1 false, .row .nod x2 false]⟩ (by kernel_rfl) trivial ?_
      refine WO_nil rfl ?_
      refine thenS_n ?_
      refine W_ret ?_
      cases h
      exact ⟨[0, 1], True, by kernel_rfl, trivial⟩

/- laws.markText -/
def laws_markText_L1 : Nat → Int → Str → Option (Str)
| 0, _, _ => none
| n + 1, i42, s43 =>
iteO (decide (0 < i42))
 (guardO ((bytesOf (([(IntKind.u8.wrap (w64 (48 + (i42.tmod 10))))].drop 0).take ([(IntKind.u8.wrap (w64 (48 + (i42.tmod 10))))].length))).length + s43.length ≤ 1099511627776) <|
laws_markText_L1  n (w64 (i42.tdiv 10)) ((bytesOf (([(IntKind.u8.wrap (w64 (48 + (i42.tmod 10))))].drop 0).take ([(IntKind.u8.wrap (w64 (48 + (i42.tmod 10))))].length))) ++ s43))
 (some s43)

theorem laws_markText_L1_ok (w : World) (X : Nat → Prop) (θ : List Loc)  (s50 : Str) : ∀ (n : Nat) (i42 : Int) (s43 : Str), laws_markText_L1  n i42 s43 = some s50 → WL EE ⟨w, X, θ, 20, 0⟩ (subC [1, 1, 1, 0, 4, 4] (bodyC Tryd.f33)) (fun (e : Exit) (s : St) => e = .exit 0 ∧ s = ⟨[(3, S s50)], []⟩) ⟨[(0, I i42), (3, S s43)], []⟩ := by
  intro n
  induction n with
  | zero => intro _ _ h; exact none_e h
  | succ n ih =>
    intro i42 s43 h
    rw [laws_markText_L1] at h
    refine WL_round ?_
    refine W_seq ?_
    refine W_seq ?_
    refine W_region ?_
    refine WO_step 2 [] [0, 3, 7] (True ∧ True) ⟨[(0, I i42), (3, S s43), (7, B (decide (0 < i42)))], []⟩ (by kernel_rfl) ⟨trivial, trivial⟩ ?_
    refine WO_nil rfl ?_
    refine thenS_n ?_
    refine iteO_e h (fun hb53 h => W_true rfl hb53 ?_) (fun hb53 h => W_false rfl hb53 ?_)
    · refine W_sub [] [0, 3] (st' := ⟨[(0, I i42), (3, S s43)], []⟩) (by kernel_rfl) ?_
      refine W_skip ?_
      refine thenS_n ?_
      refine W_block ?_
      refine W_seq ?_
      refine W_region ?_
      refine guardO_e h (fun hg55 h => ?_)
      refine WO_step 9 [] [0, 3] (((10 : Int) ≠ 0) ∧ (True ∧ (True ∧ (True ∧ (((bytesOf (([(IntKind.u8.wrap (w64 (48 + (i42.tmod 10))))].drop 0).take ([(IntKind.u8.wrap (w64 (48 + (i42.tmod 10))))].length))).length + s43.length ≤ 1099511627776) ∧ True))))) ⟨[(0, I i42), (3, S ((bytesOf (([(IntKind.u8.wrap (w64 (48 + (i42.tmod 10))))].drop 0).take ([(IntKind.u8.wrap (w64 (48 + (i42.tmod 10))))].length))) ++ s43))], []⟩ (by kernel_rfl) ⟨(by decide), trivial, trivial, trivial, hg55, trivial⟩ ?_
      refine WO_nil rfl ?_
      refine thenS_n ?_
      refine W_region ?_
      refine WO_step 3 [] [0, 3] (((10 : Int) ≠ 0) ∧ True) ⟨[(0, I (w64 (i42.tdiv 10))), (3, S ((bytesOf (([(IntKind.u8.wrap (w64 (48 + (i42.tmod 10))))].drop 0).take ([(IntKind.u8.wrap (w64 (48 + (i42.tmod 10))))].length))) ++ s43))], []⟩ (by kernel_rfl) ⟨(by decide), trivial⟩ ?_
      refine WO_nil rfl ?_
      refine blockS_n ?_
      refine thenS_n ?_
      exact ih _ _ h
    · refine W_sub [] [3] (st' := ⟨[(3, S s43)], []⟩) (by kernel_rfl) ?_
      refine W_exit ?_
      refine thenS_e ?_
      refine thenS_e ?_
      cases h
      exact And.intro rfl rfl

def laws_markText (n : Nat) (i1 : Int) : Option (Str) :=
iteO (decide (i1 ≤ 0))
 (some [109, 48])
 (bindO (laws_markText_L1  n i1 []) fun s50 =>
guardO ([109].length + s50.length ≤ 1099511627776) <|
some ([109] ++ s50))

theorem laws_markText_ok (n : Nat) (i1 : Int) (s29 : Str) (h : laws_markText n i1 = some s29) : FOk EE 33 [I i1] [] (S s29) [] := by
  unfold laws_markText at h
  refine FOk_of_W 20 0 Tryd.func33 rfl rfl (Nat.le_of_ble_eq_true rfl) rfl (fun w X θ => ?_)
  refine W_seq ?_
  refine W_region ?_
  refine WO_step 1 [] [0] True ⟨[(0, I i1)], []⟩ (by kernel_rfl) trivial ?_
  refine WO_nil rfl ?_
  refine thenS_n ?_
  refine W_seq ?_
  refine W_seq ?_
  refine W_region ?_
  refine WO_step 2 [] [0, 5] (True ∧ True) ⟨[(0, I i1), (5, B (decide (i1 ≤ 0)))], []⟩ (by kernel_rfl) ⟨trivial, trivial⟩ ?_
  refine WO_nil rfl ?_
  refine thenS_n ?_
  refine iteO_e h (fun hb31 h => W_true rfl hb31 ?_) (fun hb31 h => W_false rfl hb31 ?_)
  · refine W_seq ?_
    refine W_region ?_
    refine WO_step 1 [] [2] True ⟨[(2, S [109, 48])], []⟩ (by kernel_rfl) trivial ?_
    refine WO_nil rfl ?_
    refine thenS_n ?_
    refine W_ret ?_
    refine thenS_r ?_
    cases h
    exact ⟨[], True, by kernel_rfl, trivial⟩
  · refine W_sub [] [0] (st' := ⟨[(0, I i1)], []⟩) (by kernel_rfl) ?_
    refine W_skip ?_
    refine thenS_n ?_
    refine W_seq ?_
    refine W_region ?_
    refine WO_step 1 [] [0, 3] True ⟨[(0, I i1), (3, S [])], []⟩ (by kernel_rfl) trivial ?_
    refine WO_nil rfl ?_
    refine thenS_n ?_
    refine W_seq ?_
    refine W_block ?_
    refine W_loop ?_
    refine bindO_e h (fun s50 hs50 h => ?_)
    refine WL_cut (laws_markText_L1_ok w X θ  s50 n i1 [] hs50) ?_
    rintro _ _ ⟨rfl, rfl⟩
    refine blockS_y ?_
    refine thenS_n ?_
    refine W_seq ?_
    refine W_region ?_
    refine guardO_e h (fun hg57 h => ?_)
    refine WO_step 3 [] [2] (([109].length + s50.length ≤ 1099511627776) ∧ True) ⟨[(2, S ([109] ++ s50))], []⟩ (by kernel_rfl) ⟨hg57, trivial⟩ ?_
    refine WO_nil rfl ?_
    refine thenS_n ?_
    refine W_ret ?_
    cases h
    exact ⟨[], True, by kernel_rfl, trivial⟩

/- laws.markNodeS -/
def laws_markNodeS_L1 (k2 : Nat) : Nat → (List Nod) → Int → Int → Option (((List Nod) × Int))
| 0, _, _, _ => none
| n + 1, x81, i82, i83 =>
iteO (decide (i83 < ((k2 : Nat) : Int)))
 (guardO (0 ≤ i83 ∧ i83 < ((k2 : Nat) : Int)) <|
bindO (laws_markText n (w64 (i82 + 1))) fun s110 =>
guardO (0 ≤ i83 ∧ i83 < ((k2 : Nat) : Int)) <|
guardO (0 ≤ i83 ∧ i83 < ((k2 : Nat) : Int)) <|
laws_markNodeS_L1 k2 n (((x81.set i83.toNat (⟨i82, (x81.getD i83.toNat dnod).name, (x81.getD i83.toNat dnod).value⟩ : Nod)).set i83.toNat (⟨((x81.set i83.toNat (⟨i82, (x81.getD i83.toNat dnod).name, (x81.getD i83.toNat dnod).value⟩ : Nod)).getD i83.toNat dnod).parent, s110, ((x81.set i83.toNat (⟨i82, (x81.getD i83.toNat dnod).name, (x81.getD i83.toNat dnod).value⟩ : Nod)).getD i83.toNat dnod).value⟩ : Nod)).set i83.toNat (⟨(((x81.set i83.toNat (⟨i82, (x81.getD i83.toNat dnod).name, (x81.getD i83.toNat dnod).value⟩ : Nod)).set i83.toNat (⟨((x81.set i83.toNat (⟨i82, (x81.getD i83.toNat dnod).name, (x81.getD i83.toNat dnod).value⟩ : Nod)).getD i83.toNat dnod).parent, s110, ((x81.set i83.toNat (⟨i82, (x81.getD i83.toNat dnod).name, (x81.getD i83.toNat dnod).value⟩ : Nod)).getD i83.toNat dnod).value⟩ : Nod)).getD i83.toNat dnod).parent, (((x81.set i83.toNat (⟨i82, (x81.getD i83.toNat dnod).name, (x81.getD i83.toNat dnod).value⟩ : Nod)).set i83.toNat (⟨((x81.set i83.toNat (⟨i82, (x81.getD i83.toNat dnod).name, (x81.getD i83.toNat dnod).value⟩ : Nod)).getD i83.toNat dnod).parent, s110, ((x81.set i83.toNat (⟨i82, (x81.getD i83.toNat dnod).name, (x81.getD i83.toNat dnod).value⟩ : Nod)).getD i83.toNat dnod).value⟩ : Nod)).getD i83.toNat dnod).name, (w64 ((w64 (i82 + 1)) + 1))⟩ : Nod)) (w64 ((w64 ((w64 (i82 + 1)) + 1)) + 1)) (w64 (i83 + 1)))
 (some (x81, i82))

theorem laws_markNodeS_L1_ok (w : World) (X : Nat → Prop) (θ : List Loc) (k2 : Nat) (v : ((List Nod) × Int)) : ∀ (n : Nat) (x81 : List Nod) (i82 : Int) (i83 : Int), laws_markNodeS_L1 k2 n x81 i82 i83 = some v → WL EE ⟨w, X, θ, 35, 1⟩ (subC [1, 0, 1, 4, 4] (bodyC Tryd.f12)) (fun (e : Exit) (s : St) => (match v with | (x99, i100) => e = .exit 0 ∧ s = ⟨[(1, I i100)], [.row .nod x99 true]⟩ : Prop)) ⟨[(0, .one (.e (.sl 0 0 k2))), (1, I i82), (5, I i83)], [.row .nod x81 true]⟩ := by
  intro n
  induction n with
  | zero => intro _ _ _ h; exact none_e h
  | succ n ih =>
    intro x81 i82 i83 h
    rw [laws_markNodeS_L1] at h
    refine WL_round ?_
    refine W_seq ?_
    refine W_seq ?_
    refine W_region ?_
    refine WO_step 4 [0] [0, 1, 5, 9] (True ∧ (True ∧ True)) ⟨[(0, .one (.e (.sl 0 0 k2))), (1, I i82), (5, I i83), (9, B (decide (i83 < ((k2 : Nat) : Int))))], [.row .nod x81 true]⟩ (by kernel_rfl) ⟨trivial, trivial, trivial⟩ ?_
    refine WO_nil rfl ?_
    refine thenS_n ?_
    refine iteO_e h (fun hb103 h => W_true rfl hb103 ?_) (fun hb103 h => W_false rfl hb103 ?_)
    · refine W_sub [0] [0, 1, 5] (st' := ⟨[(0, .one (.e (.sl 0 0 k2))), (1, I i82), (5, I i83)], [.row .nod x81 true]⟩) (by kernel_rfl) ?_
      refine W_skip ?_
      refine thenS_n ?_
      refine W_seq ?_
      refine W_block ?_
      refine W_seq ?_
      refine W_region ?_
      refine guardO_e h (fun hg109 h => ?_)
      refine WO_step 6 [0] [0, 1, 5] ((0 ≤ i83 ∧ i83 < ((k2 : Nat) : Int)) ∧ (True ∧ True)) ⟨[(0, .one (.e (.sl 0 0 k2))), (1, I i82), (5, I i83)], [.row .nod (x81.set i83.toNat (⟨i82, (x81.getD i83.toNat dnod).name, (x81.getD i83.toNat dnod).value⟩ : Nod)) true]⟩ (by kernel_rfl) ⟨hg109, trivial, trivial⟩ ?_
      refine WO_nil rfl ?_
      refine thenS_n ?_
      refine W_seq ?_
      refine W_region ?_
      refine WO_step 3 [0] [0, 1, 5] (True ∧ True) ⟨[(0, .one (.e (.sl 0 0 k2))), (1, I (w64 (i82 + 1))), (5, I i83)], [.row .nod (x81.set i83.toNat (⟨i82, (x81.getD i83.toNat dnod).name, (x81.getD i83.toNat dnod).value⟩ : Nod)) true]⟩ (by kernel_rfl) ⟨trivial, trivial⟩ ?_
      refine WO_nil rfl ?_
      refine thenS_n ?_
      refine W_seq ?_
      refine W_region ?_
      refine WO_step 3 [0] [0, 1, 5, 19, 20, 21] True ⟨[(0, .one (.e (.sl 0 0 k2))), (1, I (w64 (i82 + 1))), (5, I i83), (19, .one (.e (.sl 0 0 k2))), (20, I i83), (21, I (w64 (i82 + 1)))], [.row .nod (x81.set i83.toNat (⟨i82, (x81.getD i83.toNat dnod).name, (x81.getD i83.toNat dnod).value⟩ : Nod)) true]⟩ (by kernel_rfl) trivial ?_
      refine bindO_e h (fun s110 hc111 h => ?_)
      refine WO_call [] Tryd.f33 rfl rfl rfl (by kernel_rfl) Tryd.func33 rfl (by kernel_rfl) (laws_markText_ok n (w64 (i82 + 1)) s110 hc111) (trivial) rfl ?_
      refine guardO_e h (fun hg112 h => ?_)
      refine WO_step 3 [0] [0, 1, 5] ((0 ≤ i83 ∧ i83 < ((k2 : Nat) : Int)) ∧ (True ∧ True)) ⟨[(0, .one (.e (.sl 0 0 k2))), (1, I (w64 (i82 + 1))), (5, I i83)], [.row .nod ((x81.set i83.toNat (⟨i82, (x81.getD i83.toNat dnod).name, (x81.getD i83.toNat dnod).value⟩ : Nod)).set i83.toNat (⟨((x81.set i83.toNat (⟨i82, (x81.getD i83.toNat dnod).name, (x81.getD i83.toNat dnod).value⟩ : Nod)).getD i83.toNat dnod).parent, s110, ((x81.set i83.toNat (⟨i82, (x81.getD i83.toNat dnod).name, (x81.getD i83.toNat dnod).value⟩ : Nod)).getD i83.toNat dnod).value⟩ : Nod)) true]⟩ (by kernel_rfl) ⟨hg112, trivial, trivial⟩ ?_
      refine WO_nil rfl ?_
      refine thenS_n ?_
      refine W_seq ?_
      refine W_region ?_
      refine WO_step 3 [0] [0, 1, 5] (True ∧ True) ⟨[(0, .one (.e (.sl 0 0 k2))), (1, I (w64 ((w64 (i82 + 1)) + 1))), (5, I i83)], [.row .nod ((x81.set i83.toNat (⟨i82, (x81.getD i83.toNat dnod).name, (x81.getD i83.toNat dnod).value⟩ : Nod)).set i83.toNat (⟨((x81.set i83.toNat (⟨i82, (x81.getD i83.toNat dnod).name, (x81.getD i83.toNat dnod).value⟩ : Nod)).getD i83.toNat dnod).parent, s110, ((x81.set i83.toNat (⟨i82, (x81.getD i83.toNat dnod).name, (x81.getD i83.toNat dnod).value⟩ : Nod)).getD i83.toNat dnod).value⟩ : Nod)) true]⟩ (by kernel_rfl) ⟨trivial, trivial⟩ ?_
      refine WO_nil rfl ?_
      refine thenS_n ?_
      refine W_seq ?_
      refine W_region ?_
      refine guardO_e h (fun hg113 h => ?_)
      refine WO_step 6 [0] [0, 1, 5] ((0 ≤ i83 ∧ i83 < ((k2 : Nat) : Int)) ∧ (True ∧ True)) ⟨[(0, .one (.e (.sl 0 0 k2))), (1, I (w64 ((w64 (i82 + 1)) + 1))), (5, I i83)], [.row .nod (((x81.set i83.toNat (⟨i82, (x81.getD i83.toNat dnod).name, (x81.getD i83.toNat dnod).value⟩ : Nod)).set i83.toNat (⟨((x81.set i83.toNat (⟨i82, (x81.getD i83.toNat dnod).name, (x81.getD i83.toNat dnod).value⟩ : Nod)).getD i83.toNat dnod).parent, s110, ((x81.set i83.toNat (⟨i82, (x81.getD i83.toNat dnod).name, (x81.getD i83.toNat dnod).value⟩ : Nod)).getD i83.toNat dnod).value⟩ : Nod)).set i83.toNat (⟨(((x81.set i83.toNat (⟨i82, (x81.getD i83.toNat dnod).name, (x81.getD i83.toNat dnod).value⟩ : Nod)).set i83.toNat (⟨((x81.set i83.toNat (⟨i82, (x81.getD i83.toNat dnod).name, (x81.getD i83.toNat dnod).value⟩ : Nod)).getD i83.toNat dnod).parent, s110, ((x81.set i83.toNat (⟨i82, (x81.getD i83.toNat dnod).name, (x81.getD i83.toNat dnod).value⟩ : Nod)).getD i83.toNat dnod).value⟩ : Nod)).getD i83.toNat dnod).parent, (((x81.set i83.toNat (⟨i82, (x81.getD i83.toNat dnod).name, (x81.getD i83.toNat dnod).value⟩ : Nod)).set i83.toNat (⟨((x81.set i83.toNat (⟨i82, (x81.getD i83.toNat dnod).name, (x81.getD i83.toNat dnod).value⟩ : Nod)).getD i83.toNat dnod).parent, s110, ((x81.set i83.toNat (⟨i82, (x81.getD i83.toNat dnod).name, (x81.getD i83.toNat dnod).value⟩ : Nod)).getD i83.toNat dnod).value⟩ : Nod)).getD i83.toNat dnod).name, (w64 ((w64 (i82 + 1)) + 1))⟩ : Nod)) true]⟩ (by kernel_rfl) ⟨hg113, trivial, trivial⟩ ?_
      refine WO_nil rfl ?_
      refine thenS_n ?_
      refine W_region ?_
      refine WO_step 3 [0] [0, 1, 5] (True ∧ True) ⟨[(0, .one (.e (.sl 0 0 k2))), (1, I (w64 ((w64 ((w64 (i82 + 1)) + 1)) + 1))), (5, I i83)], [.row .nod (((x81.set i83.toNat (⟨i82, (x81.getD i83.toNat dnod).name, (x81.getD i83.toNat dnod).value⟩ : Nod)).set i83.toNat (⟨((x81.set i83.toNat (⟨i82, (x81.getD i83.toNat dnod).name, (x81.getD i83.toNat dnod).value⟩ : Nod)).getD i83.toNat dnod).parent, s110, ((x81.set i83.toNat (⟨i82, (x81.getD i83.toNat dnod).name, (x81.getD i83.toNat dnod).value⟩ : Nod)).getD i83.toNat dnod).value⟩ : Nod)).set i83.toNat (⟨(((x81.set i83.toNat (⟨i82, (x81.getD i83.toNat dnod).name, (x81.getD i83.toNat dnod).value⟩ : Nod)).set i83.toNat (⟨((x81.set i83.toNat (⟨i82, (x81.getD i83.toNat dnod).name, (x81.getD i83.toNat dnod).value⟩ : Nod)).getD i83.toNat dnod).parent, s110, ((x81.set i83.toNat (⟨i82, (x81.getD i83.toNat dnod).name, (x81.getD i83.toNat dnod).value⟩ : Nod)).getD i83.toNat dnod).value⟩ : Nod)).getD i83.toNat dnod).parent, (((x81.set i83.toNat (⟨i82, (x81.getD i83.toNat dnod).name, (x81.getD i83.toNat dnod).value⟩ : Nod)).set i83.toNat (⟨((x81.set i83.toNat (⟨i82, (x81.getD i83.toNat dnod).name, (x81.getD i83.toNat dnod).value⟩ : Nod)).getD i83.toNat dnod).parent, s110, ((x81.set i83.toNat (⟨i82, (x81.getD i83.toNat dnod).name, (x81.getD i83.toNat dnod).value⟩ : Nod)).getD i83.toNat dnod).value⟩ : Nod)).getD i83.toNat dnod).name, (w64 ((w64 (i82 + 1)) + 1))⟩ : Nod)) true]⟩ (by kernel_rfl) ⟨trivial, trivial⟩ ?_
      refine WO_nil rfl ?_
      refine blockS_n ?_
      refine thenS_n ?_
      refine W_region ?_
      refine WO_step 3 [0] [0, 1, 5] (True ∧ True) ⟨[(0, .one (.e (.sl 0 0 k2))), (1, I (w64 ((w64 ((w64 (i82 + 1)) + 1)) + 1))), (5, I (w64 (i83 + 1)))], [.row .nod (((x81.set i83.toNat (⟨i82, (x81.getD i83.toNat dnod).name, (x81.getD i83.toNat dnod).value⟩ : Nod)).set i83.toNat (⟨((x81.set i83.toNat (⟨i82, (x81.getD i83.toNat dnod).name, (x81.getD i83.toNat dnod).value⟩ : Nod)).getD i83.toNat dnod).parent, s110, ((x81.set i83.toNat (⟨i82, (x81.getD i83.toNat dnod).name, (x81.getD i83.toNat dnod).value⟩ : Nod)).getD i83.toNat dnod).value⟩ : Nod)).set i83.toNat (⟨(((x81.set i83.toNat (⟨i82, (x81.getD i83.toNat dnod).name, (x81.getD i83.toNat dnod).value⟩ : Nod)).set i83.toNat (⟨((x81.set i83.toNat (⟨i82, (x81.getD i83.toNat dnod).name, (x81.getD i83.toNat dnod).value⟩ : Nod)).getD i83.toNat dnod).parent, s110, ((x81.set i83.toNat (⟨i82, (x81.getD i83.toNat dnod).name, (x81.getD i83.toNat dnod).value⟩ : Nod)).getD i83.toNat dnod).value⟩ : Nod)).getD i83.toNat dnod).parent, (((x81.set i83.toNat (⟨i82, (x81.getD i83.toNat dnod).name, (x81.getD i83.toNat dnod).value⟩ : Nod)).set i83.toNat (⟨((x81.set i83.toNat (⟨i82, (x81.getD i83.toNat dnod).name, (x81.getD i83.toNat dnod).value⟩ : Nod)).getD i83.toNat dnod).parent, s110, ((x81.set i83.toNat (⟨i82, (x81.getD i83.toNat dnod).name, (x81.getD i83.toNat dnod).value⟩ : Nod)).getD i83.toNat dnod).value⟩ : Nod)).getD i83.toNat dnod).name, (w64 ((w64 (i82 + 1)) + 1))⟩ : Nod)) true]⟩ (by kernel_rfl) ⟨trivial, trivial⟩ ?_
      refine WO_nil rfl ?_
      refine thenS_n ?_
      exact ih _ _ _ h
    · refine W_sub [0] [1] (st' := ⟨[(1, I i82)], [.row .nod x81 true]⟩) (by kernel_rfl) ?_
      refine W_exit ?_
      refine thenS_e ?_
      refine thenS_e ?_
      cases h
      exact And.intro rfl rfl

def laws_markNodeS (n : Nat) (x1 : List Nod) (k2 : Nat) (i3 : Int) : Option ((List Nod) × Int) :=
bindO (laws_markNodeS_L1 k2 n x1 i3 0) fun v114 =>
match v114 with
 | (x99, i100) => (some (x99, i100))


theorem laws_markNodeS_ok (n : Nat) (x1 : List Nod) (k2 : Nat) (i3 : Int) (x58 : List Nod) (i59 : Int) (h : laws_markNodeS n x1 k2 i3 = some (x58, i59)) : FOk EE 12 [.one (.e (.sl 0 0 k2)), I i3] [.row .nod x1 true] (I i59) [.row .nod x58 true] := by
  unfold laws_markNodeS at h
  refine FOk_of_W 35 1 Tryd.func12 rfl rfl (Nat.le_of_ble_eq_true rfl) rfl (fun w X θ => ?_)
  refine W_seq ?_
  refine W_region ?_
  refine WO_step 1 [0] [0, 1] True ⟨[(0, .one (.e (.sl 0 0 k2))), (1, I i3)], [.row .nod x1 true]⟩ (by kernel_rfl) trivial ?_
  refine WO_nil rfl ?_
  refine thenS_n ?_
  refine W_seq ?_
  refine W_seq ?_
  refine W_region ?_
  refine WO_step 1 [0] [0, 1, 5] True ⟨[(0, .one (.e (.sl 0 0 k2))), (1, I i3), (5, I 0)], [.row .nod x1 true]⟩ (by kernel_rfl) trivial ?_
  refine WO_nil rfl ?_
  refine thenS_n ?_
  refine W_block ?_
  refine W_loop ?_
  refine bindO_e h (fun v114 hv114 h => ?_)
  refine WL_cut (laws_markNodeS_L1_ok w X θ k2 v114 n x1 i3 0 hv114) ?_
  obtain ⟨x99, i100⟩ := v114
  rintro _ _ ⟨rfl, rfl⟩
  refine blockS_y ?_
  refine thenS_n ?_
  refine W_seq ?_
  refine W_region ?_
  refine WO_step 2 [0] [4] True ⟨[(4, I i100)], [.row .nod x99 true]⟩ (by kernel_rfl) trivial ?_
  refine WO_nil rfl ?_
  refine thenS_n ?_
  refine W_ret ?_
  cases h
  exact ⟨[0], True, by kernel_rfl, trivial⟩

/- laws.heldNodeS -/
def laws_heldNodeS_L1 (x1 : List Nod) : Nat → Int → Int → Option ((Unit) ⊕ (Int))
| 0, _, _ => none
| n + 1, i118, i119 =>
iteO (decide (i119 < ((x1.length : Nat) : Int)))
 (guardO (0 ≤ i119 ∧ i119 < ((x1.length : Nat) : Int)) <|
iteO (!decide (((x1.getD i119.toNat dnod).parent) = i118))
 (some (.inl ()))
 (guardO (0 ≤ i119 ∧ i119 < ((x1.length : Nat) : Int)) <|
bindO (laws_markText n (w64 (i118 + 1))) fun s165 =>
iteO (!decide (((x1.getD i119.toNat dnod).name) = s165))
 (some (.inl ()))
 (guardO (0 ≤ i119 ∧ i119 < ((x1.length : Nat) : Int)) <|
iteO (!decide (((x1.getD i119.toNat dnod).value) = (w64 ((w64 (i118 + 1)) + 1))))
 (some (.inl ()))
 (laws_heldNodeS_L1 x1 n (w64 ((w64 ((w64 (i118 + 1)) + 1)) + 1)) (w64 (i119 + 1))))))
 (some (.inr i118))

theorem laws_heldNodeS_L1_ok (w : World) (X : Nat → Prop) (θ : List Loc) (x1 : List Nod) (v : (Unit) ⊕ (Int)) : ∀ (n : Nat) (i118 : Int) (i119 : Int), laws_heldNodeS_L1 x1 n i118 i119 = some v → WL EE ⟨w, X, θ, 41, 1⟩ (subC [1, 0, 1, 4, 4] (bodyC Tryd.f13)) (fun (e : Exit) (s : St) => (match v with | (.inl _) => e = .ret ∧ s = ⟨[(4, I (-1))], [.row .nod x1 false]⟩ | (.inr i146) => e = .exit 0 ∧ s = ⟨[(1, I i146)], [.row .nod x1 false]⟩ : Prop)) ⟨[(0, .one (.e (.sl 0 0 x1.length))), (1, I i118), (5, I i119)], [.row .nod x1 false]⟩ := by
  intro n
  induction n with
  | zero => intro _ _ h; exact none_e h
  | succ n ih =>
    intro i118 i119 h
    rw [laws_heldNodeS_L1] at h
    refine WL_round ?_
    refine W_seq ?_
    refine W_seq ?_
    refine W_region ?_
    refine WO_step 4 [0] [0, 1, 5, 9] (True ∧ (True ∧ True)) ⟨[(0, .one (.e (.sl 0 0 x1.length))), (1, I i118), (5, I i119), (9, B (decide (i119 < ((x1.length : Nat) : Int))))], [.row .nod x1 false]⟩ (by kernel_rfl) ⟨trivial, trivial, trivial⟩ ?_
    refine WO_nil rfl ?_
    refine thenS_n ?_
    refine iteO_e h (fun hb149 h => W_true rfl hb149 ?_) (fun hb149 h => W_false rfl hb149 ?_)
    · refine W_sub [0] [0, 1, 5] (st' := ⟨[(0, .one (.e (.sl 0 0 x1.length))), (1, I i118), (5, I i119)], [.row .nod x1 false]⟩) (by kernel_rfl) ?_
      refine W_skip ?_
      refine thenS_n ?_
      refine W_seq ?_
      refine W_block ?_
      refine W_seq ?_
      refine W_seq ?_
      refine W_region ?_
      refine guardO_e h (fun hg161 h => ?_)
      refine WO_step 7 [0] [0, 1, 5, 18] ((0 ≤ i119 ∧ i119 < ((x1.length : Nat) : Int)) ∧ (True ∧ (True ∧ True))) ⟨[(0, .one (.e (.sl 0 0 x1.length))), (1, I i118), (5, I i119), (18, B (!decide (((x1.getD i119.toNat dnod).parent) = i118)))], [.row .nod x1 false]⟩ (by kernel_rfl) ⟨hg161, trivial, trivial, trivial⟩ ?_
      refine WO_nil rfl ?_
      refine thenS_n ?_
      refine iteO_e h (fun hb163 h => W_true rfl hb163 ?_) (fun hb163 h => W_false rfl hb163 ?_)
      · refine W_seq ?_
        refine W_region ?_
        refine WO_step 1 [0] [4] True ⟨[(4, I (-1))], [.row .nod x1 false]⟩ (by kernel_rfl) trivial ?_
        refine WO_nil rfl ?_
        refine thenS_n ?_
        refine W_ret ?_
        refine thenS_r ?_
        refine blockS_r ?_
        refine thenS_r ?_
        refine thenS_r ?_
        cases h
        exact And.intro rfl rfl
      · refine W_sub [0] [0, 1, 5] (st' := ⟨[(0, .one (.e (.sl 0 0 x1.length))), (1, I i118), (5, I i119)], [.row .nod x1 false]⟩) (by kernel_rfl) ?_
        refine W_skip ?_
        refine thenS_n ?_
        refine W_seq ?_
        refine W_region ?_
        refine WO_step 3 [0] [0, 1, 5] (True ∧ True) ⟨[(0, .one (.e (.sl 0 0 x1.length))), (1, I (w64 (i118 + 1))), (5, I i119)], [.row .nod x1 false]⟩ (by kernel_rfl) ⟨trivial, trivial⟩ ?_
        refine WO_nil rfl ?_
        refine thenS_n ?_
        refine W_seq ?_
        refine W_seq ?_
        refine guardO_e h (fun hg164 h => ?_)
        refine bindO_e h (fun s165 hc166 h => ?_)
        refine W_cut (Q' := fun (e : Exit) (s : St) => e = .normal ∧ s = ⟨[(0, .one (.e (.sl 0 0 x1.length))), (1, I (w64 (i118 + 1))), (5, I i119), (28, B (!decide (((x1.getD i119.toNat dnod).name) = s165)))], [.row .nod x1 false]⟩) ?_ ?_
        · refine W_draw [] false (by kernel_rfl) (by kernel_rfl) ?_
          refine WD_takeK [0, 1, 2, 3, 4, 5] [0, 1, 5, 25, 26] [0, 1, 5, 25, 26] (φ := ((0 ≤ i119 ∧ i119 < ((x1.length : Nat) : Int)) ∧ (0 ≤ i119 ∧ i119 < ((x1.length : Nat) : Int)) ∧ (True ∧ True ∧ True))) (ls' := #[true, true, true, true, true, true, false, false]) (Ts' := [(0, .one (.e (.sl 0 0 x1.length))), (1, I (w64 (i118 + 1))), (5, I i119), (25, S ((x1.getD i119.toNat dnod).name)), (26, I (w64 (i118 + 1)))]) (st' := ⟨[(0, .one (.e (.sl 0 0 x1.length))), (1, I (w64 (i118 + 1))), (5, I i119), (25, S ((x1.getD i119.toNat dnod).name)), (26, I (w64 (i118 + 1)))], [.row .nod x1 false]⟩) (n2 := 2) (by kernel_rfl) ⟨hg164, hg164, trivial, trivial, trivial⟩ rfl ?_
          refine WD_all [6] (n := 1) (by kernel_rfl) rfl ?_
          refine WM_call [] Tryd.f33 rfl rfl (by kernel_rfl) Tryd.func33 rfl (by kernel_rfl) (laws_markText_ok n (w64 (i118 + 1)) s165 hc166) (trivial) rfl (And.intro rfl (trivial)) ?_
          refine WD_takeK [7] [0, 1, 5, 28] [0, 1, 5, 28] (φ := (True ∧ True ∧ True)) (ls' := #[true, true, true, true, true, true, true, true]) (Ts' := [(0, .one (.e (.sl 0 0 x1.length))), (1, I (w64 (i118 + 1))), (5, I i119), (28, B (!decide (((x1.getD i119.toNat dnod).name) = s165)))]) (st' := ⟨[(0, .one (.e (.sl 0 0 x1.length))), (1, I (w64 (i118 + 1))), (5, I i119), (28, B (!decide (((x1.getD i119.toNat dnod).name) = s165)))], [.row .nod x1 false]⟩) (n2 := 0) (by kernel_rfl) ⟨trivial, trivial, trivial⟩ rfl ?_
          exact WD_done [0] [0, 1, 5, 28] (st' := ⟨[(0, .one (.e (.sl 0 0 x1.length))), (1, I (w64 (i118 + 1))), (5, I i119), (28, B (!decide (((x1.getD i119.toNat dnod).name) = s165)))], [.row .nod x1 false]⟩) (by kernel_rfl) (by kernel_rfl) (And.intro rfl rfl)
        · rintro _ _ ⟨rfl, rfl⟩
          refine thenS_n ?_
          refine iteO_e h (fun hb168 h => W_true rfl hb168 ?_) (fun hb168 h => W_false rfl hb168 ?_)
          · refine W_seq ?_
            refine W_region ?_
            refine WO_step 1 [0] [4] True ⟨[(4, I (-1))], [.row .nod x1 false]⟩ (by kernel_rfl) trivial ?_
            refine WO_nil rfl ?_
            refine thenS_n ?_
            refine W_ret ?_
            refine thenS_r ?_
            refine blockS_r ?_
            refine thenS_r ?_
            refine thenS_r ?_
            cases h
            exact And.intro rfl rfl
          · refine W_sub [0] [0, 1, 5] (st' := ⟨[(0, .one (.e (.sl 0 0 x1.length))), (1, I (w64 (i118 + 1))), (5, I i119)], [.row .nod x1 false]⟩) (by kernel_rfl) ?_
            refine W_skip ?_
            refine thenS_n ?_
            refine W_seq ?_
            refine W_region ?_
            refine WO_step 3 [0] [0, 1, 5] (True ∧ True) ⟨[(0, .one (.e (.sl 0 0 x1.length))), (1, I (w64 ((w64 (i118 + 1)) + 1))), (5, I i119)], [.row .nod x1 false]⟩ (by kernel_rfl) ⟨trivial, trivial⟩ ?_
            refine WO_nil rfl ?_
            refine thenS_n ?_
            refine W_seq ?_
            refine W_seq ?_
            refine W_region ?_
            refine guardO_e h (fun hg169 h => ?_)
            refine WO_step 7 [0] [0, 1, 5, 37] ((0 ≤ i119 ∧ i119 < ((x1.length : Nat) : Int)) ∧ (True ∧ (True ∧ True))) ⟨[(0, .one (.e (.sl 0 0 x1.length))), (1, I (w64 ((w64 (i118 + 1)) + 1))), (5, I i119), (37, B (!decide (((x1.getD i119.toNat dnod).value) = (w64 ((w64 (i118 + 1)) + 1)))))], [.row .nod x1 false]⟩ (by kernel_rfl) ⟨hg169, trivial, trivial, trivial⟩ ?_
            refine WO_nil rfl ?_
            refine thenS_n ?_
            refine iteO_e h (fun hb171 h => W_true rfl hb171 ?_) (fun hb171 h => W_false rfl hb171 ?_)
            · refine W_seq ?_
              refine W_region ?_
              refine WO_step 1 [0] [4] True ⟨[(4, I (-1))], [.row .nod x1 false]⟩ (by kernel_rfl) trivial ?_
              refine WO_nil rfl ?_
              refine thenS_n ?_
              refine W_ret ?_
              refine thenS_r ?_
              refine blockS_r ?_
              refine thenS_r ?_
              refine thenS_r ?_
              cases h
              exact And.intro rfl rfl
            · refine W_sub [0] [0, 1, 5] (st' := ⟨[(0, .one (.e (.sl 0 0 x1.length))), (1, I (w64 ((w64 (i118 + 1)) + 1))), (5, I i119)], [.row .nod x1 false]⟩) (by kernel_rfl) ?_
              refine W_skip ?_
              refine thenS_n ?_
              refine W_region ?_
              refine WO_step 3 [0] [0, 1, 5] (True ∧ True) ⟨[(0, .one (.e (.sl 0 0 x1.length))), (1, I (w64 ((w64 ((w64 (i118 + 1)) + 1)) + 1))), (5, I i119)], [.row .nod x1 false]⟩ (by kernel_rfl) ⟨trivial, trivial⟩ ?_
              refine WO_nil rfl ?_
              refine blockS_n ?_
              refine thenS_n ?_
              refine W_region ?_
              refine WO_step 3 [0] [0, 1, 5] (True ∧ True) ⟨[(0, .one (.e (.sl 0 0 x1.length))), (1, I (w64 ((w64 ((w64 (i118 + 1)) + 1)) + 1))), (5, I (w64 (i119 + 1)))], [.row .nod x1 false]⟩ (by kernel_rfl) ⟨trivial, trivial⟩ ?_
              refine WO_nil rfl ?_
              refine thenS_n ?_
              exact ih _ _ h
    · refine W_sub [0] [1] (st' := ⟨[(1, I i118)], [.row .nod x1 false]⟩) (by kernel_rfl) ?_
      refine W_exit ?_
      refine thenS_e ?_
      refine thenS_e ?_
      cases h
      exact And.intro rfl rfl

def laws_heldNodeS (n : Nat) (x1 : List Nod) (i2 : Int) : Option (Int) :=
bindO (laws_heldNodeS_L1 x1 n i2 0) fun v172 =>
match v172 with
 | (.inl _) => (some (-1))
 | (.inr i146) => (some i146)


theorem laws_heldNodeS_ok (n : Nat) (x1 : List Nod) (i2 : Int) (i87 : Int) (h : laws_heldNodeS n x1 i2 = some i87) : FOk EE 13 [.one (.e (.sl 0 0 x1.length)), I i2] [.row .nod x1 false] (I i87) [.row .nod x1 false] := by
  unfold laws_heldNodeS at h
  refine FOk_of_W 41 1 Tryd.func13 rfl rfl (Nat.le_of_ble_eq_true rfl) rfl (fun w X θ => ?_)
  refine W_seq ?_
  refine W_region ?_
  refine WO_step 1 [0] [0, 1] True ⟨[(0, .one (.e (.sl 0 0 x1.length))), (1, I i2)], [.row .nod x1 false]⟩ (by kernel_rfl) trivial ?_
  refine WO_nil rfl ?_
  refine thenS_n ?_
  refine W_seq ?_
  refine W_seq ?_
  refine W_region ?_
  refine WO_step 1 [0] [0, 1, 5] True ⟨[(0, .one (.e (.sl 0 0 x1.length))), (1, I i2), (5, I 0)], [.row .nod x1 false]⟩ (by kernel_rfl) trivial ?_
  refine WO_nil rfl ?_
  refine thenS_n ?_
  refine W_block ?_
  refine W_loop ?_
  refine bindO_e h (fun v172 hv172 h => ?_)
  refine WL_cut (laws_heldNodeS_L1_ok w X θ x1 v172 n i2 0 hv172) ?_
  rcases v172 with _ | i146
  · rintro _ _ ⟨rfl, rfl⟩
    refine blockS_r ?_
    refine thenS_r ?_
    cases h
    exact ⟨[0], True, by kernel_rfl, trivial⟩
  · rintro _ _ ⟨rfl, rfl⟩
    refine blockS_y ?_
    refine thenS_n ?_
    refine W_seq ?_
    refine W_region ?_
    refine WO_step 2 [0] [4] True ⟨[(4, I i146)], [.row .nod x1 false]⟩ (by kernel_rfl) trivial ?_
    refine WO_nil rfl ?_
    refine thenS_n ?_
    refine W_ret ?_
    cases h
    exact ⟨[0], True, by kernel_rfl, trivial⟩

/- laws.FnExactParseTree -/
def laws_FnExactParseTree (n : Nat) (s1 : Str) : Option (Bool) :=
iteO (decide (1048576 < ((s1.length : Nat) : Int)))
 (some true)
 (bindO (spec_ParseTree n s1) fun (x50, b51) =>
bindO (impl_ParseTree n s1) fun (x53, b54) =>
bindO (laws_eqNodeS n x53 x50) fun b56 =>
iteO ((!b56) || (!(b54 == b51)))
 (some false)
 (bindO (laws_markNodeS n x53 x53.length 1) fun (x63, i64) =>
guardO (x53.length = x63.length) <|
bindO (laws_heldNodeS n x63 1) fun i67 =>
iteO (decide (i67 < 0))
 (some false)
 (iteO (!decide (i67 = i64))
 (some false)
 (bindO (impl_ParseTree n s1) fun (x73, b74) =>
bindO (laws_eqNodeS n x73 x50) fun b76 =>
iteO ((!b76) || (!(b74 == b51)))
 (some false)
 (bindO (laws_heldNodeS n x63 1) fun i83 =>
iteO (decide (i83 < 0))
 (some false)
 (iteO (!decide (i83 = i64))
 (some false)
 (some true)))))))

theorem laws_FnExactParseTree_ok (n : Nat) (s1 : Str) (b47 : Bool) (h : laws_FnExactParseTree n s1 = some b47) : FOk EE 4 [S s1] [] (B b47) [] := by
  unfold laws_FnExactParseTree at h
  refine FOk_of_W 66 0 Tryd.func4 rfl rfl (Nat.le_of_ble_eq_true rfl) rfl (fun w X θ => ?_)
  refine W_seq ?_
  refine W_region ?_
  refine WO_step 1 [] [0] True ⟨[(0, S s1)], []⟩ (by kernel_rfl) trivial ?_
  refine WO_nil rfl ?_
  refine thenS_n ?_
  refine W_seq ?_
  refine W_seq ?_
  refine W_region ?_
  refine WO_step 3 [] [0, 13] (True ∧ (True ∧ True)) ⟨[(0, S s1), (13, B (decide (1048576 < ((s1.length : Nat) : Int))))], []⟩ (by kernel_rfl) ⟨trivial, trivial, trivial⟩ ?_
  refine WO_nil rfl ?_
  refine thenS_n ?_
  refine iteO_e h (fun hb49 h => W_true rfl hb49 ?_) (fun hb49 h => W_false rfl hb49 ?_)
  · refine W_seq ?_
    refine W_region ?_
    refine WO_step 1 [] [2] True ⟨[(2, B true)], []⟩ (by kernel_rfl) trivial ?_
    refine WO_nil rfl ?_
    refine thenS_n ?_
    refine W_ret ?_
    refine thenS_r ?_
    cases h
    exact ⟨[], True, by kernel_rfl, trivial⟩
  · refine W_sub [] [0] (st' := ⟨[(0, S s1)], []⟩) (by kernel_rfl) ?_
    refine W_skip ?_
    refine thenS_n ?_
    refine W_seq ?_
    refine W_region ?_
    refine WO_step 1 [] [0, 15] True ⟨[(0, S s1), (15, S s1)], []⟩ (by kernel_rfl) trivial ?_
    refine bindO_e h (fun v92 hc52 h => ?_)
    obtain ⟨x50, b51⟩ := v92
    refine WO_call [] Tryd.f10 rfl rfl rfl (by kernel_rfl) Tryd.func10 rfl (by kernel_rfl) (spec_ParseTree_ok n s1 x50 b51 hc52) (trivial) rfl ?_
    refine WO_step 5 [0] [0, 3, 4] True ⟨[(0, S s1), (3, .one (.e (.sl 0 0 x50.length))), (4, B b51)], [.row .nod x50 true]⟩ (by kernel_rfl) trivial ?_
    refine WO_nil rfl ?_
    refine thenS_n ?_
    refine W_seq ?_
    refine W_region ?_
    refine WO_step 1 [0] [0, 3, 4, 20] True ⟨[(0, S s1), (3, .one (.e (.sl 0 0 x50.length))), (4, B b51), (20, S s1)], [.row .nod x50 true]⟩ (by kernel_rfl) trivial ?_
    refine bindO_e h (fun v91 hc55 h => ?_)
    obtain ⟨x53, b54⟩ := v91
    refine WO_call [] Tryd.f8 rfl rfl rfl (by kernel_rfl) Tryd.func8 rfl (by kernel_rfl) (impl_ParseTree_ok n s1 x53 b54 hc55) (trivial) rfl ?_
    refine WO_step 5 [0, 1] [0, 3, 4, 5, 6] True ⟨[(0, S s1), (3, .one (.e (.sl 0 0 x50.length))), (4, B b51), (5, .one (.e (.sl 1 0 x53.length))), (6, B b54)], [.row .nod x50 true, .row .nod x53 true]⟩ (by kernel_rfl) trivial ?_
    refine WO_nil rfl ?_
    refine thenS_n ?_
    refine W_seq ?_
    refine W_seq ?_
    refine W_region ?_
    refine WO_step 2 [0, 1] [0, 3, 4, 5, 6, 24, 25] True ⟨[(0, S s1), (3, .one (.e (.sl 0 0 x50.length))), (4, B b51), (5, .one (.e (.sl 1 0 x53.length))), (6, B b54), (24, .one (.e (.sl 1 0 x53.length))), (25, .one (.e (.sl 0 0 x50.length)))], [.row .nod x50 true, .row .nod x53 true]⟩ (by kernel_rfl) trivial ?_
    refine bindO_e h (fun b56 hc57 h => ?_)
    refine WO_call [.ro 1, .ro 0] Tryd.f11 rfl rfl rfl (by kernel_rfl) Tryd.func11 rfl (by kernel_rfl) (laws_eqNodeS_ok n x53 x50 b56 hc57) (And.intro (And.intro rfl rfl) (And.intro (And.intro rfl rfl) (trivial))) rfl ?_
    refine WO_step 2 [0, 1] [0, 3, 4, 5, 6, 28] True ⟨[(0, S s1), (3, .one (.e (.sl 0 0 x50.length))), (4, B b51), (5, .one (.e (.sl 1 0 x53.length))), (6, B b54), (28, B (!b56))], [.row .nod x50 true, .row .nod x53 true]⟩ (by kernel_rfl) trivial ?_
    refine WO_thru ⟨[(0, S s1), (3, .one (.e (.sl 0 0 x50.length))), (4, B b51), (5, .one (.e (.sl 1 0 x53.length))), (32, B ((!b56) || (!(b54 == b51))))], [.row .nod x50 true, .row .nod x53 true]⟩ ?_ ?_
    · refine WO_if 28 rfl (fun hb60 => ?_) (fun hb60 => ?_)
      · refine WO_step 4 [0, 1] [0, 3, 4, 5, 32] True ⟨[(0, S s1), (3, .one (.e (.sl 0 0 x50.length))), (4, B b51), (5, .one (.e (.sl 1 0 x53.length))), (32, B true)], [.row .nod x50 true, .row .nod x53 true]⟩ (by kernel_rfl) trivial ?_
        exact WO_nil rfl ⟨rfl, by first | rfl | (rw [hb60]; first | done | rfl)⟩
      · refine WO_step 4 [0, 1] [0, 3, 4, 5, 32] (True ∧ True) ⟨[(0, S s1), (3, .one (.e (.sl 0 0 x50.length))), (4, B b51), (5, .one (.e (.sl 1 0 x53.length))), (32, B (!(b54 == b51)))], [.row .nod x50 true, .row .nod x53 true]⟩ (by kernel_rfl) ⟨trivial, trivial⟩ ?_
        exact WO_nil rfl ⟨rfl, by first | rfl | (rw [hb60]; first | done | rfl)⟩
    · refine thenS_n ?_
      refine iteO_e h (fun hb62 h => W_true rfl hb62 ?_) (fun hb62 h => W_false rfl hb62 ?_)
      · refine W_seq ?_
        refine W_region ?_
        refine WO_step 1 [] [2] True ⟨[(2, B false)], []⟩ (by kernel_rfl) trivial ?_
        refine WO_nil rfl ?_
        refine thenS_n ?_
        refine W_ret ?_
        refine thenS_r ?_
        cases h
        exact ⟨[], True, by kernel_rfl, trivial⟩
      · refine W_sub [0, 1] [0, 3, 4, 5] (st' := ⟨[(0, S s1), (3, .one (.e (.sl 0 0 x50.length))), (4, B b51), (5, .one (.e (.sl 1 0 x53.length)))], [.row .nod x50 true, .row .nod x53 true]⟩) (by kernel_rfl) ?_
        refine W_skip ?_
        refine thenS_n ?_
        refine W_seq ?_
        refine W_region ?_
        refine WO_step 1 [0, 1] [0, 3, 4, 5, 7] True ⟨[(0, S s1), (3, .one (.e (.sl 0 0 x50.length))), (4, B b51), (5, .one (.e (.sl 1 0 x53.length))), (7, I 1)], [.row .nod x50 true, .row .nod x53 true]⟩ (by kernel_rfl) trivial ?_
        refine WO_nil rfl ?_
        refine thenS_n ?_
        refine W_seq ?_
        refine W_region ?_
        refine WO_step 2 [0, 1] [0, 3, 4, 5, 33, 34] True ⟨[(0, S s1), (3, .one (.e (.sl 0 0 x50.length))), (4, B b51), (5, .one (.e (.sl 1 0 x53.length))), (33, .one (.e (.sl 1 0 x53.length))), (34, I 1)], [.row .nod x50 true, .row .nod x53 true]⟩ (by kernel_rfl) trivial ?_
        refine bindO_e h (fun v90 hc65 h => ?_)
        obtain ⟨x63, i64⟩ := v90
        refine guardO_e h (fun hl66 h => ?_)
        refine WO_call [.own 1] Tryd.f12 rfl rfl rfl (by kernel_rfl) Tryd.func12 rfl (by kernel_rfl) (laws_markNodeS_ok n x53 x53.length 1 x63 i64 hc65) (And.intro (And.intro rfl (And.intro rfl hl66)) (trivial)) rfl ?_
        refine WO_sub [0, 1] [0, 3, 4, 5, 33, 34, 35] (st' := ⟨[(0, S s1), (3, .one (.e (.sl 0 0 x50.length))), (4, B b51), (5, .one (.e (.sl 1 0 x53.length))), (33, .one (.e (.sl 1 0 x53.length))), (34, I 1), (35, I i64)], [.row .nod x50 true, .row .nod x63 true]⟩) (by kernel_rfl) ?_
        refine WO_eq (st' := ⟨[(0, S s1), (3, .one (.e (.sl 0 0 x50.length))), (4, B b51), (5, .one (.e (.sl 1 0 x63.length))), (33, .one (.e (.sl 1 0 x63.length))), (34, I 1), (35, I i64)], [.row .nod x50 true, .row .nod x63 true]⟩) (by simp only [hl66]) ?_
        refine WO_step 1 [0, 1] [0, 3, 4, 5, 7] True ⟨[(0, S s1), (3, .one (.e (.sl 0 0 x50.length))), (4, B b51), (5, .one (.e (.sl 1 0 x63.length))), (7, I i64)], [.row .nod x50 true, .row .nod x63 true]⟩ (by kernel_rfl) trivial ?_
        refine WO_nil rfl ?_
        refine thenS_n ?_
        refine W_seq ?_
        refine W_region ?_
        refine WO_step 1 [0, 1] [0, 3, 4, 5, 7, 8] True ⟨[(0, S s1), (3, .one (.e (.sl 0 0 x50.length))), (4, B b51), (5, .one (.e (.sl 1 0 x63.length))), (7, I i64), (8, I 1)], [.row .nod x50 true, .row .nod x63 true]⟩ (by kernel_rfl) trivial ?_
        refine WO_nil rfl ?_
        refine thenS_n ?_
        refine W_seq ?_
        refine W_region ?_
        refine WO_step 2 [0, 1] [0, 3, 4, 5, 7, 36, 37] True ⟨[(0, S s1), (3, .one (.e (.sl 0 0 x50.length))), (4, B b51), (5, .one (.e (.sl 1 0 x63.length))), (7, I i64), (36, .one (.e (.sl 1 0 x63.length))), (37, I 1)], [.row .nod x50 true, .row .nod x63 true]⟩ (by kernel_rfl) trivial ?_
        refine bindO_e h (fun i67 hc68 h => ?_)
        refine WO_call [.ro 1] Tryd.f13 rfl rfl rfl (by kernel_rfl) Tryd.func13 rfl (by kernel_rfl) (laws_heldNodeS_ok n x63 1 i67 hc68) (And.intro (And.intro rfl rfl) (trivial)) rfl ?_
        refine WO_step 1 [0, 1] [0, 3, 4, 5, 7, 8] True ⟨[(0, S s1), (3, .one (.e (.sl 0 0 x50.length))), (4, B b51), (5, .one (.e (.sl 1 0 x63.length))), (7, I i64), (8, I i67)], [.row .nod x50 true, .row .nod x63 true]⟩ (by kernel_rfl) trivial ?_
        refine WO_nil rfl ?_
        refine thenS_n ?_
        refine W_seq ?_
        refine W_seq ?_
        refine W_region ?_
        refine WO_step 2 [0, 1] [0, 3, 4, 5, 7, 8, 40] (True ∧ True) ⟨[(0, S s1), (3, .one (.e (.sl 0 0 x50.length))), (4, B b51), (5, .one (.e (.sl 1 0 x63.length))), (7, I i64), (8, I i67), (40, B (decide (i67 < 0)))], [.row .nod x50 true, .row .nod x63 true]⟩ (by kernel_rfl) ⟨trivial, trivial⟩ ?_
        refine WO_nil rfl ?_
        refine thenS_n ?_
        refine iteO_e h (fun hb70 h => W_true rfl hb70 ?_) (fun hb70 h => W_false rfl hb70 ?_)
        · refine W_seq ?_
          refine W_region ?_
          refine WO_step 1 [] [2] True ⟨[(2, B false)], []⟩ (by kernel_rfl) trivial ?_
          refine WO_nil rfl ?_
          refine thenS_n ?_
          refine W_ret ?_
          refine thenS_r ?_
          cases h
          exact ⟨[], True, by kernel_rfl, trivial⟩
        · refine W_sub [0, 1] [0, 3, 4, 5, 7, 8] (st' := ⟨[(0, S s1), (3, .one (.e (.sl 0 0 x50.length))), (4, B b51), (5, .one (.e (.sl 1 0 x63.length))), (7, I i64), (8, I i67)], [.row .nod x50 true, .row .nod x63 true]⟩) (by kernel_rfl) ?_
          refine W_skip ?_
          refine thenS_n ?_
          refine W_seq ?_
          refine W_seq ?_
          refine W_region ?_
          refine WO_step 3 [0, 1] [0, 3, 4, 5, 7, 43] (True ∧ True) ⟨[(0, S s1), (3, .one (.e (.sl 0 0 x50.length))), (4, B b51), (5, .one (.e (.sl 1 0 x63.length))), (7, I i64), (43, B (!decide (i67 = i64)))], [.row .nod x50 true, .row .nod x63 true]⟩ (by kernel_rfl) ⟨trivial, trivial⟩ ?_
          refine WO_nil rfl ?_
          refine thenS_n ?_
          refine iteO_e h (fun hb72 h => W_true rfl hb72 ?_) (fun hb72 h => W_false rfl hb72 ?_)
          · refine W_seq ?_
            refine W_region ?_
            refine WO_step 1 [] [2] True ⟨[(2, B false)], []⟩ (by kernel_rfl) trivial ?_
            refine WO_nil rfl ?_
            refine thenS_n ?_
            refine W_ret ?_
            refine thenS_r ?_
            cases h
            exact ⟨[], True, by kernel_rfl, trivial⟩
          · refine W_sub [0, 1] [0, 3, 4, 5, 7] (st' := ⟨[(0, S s1), (3, .one (.e (.sl 0 0 x50.length))), (4, B b51), (5, .one (.e (.sl 1 0 x63.length))), (7, I i64)], [.row .nod x50 true, .row .nod x63 true]⟩) (by kernel_rfl) ?_
            refine W_skip ?_
            refine thenS_n ?_
            refine W_seq ?_
            refine W_region ?_
            refine WO_step 1 [0, 1] [3, 4, 5, 7, 45] True ⟨[(3, .one (.e (.sl 0 0 x50.length))), (4, B b51), (5, .one (.e (.sl 1 0 x63.length))), (7, I i64), (45, S s1)], [.row .nod x50 true, .row .nod x63 true]⟩ (by kernel_rfl) trivial ?_
            refine bindO_e h (fun v89 hc75 h => ?_)
            obtain ⟨x73, b74⟩ := v89
            refine WO_call [] Tryd.f8 rfl rfl rfl (by kernel_rfl) Tryd.func8 rfl (by kernel_rfl) (impl_ParseTree_ok n s1 x73 b74 hc75) (trivial) rfl ?_
            refine WO_step 5 [0, 1, 2] [3, 4, 5, 7, 9, 10] True ⟨[(3, .one (.e (.sl 0 0 x50.length))), (4, B b51), (5, .one (.e (.sl 1 0 x63.length))), (7, I i64), (9, .one (.e (.sl 2 0 x73.length))), (10, B b74)], [.row .nod x50 true, .row .nod x63 true, .row .nod x73 true]⟩ (by kernel_rfl) trivial ?_
            refine WO_nil rfl ?_
            refine thenS_n ?_
            refine W_seq ?_
            refine W_seq ?_
            refine W_region ?_
            refine WO_step 2 [1, 2, 0] [4, 5, 7, 10, 49, 50] True ⟨[(4, B b51), (5, .one (.e (.sl 0 0 x63.length))), (7, I i64), (10, B b74), (49, .one (.e (.sl 1 0 x73.length))), (50, .one (.e (.sl 2 0 x50.length)))], [.row .nod x63 true, .row .nod x73 true, .row .nod x50 true]⟩ (by kernel_rfl) trivial ?_
            refine bindO_e h (fun b76 hc77 h => ?_)
            refine WO_call [.ro 1, .ro 2] Tryd.f11 rfl rfl rfl (by kernel_rfl) Tryd.func11 rfl (by kernel_rfl) (laws_eqNodeS_ok n x73 x50 b76 hc77) (And.intro (And.intro rfl rfl) (And.intro (And.intro rfl rfl) (trivial))) rfl ?_
            refine WO_step 2 [0] [4, 5, 7, 10, 53] True ⟨[(4, B b51), (5, .one (.e (.sl 0 0 x63.length))), (7, I i64), (10, B b74), (53, B (!b76))], [.row .nod x63 true]⟩ (by kernel_rfl) trivial ?_
            refine WO_thru ⟨[(5, .one (.e (.sl 0 0 x63.length))), (7, I i64), (57, B ((!b76) || (!(b74 == b51))))], [.row .nod x63 true]⟩ ?_ ?_
            · refine WO_if 53 rfl (fun hb80 => ?_) (fun hb80 => ?_)
              · refine WO_step 4 [0] [5, 7, 57] True ⟨[(5, .one (.e (.sl 0 0 x63.length))), (7, I i64), (57, B true)], [.row .nod x63 true]⟩ (by kernel_rfl) trivial ?_
                exact WO_nil rfl ⟨rfl, by first | rfl | (rw [hb80]; first | done | rfl)⟩
              · refine WO_step 4 [0] [5, 7, 57] (True ∧ True) ⟨[(5, .one (.e (.sl 0 0 x63.length))), (7, I i64), (57, B (!(b74 == b51)))], [.row .nod x63 true]⟩ (by kernel_rfl) ⟨trivial, trivial⟩ ?_
                exact WO_nil rfl ⟨rfl, by first | rfl | (rw [hb80]; first | done | rfl)⟩
            · refine thenS_n ?_
              refine iteO_e h (fun hb82 h => W_true rfl hb82 ?_) (fun hb82 h => W_false rfl hb82 ?_)
              · refine W_seq ?_
                refine W_region ?_
                refine WO_step 1 [] [2] True ⟨[(2, B false)], []⟩ (by kernel_rfl) trivial ?_
                refine WO_nil rfl ?_
                refine thenS_n ?_
                refine W_ret ?_
                refine thenS_r ?_
                cases h
                exact ⟨[], True, by kernel_rfl, trivial⟩
              · refine W_sub [0] [5, 7] (st' := ⟨[(5, .one (.e (.sl 0 0 x63.length))), (7, I i64)], [.row .nod x63 true]⟩) (by kernel_rfl) ?_
                refine W_skip ?_
                refine thenS_n ?_
                refine W_seq ?_
                refine W_region ?_
                refine WO_step 1 [0] [5, 7, 8] True ⟨[(5, .one (.e (.sl 0 0 x63.length))), (7, I i64), (8, I 1)], [.row .nod x63 true]⟩ (by kernel_rfl) trivial ?_
                refine WO_nil rfl ?_
                refine thenS_n ?_
                refine W_seq ?_
                refine W_region ?_
                refine WO_step 2 [0] [7, 58, 59] True ⟨[(7, I i64), (58, .one (.e (.sl 0 0 x63.length))), (59, I 1)], [.row .nod x63 true]⟩ (by kernel_rfl) trivial ?_
                refine bindO_e h (fun i83 hc84 h => ?_)
                refine WO_call [.ro 0] Tryd.f13 rfl rfl rfl (by kernel_rfl) Tryd.func13 rfl (by kernel_rfl) (laws_heldNodeS_ok n x63 1 i83 hc84) (And.intro (And.intro rfl rfl) (trivial)) rfl ?_
                refine WO_step 1 [] [7, 8] True ⟨[(7, I i64), (8, I i83)], []⟩ (by kernel_rfl) trivial ?_
                refine WO_nil rfl ?_
                refine thenS_n ?_
                refine W_seq ?_
                refine W_seq ?_
                refine W_region ?_
                refine WO_step 2 [] [7, 8, 62] (True ∧ True) ⟨[(7, I i64), (8, I i83), (62, B (decide (i83 < 0)))], []⟩ (by kernel_rfl) ⟨trivial, trivial⟩ ?_
                refine WO_nil rfl ?_
                refine thenS_n ?_
                refine iteO_e h (fun hb86 h => W_true rfl hb86 ?_) (fun hb86 h => W_false rfl hb86 ?_)
                · refine W_seq ?_
                  refine W_region ?_
                  refine WO_step 1 [] [2] True ⟨[(2, B false)], []⟩ (by kernel_rfl) trivial ?_
                  refine WO_nil rfl ?_
                  refine thenS_n ?_
                  refine W_ret ?_
                  refine thenS_r ?_
                  cases h
                  exact ⟨[], True, by kernel_rfl, trivial⟩
                · refine W_sub [] [7, 8] (st' := ⟨[(7, I i64), (8, I i83)], []⟩) (by kernel_rfl) ?_
                  refine W_skip ?_
                  refine thenS_n ?_
                  refine W_seq ?_
                  refine W_seq ?_
                  refine W_region ?_
                  refine WO_step 3 [] [65] (True ∧ True) ⟨[(65, B (!decide (i83 = i64)))], []⟩ (by kernel_rfl) ⟨trivial, trivial⟩ ?_
                  refine WO_nil rfl ?_
                  refine thenS_n ?_
                  refine iteO_e h (fun hb88 h => W_true rfl hb88 ?_) (fun hb88 h => W_false rfl hb88 ?_)
                  · refine W_seq ?_
                    refine W_region ?_
                    refine WO_step 1 [] [2] True ⟨[(2, B false)], []⟩ (by kernel_rfl) trivial ?_
                    refine WO_nil rfl ?_
                    refine thenS_n ?_
                    refine W_ret ?_
                    refine thenS_r ?_
                    cases h
                    exact ⟨[], True, by kernel_rfl, trivial⟩
                  · refine W_sub [] [] (st' := ⟨[], []⟩) (by kernel_rfl) ?_
                    refine W_skip ?_
                    refine thenS_n ?_
                    refine W_seq ?_
                    refine W_region ?_
                    refine WO_step 1 [] [2] True ⟨[(2, B true)], []⟩ (by kernel_rfl) trivial ?_
                    refine WO_nil rfl ?_
                    refine thenS_n ?_
                    refine W_ret ?_
                    cases h
                    exact ⟨[], True, by kernel_rfl, trivial⟩

end Go.Proofs.YtghdgncfcfdlfaaDoor
