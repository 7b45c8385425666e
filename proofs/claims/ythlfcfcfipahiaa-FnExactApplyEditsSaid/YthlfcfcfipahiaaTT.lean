import Derived.Test.YthlfcfcfipahiaaTT2
namespace Go.Proofs.Ythlfcfcfipahiaa
open Go Go.Shelf Go.Proofs
set_option linter.unusedVariables false
/- spec.reader).one -/
def spec_reader_one (x1 : List Int) (k2 : Nat) (i3 : Int) (x4 : List Int) : Option (Int × Int) :=
 bindO (spec_reader_pick x1 k2 i3 ((x4.length : Nat) : Int)) fun i10 =>
 guardO (0 ≤ i10 ∧ i10 < ((x4.length : Nat) : Int)) <|
 some ((w64 (i3 + 1)), (x4.getD i10.toNat 0))

theorem spec_reader_one_ok (x1 : List Int) (k2 : Nat) (i3 : Int) (x4 : List Int) (i8 : Int) (i9 : Int) (h : spec_reader_one x1 k2 i3 x4 = some (i8, i9)) : FOk EE 33 [.one (.e (.p 0 0)), .one (.e (.sl 2 0 x4.length))] [.cells [.sl 1 0 k2, cI i3], .row .u8 x1 false, .row .int x4 false] (I i9) [.cells [.sl 1 0 k2, cI i8], .row .u8 x1 false, .row .int x4 false] := by
  unfold spec_reader_one at h
  refine FOk_of_W 12 3 Try.func33 rfl rfl (Nat.le_of_ble_eq_true rfl) rfl (fun w X θ => ?_)
  refine W_seq ?_
  refine W_region ?_
  refine WO_step 1 [0, 1, 2] [0, 1] True ⟨[(0, .one (.e (.p 0 0))), (1, .one (.e (.sl 2 0 x4.length)))], [.cells [.sl 1 0 k2, cI i3], .row .u8 x1 false, .row .int x4 false]⟩ (by kernel_rfl) trivial ?_
  refine WO_nil rfl ?_
  refine thenS_n ?_
  refine W_seq ?_
  refine W_region ?_
  refine WO_step 4 [0, 1, 2] [5, 6, 8] (True ∧ True) ⟨[(5, .one (.e (.sl 2 0 x4.length))), (6, .one (.e (.p 0 0))), (8, I ((x4.length : Nat) : Int))], [.cells [.sl 1 0 k2, cI i3], .row .u8 x1 false, .row .int x4 false]⟩ (by kernel_rfl) ⟨trivial, trivial⟩ ?_
  refine bindO_e h (fun i10 hc11 h => ?_)
  refine WO_call [.own 0, .ro 1] Try.f31 rfl rfl rfl (by kernel_rfl) Try.func31 rfl (by kernel_rfl) (spec_reader_pick_ok x1 k2 i3 ((x4.length : Nat) : Int) i10 hc11) (And.intro (trivial) (And.intro (And.intro rfl rfl) (trivial))) rfl ?_
  refine guardO_e h (fun hg12 h => ?_)
  refine WO_step 3 [0, 1, 2] [4] ((0 ≤ i10 ∧ i10 < ((x4.length : Nat) : Int)) ∧ (True ∧ True)) ⟨[(4, I (x4.getD i10.toNat 0))], [.cells [.sl 1 0 k2, cI (w64 (i3 + 1))], .row .u8 x1 false, .row .int x4 false]⟩ (by kernel_rfl) ⟨hg12, trivial, trivial⟩ ?_
  refine WO_nil rfl ?_
  refine thenS_n ?_
  refine W_ret ?_
  cases h
  exact ⟨[0, 1, 2], True, by kernel_rfl, trivial⟩

/- spec.someValue -/
def spec_someValue (x1 : List Int) (k2 : Nat) (i3 : Int) : Option (Int × Int) :=
 bindO (spec_reader_pick x1 k2 i3 40) fun i14 =>
 bindO (spec_reader_pick x1 k2 (w64 (i3 + 1)) 250) fun i16 =>
 bindO (spec_reader_one x1 k2 (w64 ((w64 (i3 + 1)) + 1)) [0, 1, (-1), 5, 10, 100, 1000, (-1000), i14, (w64 ((w64 (4 * i16)) - 500))]) fun (i18, i19) =>
 some (i18, i19)

theorem spec_someValue_ok (x1 : List Int) (k2 : Nat) (i3 : Int) (i12 : Int) (i13 : Int) (h : spec_someValue x1 k2 i3 = some (i12, i13)) : FOk EE 51 [.one (.e (.p 0 0))] [.cells [.sl 1 0 k2, cI i3], .row .u8 x1 false] (I i13) [.cells [.sl 1 0 k2, cI i12], .row .u8 x1 false] := by
  unfold spec_someValue at h
  refine FOk_of_W 12 2 Try.func51 rfl rfl (Nat.le_of_ble_eq_true rfl) rfl (fun w X θ => ?_)
  refine W_seq ?_
  refine W_region ?_
  refine WO_step 1 [0, 1] [0] True ⟨[(0, .one (.e (.p 0 0)))], [.cells [.sl 1 0 k2, cI i3], .row .u8 x1 false]⟩ (by kernel_rfl) trivial ?_
  refine WO_nil rfl ?_
  refine thenS_n ?_
  refine W_seq ?_
  refine W_region ?_
  refine WO_step 2 [0, 1] [0, 3, 4] True ⟨[(0, .one (.e (.p 0 0))), (3, .one (.e (.p 0 0))), (4, .one (.e (.p 0 0)))], [.cells [.sl 1 0 k2, cI i3], .row .u8 x1 false]⟩ (by kernel_rfl) trivial ?_
  refine bindO_e h (fun i14 hc15 h => ?_)
  refine WO_call [.own 0, .ro 1] Try.f31 rfl rfl rfl (by kernel_rfl) Try.func31 rfl (by kernel_rfl) (spec_reader_pick_ok x1 k2 i3 40 i14 hc15) (And.intro (trivial) (And.intro (And.intro rfl rfl) (trivial))) rfl ?_
  refine WO_step 1 [0, 1] [3, 5, 6] True ⟨[(3, .one (.e (.p 0 0))), (5, I i14), (6, .one (.e (.p 0 0)))], [.cells [.sl 1 0 k2, cI (w64 (i3 + 1))], .row .u8 x1 false]⟩ (by kernel_rfl) trivial ?_
  refine bindO_e h (fun i16 hc17 h => ?_)
  refine WO_call [.own 0, .ro 1] Try.f31 rfl rfl rfl (by kernel_rfl) Try.func31 rfl (by kernel_rfl) (spec_reader_pick_ok x1 k2 (w64 (i3 + 1)) 250 i16 hc17) (And.intro (trivial) (And.intro (And.intro rfl rfl) (trivial))) rfl ?_
  refine WO_step 3 [0, 1, 2] [3, 10] (True ∧ (True ∧ True)) ⟨[(3, .one (.e (.p 0 0))), (10, .one (.e (.sl 2 0 ([0, 1, (-1), 5, 10, 100, 1000, (-1000), i14, (w64 ((w64 (4 * i16)) - 500))].length))))], [.cells [.sl 1 0 k2, cI (w64 ((w64 (i3 + 1)) + 1))], .row .u8 x1 false, .row .int [0, 1, (-1), 5, 10, 100, 1000, (-1000), i14, (w64 ((w64 (4 * i16)) - 500))] true]⟩ (by kernel_rfl) ⟨trivial, trivial, trivial⟩ ?_
  refine bindO_e h (fun v21 hc20 h => ?_)
  obtain ⟨i18, i19⟩ := v21
  refine WO_call [.own 0, .ro 1, .ro 2] Try.f33 rfl rfl rfl (by kernel_rfl) Try.func33 rfl (by kernel_rfl) (spec_reader_one_ok x1 k2 (w64 ((w64 (i3 + 1)) + 1)) [0, 1, (-1), 5, 10, 100, 1000, (-1000), i14, (w64 ((w64 (4 * i16)) - 500))] i18 i19 hc20) (And.intro (trivial) (And.intro (And.intro rfl rfl) (And.intro (And.intro rfl rfl) (trivial)))) rfl ?_
  refine WO_step 1 [0, 1] [2] True ⟨[(2, I i19)], [.cells [.sl 1 0 k2, cI i18], .row .u8 x1 false]⟩ (by kernel_rfl) trivial ?_
  refine WO_nil rfl ?_
  refine thenS_n ?_
  refine W_ret ?_
  cases h
  exact ⟨[0, 1], True, by kernel_rfl, trivial⟩

/- spec.reader).of -/
def spec_reader_of (x1 : List Int) (k2 : Nat) (i3 : Int) (x4 : List Str) : Option (Int × Str) :=
 bindO (spec_reader_pick x1 k2 i3 ((x4.length : Nat) : Int)) fun i10 =>
 guardO (0 ≤ i10 ∧ i10 < ((x4.length : Nat) : Int)) <|
 some ((w64 (i3 + 1)), (x4.getD i10.toNat []))

theorem spec_reader_of_ok (x1 : List Int) (k2 : Nat) (i3 : Int) (x4 : List Str) (i8 : Int) (s9 : Str) (h : spec_reader_of x1 k2 i3 x4 = some (i8, s9)) : FOk EE 58 [.one (.e (.p 0 0)), .one (.e (.sl 2 0 x4.length))] [.cells [.sl 1 0 k2, cI i3], .row .u8 x1 false, .row .str x4 false] (S s9) [.cells [.sl 1 0 k2, cI i8], .row .u8 x1 false, .row .str x4 false] := by
  unfold spec_reader_of at h
  refine FOk_of_W 12 3 Try.func58 rfl rfl (Nat.le_of_ble_eq_true rfl) rfl (fun w X θ => ?_)
  refine W_seq ?_
  refine W_region ?_
  refine WO_step 1 [0, 1, 2] [0, 1] True ⟨[(0, .one (.e (.p 0 0))), (1, .one (.e (.sl 2 0 x4.length)))], [.cells [.sl 1 0 k2, cI i3], .row .u8 x1 false, .row .str x4 false]⟩ (by kernel_rfl) trivial ?_
  refine WO_nil rfl ?_
  refine thenS_n ?_
  refine W_seq ?_
  refine W_region ?_
  refine WO_step 4 [0, 1, 2] [5, 6, 8] (True ∧ True) ⟨[(5, .one (.e (.sl 2 0 x4.length))), (6, .one (.e (.p 0 0))), (8, I ((x4.length : Nat) : Int))], [.cells [.sl 1 0 k2, cI i3], .row .u8 x1 false, .row .str x4 false]⟩ (by kernel_rfl) ⟨trivial, trivial⟩ ?_
  refine bindO_e h (fun i10 hc11 h => ?_)
  refine WO_call [.own 0, .ro 1] Try.f31 rfl rfl rfl (by kernel_rfl) Try.func31 rfl (by kernel_rfl) (spec_reader_pick_ok x1 k2 i3 ((x4.length : Nat) : Int) i10 hc11) (And.intro (trivial) (And.intro (And.intro rfl rfl) (trivial))) rfl ?_
  refine guardO_e h (fun hg12 h => ?_)
  refine WO_step 3 [0, 1, 2] [4] ((0 ≤ i10 ∧ i10 < ((x4.length : Nat) : Int)) ∧ (True ∧ True)) ⟨[(4, S (x4.getD i10.toNat []))], [.cells [.sl 1 0 k2, cI (w64 (i3 + 1))], .row .u8 x1 false, .row .str x4 false]⟩ (by kernel_rfl) ⟨hg12, trivial, trivial⟩ ?_
  refine WO_nil rfl ?_
  refine thenS_n ?_
  refine W_ret ?_
  cases h
  exact ⟨[0, 1, 2], True, by kernel_rfl, trivial⟩

/- spec.someName -/
def spec_someName (x1 : List Int) (k2 : Nat) (i3 : Int) : Option (Int × Str) :=
 bindO (spec_reader_of x1 k2 i3 [[97], [98], [99], [97, 98], [120], [122]]) fun (i10, s11) =>
 some (i10, s11)

theorem spec_someName_ok (x1 : List Int) (k2 : Nat) (i3 : Int) (i8 : Int) (s9 : Str) (h : spec_someName x1 k2 i3 = some (i8, s9)) : FOk EE 60 [.one (.e (.p 0 0))] [.cells [.sl 1 0 k2, cI i3], .row .u8 x1 false] (S s9) [.cells [.sl 1 0 k2, cI i8], .row .u8 x1 false] := by
  unfold spec_someName at h
  refine FOk_of_W 6 2 Try.func60 rfl rfl (Nat.le_of_ble_eq_true rfl) rfl (fun w X θ => ?_)
  refine W_seq ?_
  refine W_region ?_
  refine WO_step 1 [0, 1] [0] True ⟨[(0, .one (.e (.p 0 0)))], [.cells [.sl 1 0 k2, cI i3], .row .u8 x1 false]⟩ (by kernel_rfl) trivial ?_
  refine WO_nil rfl ?_
  refine thenS_n ?_
  refine W_seq ?_
  refine W_region ?_
  refine WO_step 2 [0, 1, 2] [3, 4] True ⟨[(3, .one (.e (.p 0 0))), (4, .one (.e (.sl 2 0 ([[97], [98], [99], [97, 98], [120], [122]].length))))], [.cells [.sl 1 0 k2, cI i3], .row .u8 x1 false, .row .str [[97], [98], [99], [97, 98], [120], [122]] true]⟩ (by kernel_rfl) trivial ?_
  refine bindO_e h (fun v13 hc12 h => ?_)
  obtain ⟨i10, s11⟩ := v13
  refine WO_call [.own 0, .ro 1, .ro 2] Try.f58 rfl rfl rfl (by kernel_rfl) Try.func58 rfl (by kernel_rfl) (spec_reader_of_ok x1 k2 i3 [[97], [98], [99], [97, 98], [120], [122]] i10 s11 hc12) (And.intro (trivial) (And.intro (And.intro rfl rfl) (And.intro (And.intro rfl rfl) (trivial)))) rfl ?_
  refine WO_step 1 [0, 1] [2] True ⟨[(2, S s11)], [.cells [.sl 1 0 k2, cI i10], .row .u8 x1 false]⟩ (by kernel_rfl) trivial ?_
  refine WO_nil rfl ?_
  refine thenS_n ?_
  refine W_ret ?_
  cases h
  exact ⟨[0, 1], True, by kernel_rfl, trivial⟩

/- spec.someTree -/
def spec_someTree_L1 (k2 : Nat) (x1 : List Int) : Nat → Int → (List Nod) → Int → Option ((Int × (List Nod)))
| 0, _, _, _ => none
| n + 1, i199, x200, i201 =>
 iteO (decide (0 < i201))
 (bindO (spec_reader_pick x1 k2 i199 ((x200.length : Nat) : Int)) fun i266 =>
 bindO (spec_someName x1 k2 (w64 (i199 + 1))) fun (i268, s269) =>
 bindO (spec_someValue x1 k2 i268) fun (i271, i272) =>
 bindO (spec_AddNode n x200 i266 s269 i272) fun (x274, i275, b276) =>
 bindO (iteO b276
 (some x274)
 (some x200)) fun x279 =>
 spec_someTree_L1 k2 x1 n i271 x279 (w64 (i201 - 1)))
 (some (i199, x200))

theorem spec_someTree_L1_ok (w : World) (X : Nat → Prop) (θ : List Loc) (k2 : Nat) (x1 : List Int) (v : (Int × (List Nod))) : ∀ (n : Nat) (i199 : Int) (x200 : List Nod) (i201 : Int), spec_someTree_L1 k2 x1 n i199 x200 i201 = some v → WL EE ⟨w, X, θ, 36, 2⟩ (subC [1, 1, 0, 1, 4, 4] (bodyC Try.f32)) (fun (e : Exit) (s : St) => (match v with | (i243, x244) => e = .exit 0 ∧ s = ⟨[(3, .one (.e (.sl 2 0 x244.length)))], [.cells [.sl 1 0 k2, cI i243], .row .u8 x1 false, .row .nod x244 true]⟩ : Prop)) ⟨[(0, .one (.e (.p 0 0))), (3, .one (.e (.sl 2 0 x200.length))), (4, I i201)], [.cells [.sl 1 0 k2, cI i199], .row .u8 x1 false, .row .nod x200 true]⟩ := by
  intro n
  induction n with
  | zero => intro _ _ _ h; exact none_e h
  | succ n ih =>
    intro i199 x200 i201 h
    rw [spec_someTree_L1] at h
    refine WL_round ?_
    refine W_seq ?_
    refine W_seq ?_
    refine W_region ?_
    refine WO_step 2 [0, 1, 2] [0, 3, 4, 16] (True ∧ True) ⟨[(0, .one (.e (.p 0 0))), (3, .one (.e (.sl 2 0 x200.length))), (4, I i201), (16, B (decide (0 < i201)))], [.cells [.sl 1 0 k2, cI i199], .row .u8 x1 false, .row .nod x200 true]⟩ (by kernel_rfl) ⟨trivial, trivial⟩ ?_
    refine WO_nil rfl ?_
    refine thenS_n ?_
    refine iteO_e h (fun hb247 h => W_true rfl hb247 ?_) (fun hb247 h => W_false rfl hb247 ?_)
    · refine W_sub [0, 1, 2] [0, 3, 4] (st' := ⟨[(0, .one (.e (.p 0 0))), (3, .one (.e (.sl 2 0 x200.length))), (4, I i201)], [.cells [.sl 1 0 k2, cI i199], .row .u8 x1 false, .row .nod x200 true]⟩) (by kernel_rfl) ?_
      refine W_skip ?_
      refine thenS_n ?_
      refine W_seq ?_
      refine W_block ?_
      refine W_seq ?_
      refine W_region ?_
      refine WO_step 4 [0, 1, 2] [0, 3, 4, 20, 21, 23] (True ∧ True) ⟨[(0, .one (.e (.p 0 0))), (3, .one (.e (.sl 2 0 x200.length))), (4, I i201), (20, .one (.e (.sl 2 0 x200.length))), (21, .one (.e (.p 0 0))), (23, I ((x200.length : Nat) : Int))], [.cells [.sl 1 0 k2, cI i199], .row .u8 x1 false, .row .nod x200 true]⟩ (by kernel_rfl) ⟨trivial, trivial⟩ ?_
      refine bindO_e h (fun i266 hc267 h => ?_)
      refine WO_call [.own 0, .ro 1] Try.f31 rfl rfl rfl (by kernel_rfl) Try.func31 rfl (by kernel_rfl) (spec_reader_pick_ok x1 k2 i199 ((x200.length : Nat) : Int) i266 hc267) (And.intro (trivial) (And.intro (And.intro rfl rfl) (trivial))) rfl ?_
      refine WO_step 1 [0, 1, 2] [0, 3, 4, 20, 24, 25] True ⟨[(0, .one (.e (.p 0 0))), (3, .one (.e (.sl 2 0 x200.length))), (4, I i201), (20, .one (.e (.sl 2 0 x200.length))), (24, I i266), (25, .one (.e (.p 0 0)))], [.cells [.sl 1 0 k2, cI (w64 (i199 + 1))], .row .u8 x1 false, .row .nod x200 true]⟩ (by kernel_rfl) trivial ?_
      refine bindO_e h (fun v284 hc270 h => ?_)
      obtain ⟨i268, s269⟩ := v284
      refine WO_call [.own 0, .ro 1] Try.f60 rfl rfl rfl (by kernel_rfl) Try.func60 rfl (by kernel_rfl) (spec_someName_ok x1 k2 (w64 (i199 + 1)) i268 s269 hc270) (And.intro (trivial) (And.intro (And.intro rfl rfl) (trivial))) rfl ?_
      refine WO_step 1 [0, 1, 2] [0, 3, 4, 20, 24, 26, 27] True ⟨[(0, .one (.e (.p 0 0))), (3, .one (.e (.sl 2 0 x200.length))), (4, I i201), (20, .one (.e (.sl 2 0 x200.length))), (24, I i266), (26, S s269), (27, .one (.e (.p 0 0)))], [.cells [.sl 1 0 k2, cI i268], .row .u8 x1 false, .row .nod x200 true]⟩ (by kernel_rfl) trivial ?_
      refine bindO_e h (fun v283 hc273 h => ?_)
      obtain ⟨i271, i272⟩ := v283
      refine WO_call [.own 0, .ro 1] Try.f51 rfl rfl rfl (by kernel_rfl) Try.func51 rfl (by kernel_rfl) (spec_someValue_ok x1 k2 i268 i271 i272 hc273) (And.intro (trivial) (And.intro (And.intro rfl rfl) (trivial))) rfl ?_
      refine WO_sub [0, 1, 2] [0, 3, 4, 20, 24, 26, 28] (st' := ⟨[(0, .one (.e (.p 0 0))), (3, .one (.e (.sl 2 0 x200.length))), (4, I i201), (20, .one (.e (.sl 2 0 x200.length))), (24, I i266), (26, S s269), (28, I i272)], [.cells [.sl 1 0 k2, cI i271], .row .u8 x1 false, .row .nod x200 true]⟩) (by kernel_rfl) ?_
      refine bindO_e h (fun v282 hc277 h => ?_)
      obtain ⟨x274, i275, b276⟩ := v282
      refine WO_call [.ro 2] Try.f59 rfl rfl rfl (by kernel_rfl) Try.func59 rfl (by kernel_rfl) (spec_AddNode_ok n x200 i266 s269 i272 x274 i275 b276 hc277) (And.intro (And.intro rfl rfl) (trivial)) rfl ?_
      refine WO_step 7 [0, 1, 2, 3] [0, 3, 4, 5, 7] True ⟨[(0, .one (.e (.p 0 0))), (3, .one (.e (.sl 2 0 x200.length))), (4, I i201), (5, .one (.e (.sl 3 0 x274.length))), (7, B b276)], [.cells [.sl 1 0 k2, cI i271], .row .u8 x1 false, .row .nod x200 true, .row .nod x274 true]⟩ (by kernel_rfl) trivial ?_
      refine WO_nil rfl ?_
      refine thenS_n ?_
      refine W_seq ?_
      refine W_region ?_
      refine WO_step 1 [0, 1, 2, 3] [0, 3, 4, 5, 33] True ⟨[(0, .one (.e (.p 0 0))), (3, .one (.e (.sl 2 0 x200.length))), (4, I i201), (5, .one (.e (.sl 3 0 x274.length))), (33, B b276)], [.cells [.sl 1 0 k2, cI i271], .row .u8 x1 false, .row .nod x200 true, .row .nod x274 true]⟩ (by kernel_rfl) trivial ?_
      refine WO_nil rfl ?_
      refine thenS_n ?_
      refine bindO_e h (fun x279 hx279 h => ?_)
      refine W_cut (Q' := fun (e : Exit) (s : St) => e = .normal ∧ s = ⟨[(0, .one (.e (.p 0 0))), (3, .one (.e (.sl 2 0 x279.length))), (4, I i201)], [.cells [.sl 1 0 k2, cI i271], .row .u8 x1 false, .row .nod x279 true]⟩) ?_ ?_
      · refine iteO_e hx279 (fun hb281 hx279 => W_true rfl hb281 ?_) (fun hb281 hx279 => W_false rfl hb281 ?_)
        · refine W_region ?_
          refine WO_step 2 [0, 1, 3] [0, 3, 4] True ⟨[(0, .one (.e (.p 0 0))), (3, .one (.e (.sl 2 0 x274.length))), (4, I i201)], [.cells [.sl 1 0 k2, cI i271], .row .u8 x1 false, .row .nod x274 true]⟩ (by kernel_rfl) trivial ?_
          refine WO_nil rfl ?_
          cases hx279
          exact And.intro rfl rfl
        · refine W_sub [0, 1, 2] [0, 3, 4] (st' := ⟨[(0, .one (.e (.p 0 0))), (3, .one (.e (.sl 2 0 x200.length))), (4, I i201)], [.cells [.sl 1 0 k2, cI i271], .row .u8 x1 false, .row .nod x200 true]⟩) (by kernel_rfl) ?_
          refine W_skip ?_
          cases hx279
          exact And.intro rfl rfl
      · rintro _ _ ⟨rfl, rfl⟩
        refine blockS_n ?_
        refine thenS_n ?_
        refine W_region ?_
        refine WO_step 3 [0, 1, 2] [0, 3, 4] (True ∧ True) ⟨[(0, .one (.e (.p 0 0))), (3, .one (.e (.sl 2 0 x279.length))), (4, I (w64 (i201 - 1)))], [.cells [.sl 1 0 k2, cI i271], .row .u8 x1 false, .row .nod x279 true]⟩ (by kernel_rfl) ⟨trivial, trivial⟩ ?_
        refine WO_nil rfl ?_
        refine thenS_n ?_
        exact ih _ _ _ h
    · refine W_sub [0, 1, 2] [3] (st' := ⟨[(3, .one (.e (.sl 2 0 x200.length)))], [.cells [.sl 1 0 k2, cI i199], .row .u8 x1 false, .row .nod x200 true]⟩) (by kernel_rfl) ?_
      refine W_exit ?_
      refine thenS_e ?_
      refine thenS_e ?_
      cases h
      exact And.intro rfl rfl

def spec_someTree (n : Nat) (x1 : List Int) (k2 : Nat) (i3 : Int) : Option (Int × (List Nod)) :=
 bindO (spec_someValue x1 k2 i3) fun (i146, i147) =>
 bindO (spec_reader_one x1 k2 i146 [5, 8, 3, 12, 1, 0, 16]) fun (i149, i150) =>
 bindO (spec_someTree_L1 k2 x1 n i149 [(⟨(-1), [], i147⟩ : Nod)] i150) fun v285 =>
 match v285 with
 | (i243, x244) => (some (i243, x244))


theorem spec_someTree_ok (n : Nat) (x1 : List Int) (k2 : Nat) (i3 : Int) (i144 : Int) (x145 : List Nod) (h : spec_someTree n x1 k2 i3 = some (i144, x145)) : FOk EE 32 [.one (.e (.p 0 0))] [.cells [.sl 1 0 k2, cI i3], .row .u8 x1 false] (.one (.e (.sl 2 0 x145.length))) [.cells [.sl 1 0 k2, cI i144], .row .u8 x1 false, .row .nod x145 true] := by
  unfold spec_someTree at h
  refine FOk_of_W 36 2 Try.func32 rfl rfl (Nat.le_of_ble_eq_true rfl) rfl (fun w X θ => ?_)
  refine W_seq ?_
  refine W_region ?_
  refine WO_step 1 [0, 1] [0] True ⟨[(0, .one (.e (.p 0 0)))], [.cells [.sl 1 0 k2, cI i3], .row .u8 x1 false]⟩ (by kernel_rfl) trivial ?_
  refine WO_nil rfl ?_
  refine thenS_n ?_
  refine W_seq ?_
  refine W_region ?_
  refine WO_step 1 [0, 1] [0, 8] True ⟨[(0, .one (.e (.p 0 0))), (8, .one (.e (.p 0 0)))], [.cells [.sl 1 0 k2, cI i3], .row .u8 x1 false]⟩ (by kernel_rfl) trivial ?_
  refine bindO_e h (fun v287 hc148 h => ?_)
  obtain ⟨i146, i147⟩ := v287
  refine WO_call [.own 0, .ro 1] Try.f51 rfl rfl rfl (by kernel_rfl) Try.func51 rfl (by kernel_rfl) (spec_someValue_ok x1 k2 i3 i146 i147 hc148) (And.intro (trivial) (And.intro (And.intro rfl rfl) (trivial))) rfl ?_
  refine WO_step 3 [0, 1, 2] [0, 3] True ⟨[(0, .one (.e (.p 0 0))), (3, .one (.e (.sl 2 0 ([(⟨(-1), [], i147⟩ : Nod)].length))))], [.cells [.sl 1 0 k2, cI i146], .row .u8 x1 false, .row .nod [(⟨(-1), [], i147⟩ : Nod)] true]⟩ (by kernel_rfl) trivial ?_
  refine WO_nil rfl ?_
  refine thenS_n ?_
  refine W_seq ?_
  refine W_seq ?_
  refine W_region ?_
  refine WO_step 2 [0, 1, 2, 3] [0, 3, 12, 13] True ⟨[(0, .one (.e (.p 0 0))), (3, .one (.e (.sl 2 0 ([(⟨(-1), [], i147⟩ : Nod)].length)))), (12, .one (.e (.p 0 0))), (13, .one (.e (.sl 3 0 ([5, 8, 3, 12, 1, 0, 16].length))))], [.cells [.sl 1 0 k2, cI i146], .row .u8 x1 false, .row .nod [(⟨(-1), [], i147⟩ : Nod)] true, .row .int [5, 8, 3, 12, 1, 0, 16] true]⟩ (by kernel_rfl) trivial ?_
  refine bindO_e h (fun v286 hc151 h => ?_)
  obtain ⟨i149, i150⟩ := v286
  refine WO_call [.own 0, .ro 1, .ro 3] Try.f33 rfl rfl rfl (by kernel_rfl) Try.func33 rfl (by kernel_rfl) (spec_reader_one_ok x1 k2 i146 [5, 8, 3, 12, 1, 0, 16] i149 i150 hc151) (And.intro (trivial) (And.intro (And.intro rfl rfl) (And.intro (And.intro rfl rfl) (trivial)))) rfl ?_
  refine WO_step 1 [0, 1, 2] [0, 3, 4] True ⟨[(0, .one (.e (.p 0 0))), (3, .one (.e (.sl 2 0 ([(⟨(-1), [], i147⟩ : Nod)].length)))), (4, I i150)], [.cells [.sl 1 0 k2, cI i149], .row .u8 x1 false, .row .nod [(⟨(-1), [], i147⟩ : Nod)] true]⟩ (by kernel_rfl) trivial ?_
  refine WO_nil rfl ?_
  refine thenS_n ?_
  refine W_block ?_
  refine W_loop ?_
  refine bindO_e h (fun v285 hv285 h => ?_)
  refine WL_cut (spec_someTree_L1_ok w X θ k2 x1 v285 n i149 [(⟨(-1), [], i147⟩ : Nod)] i150 hv285) ?_
  obtain ⟨i243, x244⟩ := v285
  rintro _ _ ⟨rfl, rfl⟩
  refine blockS_y ?_
  refine thenS_n ?_
  refine W_seq ?_
  refine W_region ?_
  refine WO_step 2 [0, 1, 2] [2] True ⟨[(2, .one (.e (.sl 2 0 x244.length)))], [.cells [.sl 1 0 k2, cI i243], .row .u8 x1 false, .row .nod x244 true]⟩ (by kernel_rfl) trivial ?_
  refine WO_nil rfl ?_
  refine thenS_n ?_
  refine W_ret ?_
  cases h
  exact ⟨[0, 1, 2], True, by kernel_rfl, trivial⟩

/- spec.anyTree -/
def spec_anyTree_L1 (k2 : Nat) (i132 : Int) (x1 : List Int) : Nat → (List Nod) → Option ((List Nod))
| 0, _ => none
| n + 1, x405 =>
 iteO (decide (((x405.length : Nat) : Int) < 13))
 (guardO (0 = 0 ∧ x405.length = x405.length ∧ x405.length + (([(⟨0, [113], 0⟩ : Nod)].drop 0).take ([(⟨0, [113], 0⟩ : Nod)].length)).length ≤ 1099511627776) <|
 spec_anyTree_L1 k2 i132 x1 n (x405 ++ (([(⟨0, [113], 0⟩ : Nod)].drop 0).take ([(⟨0, [113], 0⟩ : Nod)].length))))
 (some x405)

theorem spec_anyTree_L1_ok (w : World) (X : Nat → Prop) (θ : List Loc) (k2 : Nat) (i132 : Int) (x1 : List Int) (x411 : (List Nod)) : ∀ (n : Nat) (x405 : List Nod), spec_anyTree_L1 k2 i132 x1 n x405 = some x411 → WL EE ⟨w, X, θ, 54, 2⟩ (subC [1, 1, 1, 0, 1, 4, 1, 3, 1, 3, 1, 3, 1, 3, 1, 2, 4, 4] (bodyC Try.f30)) (fun (e : Exit) (s : St) => e = .exit 1 ∧ s = ⟨[(3, .one (.e (.sl 2 0 x411.length)))], [.cells [.sl 1 0 k2, cI (w64 ((w64 (i132 + 1)) + 1))], .row .u8 x1 false, .row .nod x411 true]⟩) ⟨[(3, .one (.e (.sl 2 0 x405.length)))], [.cells [.sl 1 0 k2, cI (w64 ((w64 (i132 + 1)) + 1))], .row .u8 x1 false, .row .nod x405 true]⟩ := by
  intro n
  induction n with
  | zero => intro _ h; exact none_e h
  | succ n ih =>
    intro x405 h
    rw [spec_anyTree_L1] at h
    refine WL_round ?_
    refine W_seq ?_
    refine W_seq ?_
    refine W_region ?_
    refine WO_step 3 [0, 1, 2] [3, 48] (True ∧ (True ∧ True)) ⟨[(3, .one (.e (.sl 2 0 x405.length))), (48, B (decide (((x405.length : Nat) : Int) < 13)))], [.cells [.sl 1 0 k2, cI (w64 ((w64 (i132 + 1)) + 1))], .row .u8 x1 false, .row .nod x405 true]⟩ (by kernel_rfl) ⟨trivial, trivial, trivial⟩ ?_
    refine WO_nil rfl ?_
    refine thenS_n ?_
    refine iteO_e h (fun hb414 h => W_true rfl hb414 ?_) (fun hb414 h => W_false rfl hb414 ?_)
    · refine W_sub [0, 1, 2] [3] (st' := ⟨[(3, .one (.e (.sl 2 0 x405.length)))], [.cells [.sl 1 0 k2, cI (w64 ((w64 (i132 + 1)) + 1))], .row .u8 x1 false, .row .nod x405 true]⟩) (by kernel_rfl) ?_
      refine W_skip ?_
      refine thenS_n ?_
      refine W_block ?_
      refine W_region ?_
      refine guardO_e h (fun hg416 h => ?_)
      refine WO_step 5 [0, 1, 4] [3] ((0 = 0 ∧ x405.length = x405.length ∧ x405.length + (([(⟨0, [113], 0⟩ : Nod)].drop 0).take ([(⟨0, [113], 0⟩ : Nod)].length)).length ≤ 1099511627776) ∧ True) ⟨[(3, .one (.e (.sl 2 0 ((x405 ++ (([(⟨0, [113], 0⟩ : Nod)].drop 0).take ([(⟨0, [113], 0⟩ : Nod)].length))).length))))], [.cells [.sl 1 0 k2, cI (w64 ((w64 (i132 + 1)) + 1))], .row .u8 x1 false, .row .nod (x405 ++ (([(⟨0, [113], 0⟩ : Nod)].drop 0).take ([(⟨0, [113], 0⟩ : Nod)].length))) true]⟩ (by kernel_rfl) ⟨hg416, trivial⟩ ?_
      refine WO_nil rfl ?_
      refine blockS_n ?_
      refine thenS_n ?_
      exact ih _ h
    · refine W_sub [0, 1, 2] [3] (st' := ⟨[(3, .one (.e (.sl 2 0 x405.length)))], [.cells [.sl 1 0 k2, cI (w64 ((w64 (i132 + 1)) + 1))], .row .u8 x1 false, .row .nod x405 true]⟩) (by kernel_rfl) ?_
      refine W_exit ?_
      refine thenS_e ?_
      refine thenS_e ?_
      cases h
      exact And.intro rfl rfl

def spec_anyTree (n : Nat) (x1 : List Int) (k2 : Nat) (i3 : Int) : Option (Int × (List Nod) × Nat × Nat) :=
 bindO (spec_someTree n x1 k2 i3) fun (i132, x133) =>
 bindO (spec_reader_pick x1 k2 i132 ((x133.length : Nat) : Int)) fun i135 =>
 bindO (spec_reader_pick x1 k2 (w64 (i132 + 1)) 30) fun i137 =>
 bindO (iteO (decide (i137 = 0))
 (bindO (spec_reader_pick x1 k2 (w64 ((w64 (i132 + 1)) + 1)) 6) fun i252 =>
 guardO (0 ≤ i135 ∧ i135 < ((x133.length : Nat) : Int)) <|
 some ((w64 ((w64 ((w64 (i132 + 1)) + 1)) + 1)), (x133.set i135.toNat (⟨(w64 (i252 - 1)), (x133.getD i135.toNat dnod).name, (x133.getD i135.toNat dnod).value⟩ : Nod)), 0, (x133.set i135.toNat (⟨(w64 (i252 - 1)), (x133.getD i135.toNat dnod).name, (x133.getD i135.toNat dnod).value⟩ : Nod)).length))
 (bindO (iteO (decide (i137 = 1))
 (bindO (spec_reader_of x1 k2 (w64 ((w64 (i132 + 1)) + 1)) [[], [65], [97, 98, 99, 100, 101], [97]]) fun (i303, s304) =>
 guardO (0 ≤ i135 ∧ i135 < ((x133.length : Nat) : Int)) <|
 some (i303, (x133.set i135.toNat (⟨(x133.getD i135.toNat dnod).parent, s304, (x133.getD i135.toNat dnod).value⟩ : Nod)), 0, (x133.set i135.toNat (⟨(x133.getD i135.toNat dnod).parent, s304, (x133.getD i135.toNat dnod).value⟩ : Nod)).length))
 (bindO (iteO (decide (i137 = 2))
 (bindO (spec_reader_one x1 k2 (w64 ((w64 (i132 + 1)) + 1)) [1001, (-1001)]) fun (i345, i346) =>
 guardO (0 ≤ i135 ∧ i135 < ((x133.length : Nat) : Int)) <|
 some (i345, (x133.set i135.toNat (⟨(x133.getD i135.toNat dnod).parent, (x133.getD i135.toNat dnod).name, i346⟩ : Nod)), 0, (x133.set i135.toNat (⟨(x133.getD i135.toNat dnod).parent, (x133.getD i135.toNat dnod).name, i346⟩ : Nod)).length))
 (bindO (iteO (decide (i137 = 3))
 (guardO (0 ≤ (1 : Int) ∧ (1 : Int) ≤ ((x133.length : Nat) : Int)) <|
 some (x133, 1, (x133.length - 1)))
 (bindO (iteO (decide (i137 = 4))
 (bindO (spec_anyTree_L1 k2 i132 x1 n x133) fun x411 =>
 some x411)
 (some x133)) fun x394 =>
 some (x394, 0, x394.length))) fun v374 =>
 match v374 with
 | (x371, k372, k373) => (some ((w64 ((w64 (i132 + 1)) + 1)), x371, k372, k373))
)) fun v343 =>
 match v343 with
 | (i339, x340, k341, k342) => (some (i339, x340, k341, k342))
)) fun v301 =>
 match v301 with
 | (i297, x298, k299, k300) => (some (i297, x298, k299, k300))
)) fun v250 =>
 match v250 with
 | (i246, x247, k248, k249) => (some (i246, x247, k248, k249))


theorem spec_anyTree_ok (n : Nat) (x1 : List Int) (k2 : Nat) (i3 : Int) (i128 : Int) (x129 : List Nod) (k130 : Nat) (k131 : Nat) (h : spec_anyTree n x1 k2 i3 = some (i128, x129, k130, k131)) : FOk EE 30 [.one (.e (.p 0 0))] [.cells [.sl 1 0 k2, cI i3], .row .u8 x1 false] (.one (.e (.sl 2 k130 k131))) [.cells [.sl 1 0 k2, cI i128], .row .u8 x1 false, .row .nod x129 true] := by
  unfold spec_anyTree at h
  refine FOk_of_W 54 2 Try.func30 rfl rfl (Nat.le_of_ble_eq_true rfl) rfl (fun w X θ => ?_)
  refine W_seq ?_
  refine W_region ?_
  refine WO_step 1 [0, 1] [0] True ⟨[(0, .one (.e (.p 0 0)))], [.cells [.sl 1 0 k2, cI i3], .row .u8 x1 false]⟩ (by kernel_rfl) trivial ?_
  refine WO_nil rfl ?_
  refine thenS_n ?_
  refine W_seq ?_
  refine W_region ?_
  refine WO_step 1 [0, 1] [0, 5] True ⟨[(0, .one (.e (.p 0 0))), (5, .one (.e (.p 0 0)))], [.cells [.sl 1 0 k2, cI i3], .row .u8 x1 false]⟩ (by kernel_rfl) trivial ?_
  refine bindO_e h (fun v418 hc134 h => ?_)
  obtain ⟨i132, x133⟩ := v418
  refine WO_call [.own 0, .ro 1] Try.f32 rfl rfl rfl (by kernel_rfl) Try.func32 rfl (by kernel_rfl) (spec_someTree_ok n x1 k2 i3 i132 x133 hc134) (And.intro (trivial) (And.intro (And.intro rfl rfl) (trivial))) rfl ?_
  refine WO_step 1 [0, 1, 2] [0, 3] True ⟨[(0, .one (.e (.p 0 0))), (3, .one (.e (.sl 2 0 x133.length)))], [.cells [.sl 1 0 k2, cI i132], .row .u8 x1 false, .row .nod x133 true]⟩ (by kernel_rfl) trivial ?_
  refine WO_nil rfl ?_
  refine thenS_n ?_
  refine W_seq ?_
  refine W_region ?_
  refine WO_step 3 [0, 1, 2] [0, 3, 7, 9] (True ∧ True) ⟨[(0, .one (.e (.p 0 0))), (3, .one (.e (.sl 2 0 x133.length))), (7, .one (.e (.p 0 0))), (9, I ((x133.length : Nat) : Int))], [.cells [.sl 1 0 k2, cI i132], .row .u8 x1 false, .row .nod x133 true]⟩ (by kernel_rfl) ⟨trivial, trivial⟩ ?_
  refine bindO_e h (fun i135 hc136 h => ?_)
  refine WO_call [.own 0, .ro 1] Try.f31 rfl rfl rfl (by kernel_rfl) Try.func31 rfl (by kernel_rfl) (spec_reader_pick_ok x1 k2 i132 ((x133.length : Nat) : Int) i135 hc136) (And.intro (trivial) (And.intro (And.intro rfl rfl) (trivial))) rfl ?_
  refine WO_step 1 [0, 1, 2] [0, 3, 4] True ⟨[(0, .one (.e (.p 0 0))), (3, .one (.e (.sl 2 0 x133.length))), (4, I i135)], [.cells [.sl 1 0 k2, cI (w64 (i132 + 1))], .row .u8 x1 false, .row .nod x133 true]⟩ (by kernel_rfl) trivial ?_
  refine WO_nil rfl ?_
  refine thenS_n ?_
  refine W_seq ?_
  refine W_seq ?_
  refine W_region ?_
  refine WO_step 1 [0, 1, 2] [0, 3, 4, 11] True ⟨[(0, .one (.e (.p 0 0))), (3, .one (.e (.sl 2 0 x133.length))), (4, I i135), (11, .one (.e (.p 0 0)))], [.cells [.sl 1 0 k2, cI (w64 (i132 + 1))], .row .u8 x1 false, .row .nod x133 true]⟩ (by kernel_rfl) trivial ?_
  refine bindO_e h (fun i137 hc138 h => ?_)
  refine WO_call [.own 0, .ro 1] Try.f31 rfl rfl rfl (by kernel_rfl) Try.func31 rfl (by kernel_rfl) (spec_reader_pick_ok x1 k2 (w64 (i132 + 1)) 30 i137 hc138) (And.intro (trivial) (And.intro (And.intro rfl rfl) (trivial))) rfl ?_
  refine WO_sub [0, 1, 2] [0, 3, 4, 12] (st' := ⟨[(0, .one (.e (.p 0 0))), (3, .one (.e (.sl 2 0 x133.length))), (4, I i135), (12, I i137)], [.cells [.sl 1 0 k2, cI (w64 ((w64 (i132 + 1)) + 1))], .row .u8 x1 false, .row .nod x133 true]⟩) (by kernel_rfl) ?_
  refine WO_nil rfl ?_
  refine thenS_n ?_
  refine W_block ?_
  refine W_seq ?_
  refine W_region ?_
  refine WO_step 2 [0, 1, 2] [0, 3, 4, 12, 13] (True ∧ True) ⟨[(0, .one (.e (.p 0 0))), (3, .one (.e (.sl 2 0 x133.length))), (4, I i135), (12, I i137), (13, B (decide (i137 = 0)))], [.cells [.sl 1 0 k2, cI (w64 ((w64 (i132 + 1)) + 1))], .row .u8 x1 false, .row .nod x133 true]⟩ (by kernel_rfl) ⟨trivial, trivial⟩ ?_
  refine WO_nil rfl ?_
  refine thenS_n ?_
  refine bindO_e h (fun v250 hv250 h => ?_)
  refine W_cut (Q' := fun (e : Exit) (s : St) => (match v250 with | (i246, x247, k248, k249) => e = .normal ∧ s = ⟨[(3, .one (.e (.sl 2 k248 k249)))], [.cells [.sl 1 0 k2, cI i246], .row .u8 x1 false, .row .nod x247 true]⟩ : Prop)) ?_ ?_
  · refine iteO_e hv250 (fun hb251 hv250 => W_true rfl hb251 ?_) (fun hb251 hv250 => W_false rfl hb251 ?_)
    · refine W_region ?_
      refine WO_step 3 [0, 1, 2] [3, 15, 16, 17] True ⟨[(3, .one (.e (.sl 2 0 x133.length))), (15, .one (.e (.sl 2 0 x133.length))), (16, I i135), (17, .one (.e (.p 0 0)))], [.cells [.sl 1 0 k2, cI (w64 ((w64 (i132 + 1)) + 1))], .row .u8 x1 false, .row .nod x133 true]⟩ (by kernel_rfl) trivial ?_
      refine bindO_e hv250 (fun i252 hc253 hv250 => ?_)
      refine WO_call [.own 0, .ro 1] Try.f31 rfl rfl rfl (by kernel_rfl) Try.func31 rfl (by kernel_rfl) (spec_reader_pick_ok x1 k2 (w64 ((w64 (i132 + 1)) + 1)) 6 i252 hc253) (And.intro (trivial) (And.intro (And.intro rfl rfl) (trivial))) rfl ?_
      refine guardO_e hv250 (fun hg254 hv250 => ?_)
      refine WO_step 4 [0, 1, 2] [3] (True ∧ ((0 ≤ i135 ∧ i135 < ((x133.length : Nat) : Int)) ∧ (True ∧ True))) ⟨[(3, .one (.e (.sl 2 0 x133.length)))], [.cells [.sl 1 0 k2, cI (w64 ((w64 ((w64 (i132 + 1)) + 1)) + 1))], .row .u8 x1 false, .row .nod (x133.set i135.toNat (⟨(w64 (i252 - 1)), (x133.getD i135.toNat dnod).name, (x133.getD i135.toNat dnod).value⟩ : Nod)) true]⟩ (by kernel_rfl) ⟨trivial, hg254, trivial, trivial⟩ ?_
      refine WO_eq (st' := ⟨[(3, .one (.e (.sl 2 0 ((x133.set i135.toNat (⟨(w64 (i252 - 1)), (x133.getD i135.toNat dnod).name, (x133.getD i135.toNat dnod).value⟩ : Nod)).length))))], [.cells [.sl 1 0 k2, cI (w64 ((w64 ((w64 (i132 + 1)) + 1)) + 1))], .row .u8 x1 false, .row .nod (x133.set i135.toNat (⟨(w64 (i252 - 1)), (x133.getD i135.toNat dnod).name, (x133.getD i135.toNat dnod).value⟩ : Nod)) true]⟩) (by simp only [List.length_set]) ?_
      refine WO_nil rfl ?_
      cases hv250
      exact And.intro rfl rfl
    · refine W_seq ?_
      refine W_region ?_
      refine WO_step 2 [0, 1, 2] [0, 3, 4, 12, 22] (True ∧ True) ⟨[(0, .one (.e (.p 0 0))), (3, .one (.e (.sl 2 0 x133.length))), (4, I i135), (12, I i137), (22, B (decide (i137 = 1)))], [.cells [.sl 1 0 k2, cI (w64 ((w64 (i132 + 1)) + 1))], .row .u8 x1 false, .row .nod x133 true]⟩ (by kernel_rfl) ⟨trivial, trivial⟩ ?_
      refine WO_nil rfl ?_
      refine thenS_n ?_
      refine bindO_e hv250 (fun v301 hv301 hv250 => ?_)
      refine W_cut (Q' := fun (e : Exit) (s : St) => (match v301 with | (i297, x298, k299, k300) => e = .normal ∧ s = ⟨[(3, .one (.e (.sl 2 k299 k300)))], [.cells [.sl 1 0 k2, cI i297], .row .u8 x1 false, .row .nod x298 true]⟩ : Prop)) ?_ ?_
      · refine iteO_e hv301 (fun hb302 hv301 => W_true rfl hb302 ?_) (fun hb302 hv301 => W_false rfl hb302 ?_)
        · refine W_region ?_
          refine WO_step 4 [0, 1, 2, 3] [3, 24, 25, 26, 27] True ⟨[(3, .one (.e (.sl 2 0 x133.length))), (24, .one (.e (.sl 2 0 x133.length))), (25, I i135), (26, .one (.e (.p 0 0))), (27, .one (.e (.sl 3 0 ([[], [65], [97, 98, 99, 100, 101], [97]].length))))], [.cells [.sl 1 0 k2, cI (w64 ((w64 (i132 + 1)) + 1))], .row .u8 x1 false, .row .nod x133 true, .row .str [[], [65], [97, 98, 99, 100, 101], [97]] true]⟩ (by kernel_rfl) trivial ?_
          refine bindO_e hv301 (fun v307 hc305 hv301 => ?_)
          obtain ⟨i303, s304⟩ := v307
          refine WO_call [.own 0, .ro 1, .ro 3] Try.f58 rfl rfl rfl (by kernel_rfl) Try.func58 rfl (by kernel_rfl) (spec_reader_of_ok x1 k2 (w64 ((w64 (i132 + 1)) + 1)) [[], [65], [97, 98, 99, 100, 101], [97]] i303 s304 hc305) (And.intro (trivial) (And.intro (And.intro rfl rfl) (And.intro (And.intro rfl rfl) (trivial)))) rfl ?_
          refine guardO_e hv301 (fun hg306 hv301 => ?_)
          refine WO_step 3 [0, 1, 2] [3] ((0 ≤ i135 ∧ i135 < ((x133.length : Nat) : Int)) ∧ (True ∧ True)) ⟨[(3, .one (.e (.sl 2 0 x133.length)))], [.cells [.sl 1 0 k2, cI i303], .row .u8 x1 false, .row .nod (x133.set i135.toNat (⟨(x133.getD i135.toNat dnod).parent, s304, (x133.getD i135.toNat dnod).value⟩ : Nod)) true]⟩ (by kernel_rfl) ⟨hg306, trivial, trivial⟩ ?_
          refine WO_eq (st' := ⟨[(3, .one (.e (.sl 2 0 ((x133.set i135.toNat (⟨(x133.getD i135.toNat dnod).parent, s304, (x133.getD i135.toNat dnod).value⟩ : Nod)).length))))], [.cells [.sl 1 0 k2, cI i303], .row .u8 x1 false, .row .nod (x133.set i135.toNat (⟨(x133.getD i135.toNat dnod).parent, s304, (x133.getD i135.toNat dnod).value⟩ : Nod)) true]⟩) (by simp only [List.length_set]) ?_
          refine WO_nil rfl ?_
          cases hv301
          exact And.intro rfl rfl
        · refine W_seq ?_
          refine W_region ?_
          refine WO_step 2 [0, 1, 2] [0, 3, 4, 12, 31] (True ∧ True) ⟨[(0, .one (.e (.p 0 0))), (3, .one (.e (.sl 2 0 x133.length))), (4, I i135), (12, I i137), (31, B (decide (i137 = 2)))], [.cells [.sl 1 0 k2, cI (w64 ((w64 (i132 + 1)) + 1))], .row .u8 x1 false, .row .nod x133 true]⟩ (by kernel_rfl) ⟨trivial, trivial⟩ ?_
          refine WO_nil rfl ?_
          refine thenS_n ?_
          refine bindO_e hv301 (fun v343 hv343 hv301 => ?_)
          refine W_cut (Q' := fun (e : Exit) (s : St) => (match v343 with | (i339, x340, k341, k342) => e = .normal ∧ s = ⟨[(3, .one (.e (.sl 2 k341 k342)))], [.cells [.sl 1 0 k2, cI i339], .row .u8 x1 false, .row .nod x340 true]⟩ : Prop)) ?_ ?_
          · refine iteO_e hv343 (fun hb344 hv343 => W_true rfl hb344 ?_) (fun hb344 hv343 => W_false rfl hb344 ?_)
            · refine W_region ?_
              refine WO_step 4 [0, 1, 2, 3] [3, 33, 34, 35, 36] True ⟨[(3, .one (.e (.sl 2 0 x133.length))), (33, .one (.e (.sl 2 0 x133.length))), (34, I i135), (35, .one (.e (.p 0 0))), (36, .one (.e (.sl 3 0 ([1001, (-1001)].length))))], [.cells [.sl 1 0 k2, cI (w64 ((w64 (i132 + 1)) + 1))], .row .u8 x1 false, .row .nod x133 true, .row .int [1001, (-1001)] true]⟩ (by kernel_rfl) trivial ?_
              refine bindO_e hv343 (fun v349 hc347 hv343 => ?_)
              obtain ⟨i345, i346⟩ := v349
              refine WO_call [.own 0, .ro 1, .ro 3] Try.f33 rfl rfl rfl (by kernel_rfl) Try.func33 rfl (by kernel_rfl) (spec_reader_one_ok x1 k2 (w64 ((w64 (i132 + 1)) + 1)) [1001, (-1001)] i345 i346 hc347) (And.intro (trivial) (And.intro (And.intro rfl rfl) (And.intro (And.intro rfl rfl) (trivial)))) rfl ?_
              refine guardO_e hv343 (fun hg348 hv343 => ?_)
              refine WO_step 3 [0, 1, 2] [3] ((0 ≤ i135 ∧ i135 < ((x133.length : Nat) : Int)) ∧ (True ∧ True)) ⟨[(3, .one (.e (.sl 2 0 x133.length)))], [.cells [.sl 1 0 k2, cI i345], .row .u8 x1 false, .row .nod (x133.set i135.toNat (⟨(x133.getD i135.toNat dnod).parent, (x133.getD i135.toNat dnod).name, i346⟩ : Nod)) true]⟩ (by kernel_rfl) ⟨hg348, trivial, trivial⟩ ?_
              refine WO_eq (st' := ⟨[(3, .one (.e (.sl 2 0 ((x133.set i135.toNat (⟨(x133.getD i135.toNat dnod).parent, (x133.getD i135.toNat dnod).name, i346⟩ : Nod)).length))))], [.cells [.sl 1 0 k2, cI i345], .row .u8 x1 false, .row .nod (x133.set i135.toNat (⟨(x133.getD i135.toNat dnod).parent, (x133.getD i135.toNat dnod).name, i346⟩ : Nod)) true]⟩) (by simp only [List.length_set]) ?_
              refine WO_nil rfl ?_
              cases hv343
              exact And.intro rfl rfl
            · refine W_seq ?_
              refine W_region ?_
              refine WO_step 2 [0, 1, 2] [3, 12, 40] (True ∧ True) ⟨[(3, .one (.e (.sl 2 0 x133.length))), (12, I i137), (40, B (decide (i137 = 3)))], [.cells [.sl 1 0 k2, cI (w64 ((w64 (i132 + 1)) + 1))], .row .u8 x1 false, .row .nod x133 true]⟩ (by kernel_rfl) ⟨trivial, trivial⟩ ?_
              refine WO_nil rfl ?_
              refine thenS_n ?_
              refine bindO_e hv343 (fun v374 hv374 hv343 => ?_)
              refine W_cut (Q' := fun (e : Exit) (s : St) => (match v374 with | (x371, k372, k373) => e = .normal ∧ s = ⟨[(3, .one (.e (.sl 2 k372 k373)))], [.cells [.sl 1 0 k2, cI (w64 ((w64 (i132 + 1)) + 1))], .row .u8 x1 false, .row .nod x371 true]⟩ : Prop)) ?_ ?_
              · refine iteO_e hv374 (fun hb375 hv374 => W_true rfl hb375 ?_) (fun hb375 hv374 => W_false rfl hb375 ?_)
                · refine W_region ?_
                  refine guardO_e hv374 (fun hg376 hv374 => ?_)
                  refine WO_step 3 [0, 1, 2] [3] ((0 ≤ (1 : Int) ∧ (1 : Int) ≤ ((x133.length : Nat) : Int)) ∧ True) ⟨[(3, .one (.e (.sl 2 1 (x133.length - 1))))], [.cells [.sl 1 0 k2, cI (w64 ((w64 (i132 + 1)) + 1))], .row .u8 x1 false, .row .nod x133 true]⟩ (by kernel_rfl) ⟨hg376, trivial⟩ ?_
                  refine WO_nil rfl ?_
                  cases hv374
                  exact And.intro rfl rfl
                · refine W_seq ?_
                  refine W_region ?_
                  refine WO_step 2 [0, 1, 2] [3, 44] (True ∧ True) ⟨[(3, .one (.e (.sl 2 0 x133.length))), (44, B (decide (i137 = 4)))], [.cells [.sl 1 0 k2, cI (w64 ((w64 (i132 + 1)) + 1))], .row .u8 x1 false, .row .nod x133 true]⟩ (by kernel_rfl) ⟨trivial, trivial⟩ ?_
                  refine WO_nil rfl ?_
                  refine thenS_n ?_
                  refine bindO_e hv374 (fun x394 hx394 hv374 => ?_)
                  refine W_cut (Q' := fun (e : Exit) (s : St) => e = .normal ∧ s = ⟨[(3, .one (.e (.sl 2 0 x394.length)))], [.cells [.sl 1 0 k2, cI (w64 ((w64 (i132 + 1)) + 1))], .row .u8 x1 false, .row .nod x394 true]⟩) ?_ ?_
                  · refine iteO_e hx394 (fun hb396 hx394 => W_true rfl hb396 ?_) (fun hb396 hx394 => W_false rfl hb396 ?_)
                    · refine W_block ?_
                      refine W_sub [0, 1, 2] [3] (st' := ⟨[(3, .one (.e (.sl 2 0 x133.length)))], [.cells [.sl 1 0 k2, cI (w64 ((w64 (i132 + 1)) + 1))], .row .u8 x1 false, .row .nod x133 true]⟩) (by kernel_rfl) ?_
                      refine W_loop ?_
                      refine bindO_e hx394 (fun x411 hx411 hx394 => ?_)
                      refine WL_cut (spec_anyTree_L1_ok w X θ k2 i132 x1 x411 n x133 hx411) ?_
                      rintro _ _ ⟨rfl, rfl⟩
                      refine blockS_y ?_
                      cases hx394
                      exact And.intro rfl rfl
                    · refine W_sub [0, 1, 2] [3] (st' := ⟨[(3, .one (.e (.sl 2 0 x133.length)))], [.cells [.sl 1 0 k2, cI (w64 ((w64 (i132 + 1)) + 1))], .row .u8 x1 false, .row .nod x133 true]⟩) (by kernel_rfl) ?_
                      refine W_skip ?_
                      cases hx394
                      exact And.intro rfl rfl
                  · rintro _ _ ⟨rfl, rfl⟩
                    cases hv374
                    exact And.intro rfl rfl
              · obtain ⟨x371, k372, k373⟩ := v374
                rintro _ _ ⟨rfl, rfl⟩
                cases hv343
                exact And.intro rfl rfl
          · obtain ⟨i339, x340, k341, k342⟩ := v343
            rintro _ _ ⟨rfl, rfl⟩
            cases hv301
            exact And.intro rfl rfl
      · obtain ⟨i297, x298, k299, k300⟩ := v301
        rintro _ _ ⟨rfl, rfl⟩
        cases hv250
        exact And.intro rfl rfl
  · obtain ⟨i246, x247, k248, k249⟩ := v250
    rintro _ _ ⟨rfl, rfl⟩
    refine blockS_n ?_
    refine thenS_n ?_
    refine W_seq ?_
    refine W_region ?_
    refine WO_step 2 [0, 1, 2] [2] True ⟨[(2, .one (.e (.sl 2 k248 k249)))], [.cells [.sl 1 0 k2, cI i246], .row .u8 x1 false, .row .nod x247 true]⟩ (by kernel_rfl) trivial ?_
    refine WO_nil rfl ?_
    refine thenS_n ?_
    refine W_ret ?_
    cases h
    exact ⟨[0, 1, 2], True, by kernel_rfl, trivial⟩

end Go.Proofs.Ythlfcfcfipahiaa
