import Derived.Test.YthlfcfcfipahiaaTT1
namespace Go.Proofs.Ythlfcfcfipahiaa
open Go Go.Shelf Go.Proofs
set_option linter.unusedVariables false
/- impl.walkFrom$1 -/
def impl_walkFrom_1 (i1 : Int) (i2 : Int) (x3 : List Nod) (k4 : Nat) : Option (Int) :=
 guardO (0 ≤ i1 ∧ i1 < ((k4 : Nat) : Int)) <|
 guardO (0 ≤ i2 ∧ i2 < ((k4 : Nat) : Int)) <|
 some (strings_Compare ((x3.getD i1.toNat dnod).name) ((x3.getD i2.toNat dnod).name))

theorem impl_walkFrom_1_ok (i1 : Int) (i2 : Int) (x3 : List Nod) (k4 : Nat) (i7 : Int) (h : impl_walkFrom_1 i1 i2 x3 k4 = some i7) : FOk EE 90 [I i1, I i2, .one (.e (.p 0 0))] [.cells [.sl 1 0 k4], .row .nod x3 false] (I i7) [.cells [.sl 1 0 k4], .row .nod x3 false] := by
  unfold impl_walkFrom_1 at h
  refine FOk_of_W 17 2 Try.func90 rfl rfl (Nat.le_of_ble_eq_true rfl) rfl (fun w X θ => ?_)
  refine W_seq ?_
  refine W_region ?_
  refine WO_step 1 [0, 1] [0, 1, 2] True ⟨[(0, I i1), (1, I i2), (2, .one (.e (.p 0 0)))], [.cells [.sl 1 0 k4], .row .nod x3 false]⟩ (by kernel_rfl) trivial ?_
  refine WO_nil rfl ?_
  refine thenS_n ?_
  refine W_seq ?_
  refine guardO_e h (fun hg8 h => ?_)
  refine guardO_e h (fun hg9 h => ?_)
  refine W_cut (Q' := fun (e : Exit) (s : St) => e = .normal ∧ s = ⟨[(5, I (strings_Compare ((x3.getD i1.toNat dnod).name) ((x3.getD i2.toNat dnod).name)))], [.cells [.sl 1 0 k4], .row .nod x3 false]⟩) ?_ ?_
  · refine W_draw [] false (by kernel_rfl) (by kernel_rfl) ?_
    refine WD_takeK [1, 6] [2, 7, 12] [2, 7, 12] (φ := True) (ls' := #[false, true, false, false, false, false, true, false, false, false, false, false]) (Ts' := [(2, .one (.e (.p 0 0))), (7, I i1), (12, I i2)]) (st' := ⟨[(2, .one (.e (.p 0 0))), (7, I i1), (12, I i2)], [.cells [.sl 1 0 k4], .row .nod x3 false]⟩) (n2 := 10) (by kernel_rfl) trivial rfl ?_
    refine WD_all [0, 5] (n := 9) (by kernel_rfl) rfl (And.intro ?_ (?_))
    · refine WM_op (φ := True) (v := .one (.e (.sl 1 0 k4))) (H' := [.cells [.sl 1 0 k4], .row .nod x3 false]) rfl rfl (by kernel_rfl) trivial rfl (And.intro (And.intro rfl rfl) (And.intro rfl (trivial))) ?_
      refine WD_all [2, 5] (n := 8) (by kernel_rfl) rfl (And.intro ?_ (?_))
      · refine WM_op (φ := 0 ≤ i1 ∧ i1 < ((k4 : Nat) : Int)) (v := .one (.e (.rp 1 i1.toNat 0))) (H' := [.cells [.sl 1 0 k4], .row .nod x3 false]) rfl rfl (by kernel_rfl) hg8 rfl (And.intro (And.intro rfl rfl) (And.intro rfl (trivial))) ?_
        refine WD_all [3, 5] (n := 7) (by kernel_rfl) rfl (And.intro ?_ (?_))
        · refine WM_op (φ := True) (v := .one (.e (.rp 1 i1.toNat 1))) (H' := [.cells [.sl 1 0 k4], .row .nod x3 false]) rfl rfl (by kernel_rfl) trivial rfl (And.intro (And.intro rfl rfl) (And.intro rfl (trivial))) ?_
          refine WD_all [4, 5] (n := 6) (by kernel_rfl) rfl (And.intro ?_ (?_))
          · refine WM_op (φ := True) (v := S ((x3.getD i1.toNat dnod).name)) (H' := [.cells [.sl 1 0 k4], .row .nod x3 false]) rfl rfl (by kernel_rfl) trivial rfl (And.intro (And.intro rfl rfl) (And.intro rfl (trivial))) ?_
            refine WD_all [5] (n := 5) (by kernel_rfl) rfl ?_
            refine WM_op (φ := True) (v := .one (.e (.sl 1 0 k4))) (H' := [.cells [.sl 1 0 k4], .row .nod x3 false]) rfl rfl (by kernel_rfl) trivial rfl (And.intro (And.intro rfl rfl) (And.intro rfl (trivial))) ?_
            refine WD_all [7] (n := 4) (by kernel_rfl) rfl ?_
            refine WM_op (φ := 0 ≤ i2 ∧ i2 < ((k4 : Nat) : Int)) (v := .one (.e (.rp 1 i2.toNat 0))) (H' := [.cells [.sl 1 0 k4], .row .nod x3 false]) rfl rfl (by kernel_rfl) hg9 rfl (And.intro (And.intro rfl rfl) (And.intro rfl (trivial))) ?_
            refine WD_all [8] (n := 3) (by kernel_rfl) rfl ?_
            refine WM_op (φ := True) (v := .one (.e (.rp 1 i2.toNat 1))) (H' := [.cells [.sl 1 0 k4], .row .nod x3 false]) rfl rfl (by kernel_rfl) trivial rfl (And.intro (And.intro rfl rfl) (And.intro rfl (trivial))) ?_
            refine WD_all [9] (n := 2) (by kernel_rfl) rfl ?_
            refine WM_op (φ := True) (v := S ((x3.getD i2.toNat dnod).name)) (H' := [.cells [.sl 1 0 k4], .row .nod x3 false]) rfl rfl (by kernel_rfl) trivial rfl (And.intro (And.intro rfl rfl) (And.intro rfl (trivial))) ?_
            refine WD_all [10] (n := 1) (by kernel_rfl) rfl ?_
            refine WM_call [] Try.f91 rfl rfl (by kernel_rfl) Try.func91 rfl (by kernel_rfl) (strings_Compare_ok ((x3.getD i1.toNat dnod).name) ((x3.getD i2.toNat dnod).name)) (trivial) rfl (And.intro (And.intro rfl rfl) (And.intro rfl (trivial))) ?_
            refine WD_takeK [11] [5] [5] (φ := True) (ls' := #[true, true, true, true, true, true, true, true, true, true, true, true]) (Ts' := [(5, I (strings_Compare ((x3.getD i1.toNat dnod).name) ((x3.getD i2.toNat dnod).name)))]) (st' := ⟨[(5, I (strings_Compare ((x3.getD i1.toNat dnod).name) ((x3.getD i2.toNat dnod).name)))], [.cells [.sl 1 0 k4], .row .nod x3 false]⟩) (n2 := 0) (by kernel_rfl) trivial rfl ?_
            exact WD_done [0, 1] [5] (st' := ⟨[(5, I (strings_Compare ((x3.getD i1.toNat dnod).name) ((x3.getD i2.toNat dnod).name)))], [.cells [.sl 1 0 k4], .row .nod x3 false]⟩) (by kernel_rfl) (by kernel_rfl) (And.intro rfl rfl)
          · refine WM_op (φ := True) (v := .one (.e (.sl 1 0 k4))) (H' := [.cells [.sl 1 0 k4], .row .nod x3 false]) rfl rfl (by kernel_rfl) trivial rfl (And.intro (And.intro rfl rfl) (And.intro rfl (trivial))) ?_
            refine WD_all [4, 7] (n := 5) (by kernel_rfl) rfl (And.intro ?_ (?_))
            · refine WM_op (φ := True) (v := S ((x3.getD i1.toNat dnod).name)) (H' := [.cells [.sl 1 0 k4], .row .nod x3 false]) rfl rfl (by kernel_rfl) trivial rfl (And.intro (And.intro rfl rfl) (And.intro rfl (trivial))) ?_
              refine WD_all [7] (n := 4) (by kernel_rfl) rfl ?_
              refine WM_op (φ := 0 ≤ i2 ∧ i2 < ((k4 : Nat) : Int)) (v := .one (.e (.rp 1 i2.toNat 0))) (H' := [.cells [.sl 1 0 k4], .row .nod x3 false]) rfl rfl (by kernel_rfl) hg9 rfl (And.intro (And.intro rfl rfl) (And.intro rfl (trivial))) ?_
              refine WD_all [8] (n := 3) (by kernel_rfl) rfl ?_
              refine WM_op (φ := True) (v := .one (.e (.rp 1 i2.toNat 1))) (H' := [.cells [.sl 1 0 k4], .row .nod x3 false]) rfl rfl (by kernel_rfl) trivial rfl (And.intro (And.intro rfl rfl) (And.intro rfl (trivial))) ?_
              refine WD_all [9] (n := 2) (by kernel_rfl) rfl ?_
              refine WM_op (φ := True) (v := S ((x3.getD i2.toNat dnod).name)) (H' := [.cells [.sl 1 0 k4], .row .nod x3 false]) rfl rfl (by kernel_rfl) trivial rfl (And.intro (And.intro rfl rfl) (And.intro rfl (trivial))) ?_
              refine WD_all [10] (n := 1) (by kernel_rfl) rfl ?_
              refine WM_call [] Try.f91 rfl rfl (by kernel_rfl) Try.func91 rfl (by kernel_rfl) (strings_Compare_ok ((x3.getD i1.toNat dnod).name) ((x3.getD i2.toNat dnod).name)) (trivial) rfl (And.intro (And.intro rfl rfl) (And.intro rfl (trivial))) ?_
              refine WD_takeK [11] [5] [5] (φ := True) (ls' := #[true, true, true, true, true, true, true, true, true, true, true, true]) (Ts' := [(5, I (strings_Compare ((x3.getD i1.toNat dnod).name) ((x3.getD i2.toNat dnod).name)))]) (st' := ⟨[(5, I (strings_Compare ((x3.getD i1.toNat dnod).name) ((x3.getD i2.toNat dnod).name)))], [.cells [.sl 1 0 k4], .row .nod x3 false]⟩) (n2 := 0) (by kernel_rfl) trivial rfl ?_
              exact WD_done [0, 1] [5] (st' := ⟨[(5, I (strings_Compare ((x3.getD i1.toNat dnod).name) ((x3.getD i2.toNat dnod).name)))], [.cells [.sl 1 0 k4], .row .nod x3 false]⟩) (by kernel_rfl) (by kernel_rfl) (And.intro rfl rfl)
            · refine WM_op (φ := 0 ≤ i2 ∧ i2 < ((k4 : Nat) : Int)) (v := .one (.e (.rp 1 i2.toNat 0))) (H' := [.cells [.sl 1 0 k4], .row .nod x3 false]) rfl rfl (by kernel_rfl) hg9 rfl (And.intro (And.intro rfl rfl) (And.intro rfl (trivial))) ?_
              refine WD_all [4, 8] (n := 4) (by kernel_rfl) rfl (And.intro ?_ (?_))
              · refine WM_op (φ := True) (v := S ((x3.getD i1.toNat dnod).name)) (H' := [.cells [.sl 1 0 k4], .row .nod x3 false]) rfl rfl (by kernel_rfl) trivial rfl (And.intro (And.intro rfl rfl) (And.intro rfl (trivial))) ?_
                refine WD_all [8] (n := 3) (by kernel_rfl) rfl ?_
                refine WM_op (φ := True) (v := .one (.e (.rp 1 i2.toNat 1))) (H' := [.cells [.sl 1 0 k4], .row .nod x3 false]) rfl rfl (by kernel_rfl) trivial rfl (And.intro (And.intro rfl rfl) (And.intro rfl (trivial))) ?_
                refine WD_all [9] (n := 2) (by kernel_rfl) rfl ?_
                refine WM_op (φ := True) (v := S ((x3.getD i2.toNat dnod).name)) (H' := [.cells [.sl 1 0 k4], .row .nod x3 false]) rfl rfl (by kernel_rfl) trivial rfl (And.intro (And.intro rfl rfl) (And.intro rfl (trivial))) ?_
                refine WD_all [10] (n := 1) (by kernel_rfl) rfl ?_
                refine WM_call [] Try.f91 rfl rfl (by kernel_rfl) Try.func91 rfl (by kernel_rfl) (strings_Compare_ok ((x3.getD i1.toNat dnod).name) ((x3.getD i2.toNat dnod).name)) (trivial) rfl (And.intro (And.intro rfl rfl) (And.intro rfl (trivial))) ?_
                refine WD_takeK [11] [5] [5] (φ := True) (ls' := #[true, true, true, true, true, true, true, true, true, true, true, true]) (Ts' := [(5, I (strings_Compare ((x3.getD i1.toNat dnod).name) ((x3.getD i2.toNat dnod).name)))]) (st' := ⟨[(5, I (strings_Compare ((x3.getD i1.toNat dnod).name) ((x3.getD i2.toNat dnod).name)))], [.cells [.sl 1 0 k4], .row .nod x3 false]⟩) (n2 := 0) (by kernel_rfl) trivial rfl ?_
                exact WD_done [0, 1] [5] (st' := ⟨[(5, I (strings_Compare ((x3.getD i1.toNat dnod).name) ((x3.getD i2.toNat dnod).name)))], [.cells [.sl 1 0 k4], .row .nod x3 false]⟩) (by kernel_rfl) (by kernel_rfl) (And.intro rfl rfl)
              · refine WM_op (φ := True) (v := .one (.e (.rp 1 i2.toNat 1))) (H' := [.cells [.sl 1 0 k4], .row .nod x3 false]) rfl rfl (by kernel_rfl) trivial rfl (And.intro (And.intro rfl rfl) (And.intro rfl (trivial))) ?_
                refine WD_all [4, 9] (n := 3) (by kernel_rfl) rfl (And.intro ?_ (?_))
                · refine WM_op (φ := True) (v := S ((x3.getD i1.toNat dnod).name)) (H' := [.cells [.sl 1 0 k4], .row .nod x3 false]) rfl rfl (by kernel_rfl) trivial rfl (And.intro (And.intro rfl rfl) (And.intro rfl (trivial))) ?_
                  refine WD_all [9] (n := 2) (by kernel_rfl) rfl ?_
                  refine WM_op (φ := True) (v := S ((x3.getD i2.toNat dnod).name)) (H' := [.cells [.sl 1 0 k4], .row .nod x3 false]) rfl rfl (by kernel_rfl) trivial rfl (And.intro (And.intro rfl rfl) (And.intro rfl (trivial))) ?_
                  refine WD_all [10] (n := 1) (by kernel_rfl) rfl ?_
                  refine WM_call [] Try.f91 rfl rfl (by kernel_rfl) Try.func91 rfl (by kernel_rfl) (strings_Compare_ok ((x3.getD i1.toNat dnod).name) ((x3.getD i2.toNat dnod).name)) (trivial) rfl (And.intro (And.intro rfl rfl) (And.intro rfl (trivial))) ?_
                  refine WD_takeK [11] [5] [5] (φ := True) (ls' := #[true, true, true, true, true, true, true, true, true, true, true, true]) (Ts' := [(5, I (strings_Compare ((x3.getD i1.toNat dnod).name) ((x3.getD i2.toNat dnod).name)))]) (st' := ⟨[(5, I (strings_Compare ((x3.getD i1.toNat dnod).name) ((x3.getD i2.toNat dnod).name)))], [.cells [.sl 1 0 k4], .row .nod x3 false]⟩) (n2 := 0) (by kernel_rfl) trivial rfl ?_
                  exact WD_done [0, 1] [5] (st' := ⟨[(5, I (strings_Compare ((x3.getD i1.toNat dnod).name) ((x3.getD i2.toNat dnod).name)))], [.cells [.sl 1 0 k4], .row .nod x3 false]⟩) (by kernel_rfl) (by kernel_rfl) (And.intro rfl rfl)
                · refine WM_op (φ := True) (v := S ((x3.getD i2.toNat dnod).name)) (H' := [.cells [.sl 1 0 k4], .row .nod x3 false]) rfl rfl (by kernel_rfl) trivial rfl (And.intro (And.intro rfl rfl) (And.intro rfl (trivial))) ?_
                  refine WD_all [4] (n := 2) (by kernel_rfl) rfl ?_
                  refine WM_op (φ := True) (v := S ((x3.getD i1.toNat dnod).name)) (H' := [.cells [.sl 1 0 k4], .row .nod x3 false]) rfl rfl (by kernel_rfl) trivial rfl (And.intro (And.intro rfl rfl) (And.intro rfl (trivial))) ?_
                  refine WD_all [10] (n := 1) (by kernel_rfl) rfl ?_
                  refine WM_call [] Try.f91 rfl rfl (by kernel_rfl) Try.func91 rfl (by kernel_rfl) (strings_Compare_ok ((x3.getD i1.toNat dnod).name) ((x3.getD i2.toNat dnod).name)) (trivial) rfl (And.intro (And.intro rfl rfl) (And.intro rfl (trivial))) ?_
                  refine WD_takeK [11] [5] [5] (φ := True) (ls' := #[true, true, true, true, true, true, true, true, true, true, true, true]) (Ts' := [(5, I (strings_Compare ((x3.getD i1.toNat dnod).name) ((x3.getD i2.toNat dnod).name)))]) (st' := ⟨[(5, I (strings_Compare ((x3.getD i1.toNat dnod).name) ((x3.getD i2.toNat dnod).name)))], [.cells [.sl 1 0 k4], .row .nod x3 false]⟩) (n2 := 0) (by kernel_rfl) trivial rfl ?_
                  exact WD_done [0, 1] [5] (st' := ⟨[(5, I (strings_Compare ((x3.getD i1.toNat dnod).name) ((x3.getD i2.toNat dnod).name)))], [.cells [.sl 1 0 k4], .row .nod x3 false]⟩) (by kernel_rfl) (by kernel_rfl) (And.intro rfl rfl)
        · refine WM_op (φ := True) (v := .one (.e (.sl 1 0 k4))) (H' := [.cells [.sl 1 0 k4], .row .nod x3 false]) rfl rfl (by kernel_rfl) trivial rfl (And.intro (And.intro rfl rfl) (And.intro rfl (trivial))) ?_
          refine WD_all [3, 7] (n := 6) (by kernel_rfl) rfl (And.intro ?_ (?_))
          · refine WM_op (φ := True) (v := .one (.e (.rp 1 i1.toNat 1))) (H' := [.cells [.sl 1 0 k4], .row .nod x3 false]) rfl rfl (by kernel_rfl) trivial rfl (And.intro (And.intro rfl rfl) (And.intro rfl (trivial))) ?_
            refine WD_all [4, 7] (n := 5) (by kernel_rfl) rfl (And.intro ?_ (?_))
            · refine WM_op (φ := True) (v := S ((x3.getD i1.toNat dnod).name)) (H' := [.cells [.sl 1 0 k4], .row .nod x3 false]) rfl rfl (by kernel_rfl) trivial rfl (And.intro (And.intro rfl rfl) (And.intro rfl (trivial))) ?_
              refine WD_all [7] (n := 4) (by kernel_rfl) rfl ?_
              refine WM_op (φ := 0 ≤ i2 ∧ i2 < ((k4 : Nat) : Int)) (v := .one (.e (.rp 1 i2.toNat 0))) (H' := [.cells [.sl 1 0 k4], .row .nod x3 false]) rfl rfl (by kernel_rfl) hg9 rfl (And.intro (And.intro rfl rfl) (And.intro rfl (trivial))) ?_
              refine WD_all [8] (n := 3) (by kernel_rfl) rfl ?_
              refine WM_op (φ := True) (v := .one (.e (.rp 1 i2.toNat 1))) (H' := [.cells [.sl 1 0 k4], .row .nod x3 false]) rfl rfl (by kernel_rfl) trivial rfl (And.intro (And.intro rfl rfl) (And.intro rfl (trivial))) ?_
              refine WD_all [9] (n := 2) (by kernel_rfl) rfl ?_
              refine WM_op (φ := True) (v := S ((x3.getD i2.toNat dnod).name)) (H' := [.cells [.sl 1 0 k4], .row .nod x3 false]) rfl rfl (by kernel_rfl) trivial rfl (And.intro (And.intro rfl rfl) (And.intro rfl (trivial))) ?_
              refine WD_all [10] (n := 1) (by kernel_rfl) rfl ?_
              refine WM_call [] Try.f91 rfl rfl (by kernel_rfl) Try.func91 rfl (by kernel_rfl) (strings_Compare_ok ((x3.getD i1.toNat dnod).name) ((x3.getD i2.toNat dnod).name)) (trivial) rfl (And.intro (And.intro rfl rfl) (And.intro rfl (trivial))) ?_
              refine WD_takeK [11] [5] [5] (φ := True) (ls' := #[true, true, true, true, true, true, true, true, true, true, true, true]) (Ts' := [(5, I (strings_Compare ((x3.getD i1.toNat dnod).name) ((x3.getD i2.toNat dnod).name)))]) (st' := ⟨[(5, I (strings_Compare ((x3.getD i1.toNat dnod).name) ((x3.getD i2.toNat dnod).name)))], [.cells [.sl 1 0 k4], .row .nod x3 false]⟩) (n2 := 0) (by kernel_rfl) trivial rfl ?_
              exact WD_done [0, 1] [5] (st' := ⟨[(5, I (strings_Compare ((x3.getD i1.toNat dnod).name) ((x3.getD i2.toNat dnod).name)))], [.cells [.sl 1 0 k4], .row .nod x3 false]⟩) (by kernel_rfl) (by kernel_rfl) (And.intro rfl rfl)
            · refine WM_op (φ := 0 ≤ i2 ∧ i2 < ((k4 : Nat) : Int)) (v := .one (.e (.rp 1 i2.toNat 0))) (H' := [.cells [.sl 1 0 k4], .row .nod x3 false]) rfl rfl (by kernel_rfl) hg9 rfl (And.intro (And.intro rfl rfl) (And.intro rfl (trivial))) ?_
              refine WD_all [4, 8] (n := 4) (by kernel_rfl) rfl (And.intro ?_ (?_))
              · refine WM_op (φ := True) (v := S ((x3.getD i1.toNat dnod).name)) (H' := [.cells [.sl 1 0 k4], .row .nod x3 false]) rfl rfl (by kernel_rfl) trivial rfl (And.intro (And.intro rfl rfl) (And.intro rfl (trivial))) ?_
                refine WD_all [8] (n := 3) (by kernel_rfl) rfl ?_
                refine WM_op (φ := True) (v := .one (.e (.rp 1 i2.toNat 1))) (H' := [.cells [.sl 1 0 k4], .row .nod x3 false]) rfl rfl (by kernel_rfl) trivial rfl (And.intro (And.intro rfl rfl) (And.intro rfl (trivial))) ?_
                refine WD_all [9] (n := 2) (by kernel_rfl) rfl ?_
                refine WM_op (φ := True) (v := S ((x3.getD i2.toNat dnod).name)) (H' := [.cells [.sl 1 0 k4], .row .nod x3 false]) rfl rfl (by kernel_rfl) trivial rfl (And.intro (And.intro rfl rfl) (And.intro rfl (trivial))) ?_
                refine WD_all [10] (n := 1) (by kernel_rfl) rfl ?_
                refine WM_call [] Try.f91 rfl rfl (by kernel_rfl) Try.func91 rfl (by kernel_rfl) (strings_Compare_ok ((x3.getD i1.toNat dnod).name) ((x3.getD i2.toNat dnod).name)) (trivial) rfl (And.intro (And.intro rfl rfl) (And.intro rfl (trivial))) ?_
                refine WD_takeK [11] [5] [5] (φ := True) (ls' := #[true, true, true, true, true, true, true, true, true, true, true, true]) (Ts' := [(5, I (strings_Compare ((x3.getD i1.toNat dnod).name) ((x3.getD i2.toNat dnod).name)))]) (st' := ⟨[(5, I (strings_Compare ((x3.getD i1.toNat dnod).name) ((x3.getD i2.toNat dnod).name)))], [.cells [.sl 1 0 k4], .row .nod x3 false]⟩) (n2 := 0) (by kernel_rfl) trivial rfl ?_
                exact WD_done [0, 1] [5] (st' := ⟨[(5, I (strings_Compare ((x3.getD i1.toNat dnod).name) ((x3.getD i2.toNat dnod).name)))], [.cells [.sl 1 0 k4], .row .nod x3 false]⟩) (by kernel_rfl) (by kernel_rfl) (And.intro rfl rfl)
              · refine WM_op (φ := True) (v := .one (.e (.rp 1 i2.toNat 1))) (H' := [.cells [.sl 1 0 k4], .row .nod x3 false]) rfl rfl (by kernel_rfl) trivial rfl (And.intro (And.intro rfl rfl) (And.intro rfl (trivial))) ?_
                refine WD_all [4, 9] (n := 3) (by kernel_rfl) rfl (And.intro ?_ (?_))
                · refine WM_op (φ := True) (v := S ((x3.getD i1.toNat dnod).name)) (H' := [.cells [.sl 1 0 k4], .row .nod x3 false]) rfl rfl (by kernel_rfl) trivial rfl (And.intro (And.intro rfl rfl) (And.intro rfl (trivial))) ?_
                  refine WD_all [9] (n := 2) (by kernel_rfl) rfl ?_
                  refine WM_op (φ := True) (v := S ((x3.getD i2.toNat dnod).name)) (H' := [.cells [.sl 1 0 k4], .row .nod x3 false]) rfl rfl (by kernel_rfl) trivial rfl (And.intro (And.intro rfl rfl) (And.intro rfl (trivial))) ?_
                  refine WD_all [10] (n := 1) (by kernel_rfl) rfl ?_
                  refine WM_call [] Try.f91 rfl rfl (by kernel_rfl) Try.func91 rfl (by kernel_rfl) (strings_Compare_ok ((x3.getD i1.toNat dnod).name) ((x3.getD i2.toNat dnod).name)) (trivial) rfl (And.intro (And.intro rfl rfl) (And.intro rfl (trivial))) ?_
                  refine WD_takeK [11] [5] [5] (φ := True) (ls' := #[true, true, true, true, true, true, true, true, true, true, true, true]) (Ts' := [(5, I (strings_Compare ((x3.getD i1.toNat dnod).name) ((x3.getD i2.toNat dnod).name)))]) (st' := ⟨[(5, I (strings_Compare ((x3.getD i1.toNat dnod).name) ((x3.getD i2.toNat dnod).name)))], [.cells [.sl 1 0 k4], .row .nod x3 false]⟩) (n2 := 0) (by kernel_rfl) trivial rfl ?_
                  exact WD_done [0, 1] [5] (st' := ⟨[(5, I (strings_Compare ((x3.getD i1.toNat dnod).name) ((x3.getD i2.toNat dnod).name)))], [.cells [.sl 1 0 k4], .row .nod x3 false]⟩) (by kernel_rfl) (by kernel_rfl) (And.intro rfl rfl)
                · refine WM_op (φ := True) (v := S ((x3.getD i2.toNat dnod).name)) (H' := [.cells [.sl 1 0 k4], .row .nod x3 false]) rfl rfl (by kernel_rfl) trivial rfl (And.intro (And.intro rfl rfl) (And.intro rfl (trivial))) ?_
                  refine WD_all [4] (n := 2) (by kernel_rfl) rfl ?_
                  refine WM_op (φ := True) (v := S ((x3.getD i1.toNat dnod).name)) (H' := [.cells [.sl 1 0 k4], .row .nod x3 false]) rfl rfl (by kernel_rfl) trivial rfl (And.intro (And.intro rfl rfl) (And.intro rfl (trivial))) ?_
                  refine WD_all [10] (n := 1) (by kernel_rfl) rfl ?_
                  refine WM_call [] Try.f91 rfl rfl (by kernel_rfl) Try.func91 rfl (by kernel_rfl) (strings_Compare_ok ((x3.getD i1.toNat dnod).name) ((x3.getD i2.toNat dnod).name)) (trivial) rfl (And.intro (And.intro rfl rfl) (And.intro rfl (trivial))) ?_
                  refine WD_takeK [11] [5] [5] (φ := True) (ls' := #[true, true, true, true, true, true, true, true, true, true, true, true]) (Ts' := [(5, I (strings_Compare ((x3.getD i1.toNat dnod).name) ((x3.getD i2.toNat dnod).name)))]) (st' := ⟨[(5, I (strings_Compare ((x3.getD i1.toNat dnod).name) ((x3.getD i2.toNat dnod).name)))], [.cells [.sl 1 0 k4], .row .nod x3 false]⟩) (n2 := 0) (by kernel_rfl) trivial rfl ?_
                  exact WD_done [0, 1] [5] (st' := ⟨[(5, I (strings_Compare ((x3.getD i1.toNat dnod).name) ((x3.getD i2.toNat dnod).name)))], [.cells [.sl 1 0 k4], .row .nod x3 false]⟩) (by kernel_rfl) (by kernel_rfl) (And.intro rfl rfl)
          · refine WM_op (φ := 0 ≤ i2 ∧ i2 < ((k4 : Nat) : Int)) (v := .one (.e (.rp 1 i2.toNat 0))) (H' := [.cells [.sl 1 0 k4], .row .nod x3 false]) rfl rfl (by kernel_rfl) hg9 rfl (And.intro (And.intro rfl rfl) (And.intro rfl (trivial))) ?_
            refine WD_all [3, 8] (n := 5) (by kernel_rfl) rfl (And.intro ?_ (?_))
            · refine WM_op (φ := True) (v := .one (.e (.rp 1 i1.toNat 1))) (H' := [.cells [.sl 1 0 k4], .row .nod x3 false]) rfl rfl (by kernel_rfl) trivial rfl (And.intro (And.intro rfl rfl) (And.intro rfl (trivial))) ?_
              refine WD_all [4, 8] (n := 4) (by kernel_rfl) rfl (And.intro ?_ (?_))
              · refine WM_op (φ := True) (v := S ((x3.getD i1.toNat dnod).name)) (H' := [.cells [.sl 1 0 k4], .row .nod x3 false]) rfl rfl (by kernel_rfl) trivial rfl (And.intro (And.intro rfl rfl) (And.intro rfl (trivial))) ?_
                refine WD_all [8] (n := 3) (by kernel_rfl) rfl ?_
                refine WM_op (φ := True) (v := .one (.e (.rp 1 i2.toNat 1))) (H' := [.cells [.sl 1 0 k4], .row .nod x3 false]) rfl rfl (by kernel_rfl) trivial rfl (And.intro (And.intro rfl rfl) (And.intro rfl (trivial))) ?_
                refine WD_all [9] (n := 2) (by kernel_rfl) rfl ?_
                refine WM_op (φ := True) (v := S ((x3.getD i2.toNat dnod).name)) (H' := [.cells [.sl 1 0 k4], .row .nod x3 false]) rfl rfl (by kernel_rfl) trivial rfl (And.intro (And.intro rfl rfl) (And.intro rfl (trivial))) ?_
                refine WD_all [10] (n := 1) (by kernel_rfl) rfl ?_
                refine WM_call [] Try.f91 rfl rfl (by kernel_rfl) Try.func91 rfl (by kernel_rfl) (strings_Compare_ok ((x3.getD i1.toNat dnod).name) ((x3.getD i2.toNat dnod).name)) (trivial) rfl (And.intro (And.intro rfl rfl) (And.intro rfl (trivial))) ?_
                refine WD_takeK [11] [5] [5] (φ := True) (ls' := #[true, true, true, true, true, true, true, true, true, true, true, true]) (Ts' := [(5, I (strings_Compare ((x3.getD i1.toNat dnod).name) ((x3.getD i2.toNat dnod).name)))]) (st' := ⟨[(5, I (strings_Compare ((x3.getD i1.toNat dnod).name) ((x3.getD i2.toNat dnod).name)))], [.cells [.sl 1 0 k4], .row .nod x3 false]⟩) (n2 := 0) (by kernel_rfl) trivial rfl ?_
                exact WD_done [0, 1] [5] (st' := ⟨[(5, I (strings_Compare ((x3.getD i1.toNat dnod).name) ((x3.getD i2.toNat dnod).name)))], [.cells [.sl 1 0 k4], .row .nod x3 false]⟩) (by kernel_rfl) (by kernel_rfl) (And.intro rfl rfl)
              · refine WM_op (φ := True) (v := .one (.e (.rp 1 i2.toNat 1))) (H' := [.cells [.sl 1 0 k4], .row .nod x3 false]) rfl rfl (by kernel_rfl) trivial rfl (And.intro (And.intro rfl rfl) (And.intro rfl (trivial))) ?_
                refine WD_all [4, 9] (n := 3) (by kernel_rfl) rfl (And.intro ?_ (?_))
                · refine WM_op (φ := True) (v := S ((x3.getD i1.toNat dnod).name)) (H' := [.cells [.sl 1 0 k4], .row .nod x3 false]) rfl rfl (by kernel_rfl) trivial rfl (And.intro (And.intro rfl rfl) (And.intro rfl (trivial))) ?_
                  refine WD_all [9] (n := 2) (by kernel_rfl) rfl ?_
                  refine WM_op (φ := True) (v := S ((x3.getD i2.toNat dnod).name)) (H' := [.cells [.sl 1 0 k4], .row .nod x3 false]) rfl rfl (by kernel_rfl) trivial rfl (And.intro (And.intro rfl rfl) (And.intro rfl (trivial))) ?_
                  refine WD_all [10] (n := 1) (by kernel_rfl) rfl ?_
                  refine WM_call [] Try.f91 rfl rfl (by kernel_rfl) Try.func91 rfl (by kernel_rfl) (strings_Compare_ok ((x3.getD i1.toNat dnod).name) ((x3.getD i2.toNat dnod).name)) (trivial) rfl (And.intro (And.intro rfl rfl) (And.intro rfl (trivial))) ?_
                  refine WD_takeK [11] [5] [5] (φ := True) (ls' := #[true, true, true, true, true, true, true, true, true, true, true, true]) (Ts' := [(5, I (strings_Compare ((x3.getD i1.toNat dnod).name) ((x3.getD i2.toNat dnod).name)))]) (st' := ⟨[(5, I (strings_Compare ((x3.getD i1.toNat dnod).name) ((x3.getD i2.toNat dnod).name)))], [.cells [.sl 1 0 k4], .row .nod x3 false]⟩) (n2 := 0) (by kernel_rfl) trivial rfl ?_
                  exact WD_done [0, 1] [5] (st' := ⟨[(5, I (strings_Compare ((x3.getD i1.toNat dnod).name) ((x3.getD i2.toNat dnod).name)))], [.cells [.sl 1 0 k4], .row .nod x3 false]⟩) (by kernel_rfl) (by kernel_rfl) (And.intro rfl rfl)
                · refine WM_op (φ := True) (v := S ((x3.getD i2.toNat dnod).name)) (H' := [.cells [.sl 1 0 k4], .row .nod x3 false]) rfl rfl (by kernel_rfl) trivial rfl (And.intro (And.intro rfl rfl) (And.intro rfl (trivial))) ?_
                  refine WD_all [4] (n := 2) (by kernel_rfl) rfl ?_
                  refine WM_op (φ := True) (v := S ((x3.getD i1.toNat dnod).name)) (H' := [.cells [.sl 1 0 k4], .row .nod x3 false]) rfl rfl (by kernel_rfl) trivial rfl (And.intro (And.intro rfl rfl) (And.intro rfl (trivial))) ?_
                  refine WD_all [10] (n := 1) (by kernel_rfl) rfl ?_
                  refine WM_call [] Try.f91 rfl rfl (by kernel_rfl) Try.func91 rfl (by kernel_rfl) (strings_Compare_ok ((x3.getD i1.toNat dnod).name) ((x3.getD i2.toNat dnod).name)) (trivial) rfl (And.intro (And.intro rfl rfl) (And.intro rfl (trivial))) ?_
                  refine WD_takeK [11] [5] [5] (φ := True) (ls' := #[true, true, true, true, true, true, true, true, true, true, true, true]) (Ts' := [(5, I (strings_Compare ((x3.getD i1.toNat dnod).name) ((x3.getD i2.toNat dnod).name)))]) (st' := ⟨[(5, I (strings_Compare ((x3.getD i1.toNat dnod).name) ((x3.getD i2.toNat dnod).name)))], [.cells [.sl 1 0 k4], .row .nod x3 false]⟩) (n2 := 0) (by kernel_rfl) trivial rfl ?_
                  exact WD_done [0, 1] [5] (st' := ⟨[(5, I (strings_Compare ((x3.getD i1.toNat dnod).name) ((x3.getD i2.toNat dnod).name)))], [.cells [.sl 1 0 k4], .row .nod x3 false]⟩) (by kernel_rfl) (by kernel_rfl) (And.intro rfl rfl)
            · refine WM_op (φ := True) (v := .one (.e (.rp 1 i2.toNat 1))) (H' := [.cells [.sl 1 0 k4], .row .nod x3 false]) rfl rfl (by kernel_rfl) trivial rfl (And.intro (And.intro rfl rfl) (And.intro rfl (trivial))) ?_
              refine WD_all [3, 9] (n := 4) (by kernel_rfl) rfl (And.intro ?_ (?_))
              · refine WM_op (φ := True) (v := .one (.e (.rp 1 i1.toNat 1))) (H' := [.cells [.sl 1 0 k4], .row .nod x3 false]) rfl rfl (by kernel_rfl) trivial rfl (And.intro (And.intro rfl rfl) (And.intro rfl (trivial))) ?_
                refine WD_all [4, 9] (n := 3) (by kernel_rfl) rfl (And.intro ?_ (?_))
                · refine WM_op (φ := True) (v := S ((x3.getD i1.toNat dnod).name)) (H' := [.cells [.sl 1 0 k4], .row .nod x3 false]) rfl rfl (by kernel_rfl) trivial rfl (And.intro (And.intro rfl rfl) (And.intro rfl (trivial))) ?_
                  refine WD_all [9] (n := 2) (by kernel_rfl) rfl ?_
                  refine WM_op (φ := True) (v := S ((x3.getD i2.toNat dnod).name)) (H' := [.cells [.sl 1 0 k4], .row .nod x3 false]) rfl rfl (by kernel_rfl) trivial rfl (And.intro (And.intro rfl rfl) (And.intro rfl (trivial))) ?_
                  refine WD_all [10] (n := 1) (by kernel_rfl) rfl ?_
                  refine WM_call [] Try.f91 rfl rfl (by kernel_rfl) Try.func91 rfl (by kernel_rfl) (strings_Compare_ok ((x3.getD i1.toNat dnod).name) ((x3.getD i2.toNat dnod).name)) (trivial) rfl (And.intro (And.intro rfl rfl) (And.intro rfl (trivial))) ?_
                  refine WD_takeK [11] [5] [5] (φ := True) (ls' := #[true, true, true, true, true, true, true, true, true, true, true, true]) (Ts' := [(5, I (strings_Compare ((x3.getD i1.toNat dnod).name) ((x3.getD i2.toNat dnod).name)))]) (st' := ⟨[(5, I (strings_Compare ((x3.getD i1.toNat dnod).name) ((x3.getD i2.toNat dnod).name)))], [.cells [.sl 1 0 k4], .row .nod x3 false]⟩) (n2 := 0) (by kernel_rfl) trivial rfl ?_
                  exact WD_done [0, 1] [5] (st' := ⟨[(5, I (strings_Compare ((x3.getD i1.toNat dnod).name) ((x3.getD i2.toNat dnod).name)))], [.cells [.sl 1 0 k4], .row .nod x3 false]⟩) (by kernel_rfl) (by kernel_rfl) (And.intro rfl rfl)
                · refine WM_op (φ := True) (v := S ((x3.getD i2.toNat dnod).name)) (H' := [.cells [.sl 1 0 k4], .row .nod x3 false]) rfl rfl (by kernel_rfl) trivial rfl (And.intro (And.intro rfl rfl) (And.intro rfl (trivial))) ?_
                  refine WD_all [4] (n := 2) (by kernel_rfl) rfl ?_
                  refine WM_op (φ := True) (v := S ((x3.getD i1.toNat dnod).name)) (H' := [.cells [.sl 1 0 k4], .row .nod x3 false]) rfl rfl (by kernel_rfl) trivial rfl (And.intro (And.intro rfl rfl) (And.intro rfl (trivial))) ?_
                  refine WD_all [10] (n := 1) (by kernel_rfl) rfl ?_
                  refine WM_call [] Try.f91 rfl rfl (by kernel_rfl) Try.func91 rfl (by kernel_rfl) (strings_Compare_ok ((x3.getD i1.toNat dnod).name) ((x3.getD i2.toNat dnod).name)) (trivial) rfl (And.intro (And.intro rfl rfl) (And.intro rfl (trivial))) ?_
                  refine WD_takeK [11] [5] [5] (φ := True) (ls' := #[true, true, true, true, true, true, true, true, true, true, true, true]) (Ts' := [(5, I (strings_Compare ((x3.getD i1.toNat dnod).name) ((x3.getD i2.toNat dnod).name)))]) (st' := ⟨[(5, I (strings_Compare ((x3.getD i1.toNat dnod).name) ((x3.getD i2.toNat dnod).name)))], [.cells [.sl 1 0 k4], .row .nod x3 false]⟩) (n2 := 0) (by kernel_rfl) trivial rfl ?_
                  exact WD_done [0, 1] [5] (st' := ⟨[(5, I (strings_Compare ((x3.getD i1.toNat dnod).name) ((x3.getD i2.toNat dnod).name)))], [.cells [.sl 1 0 k4], .row .nod x3 false]⟩) (by kernel_rfl) (by kernel_rfl) (And.intro rfl rfl)
              · refine WM_op (φ := True) (v := S ((x3.getD i2.toNat dnod).name)) (H' := [.cells [.sl 1 0 k4], .row .nod x3 false]) rfl rfl (by kernel_rfl) trivial rfl (And.intro (And.intro rfl rfl) (And.intro rfl (trivial))) ?_
                refine WD_all [3] (n := 3) (by kernel_rfl) rfl ?_
                refine WM_op (φ := True) (v := .one (.e (.rp 1 i1.toNat 1))) (H' := [.cells [.sl 1 0 k4], .row .nod x3 false]) rfl rfl (by kernel_rfl) trivial rfl (And.intro (And.intro rfl rfl) (And.intro rfl (trivial))) ?_
                refine WD_all [4] (n := 2) (by kernel_rfl) rfl ?_
                refine WM_op (φ := True) (v := S ((x3.getD i1.toNat dnod).name)) (H' := [.cells [.sl 1 0 k4], .row .nod x3 false]) rfl rfl (by kernel_rfl) trivial rfl (And.intro (And.intro rfl rfl) (And.intro rfl (trivial))) ?_
                refine WD_all [10] (n := 1) (by kernel_rfl) rfl ?_
                refine WM_call [] Try.f91 rfl rfl (by kernel_rfl) Try.func91 rfl (by kernel_rfl) (strings_Compare_ok ((x3.getD i1.toNat dnod).name) ((x3.getD i2.toNat dnod).name)) (trivial) rfl (And.intro (And.intro rfl rfl) (And.intro rfl (trivial))) ?_
                refine WD_takeK [11] [5] [5] (φ := True) (ls' := #[true, true, true, true, true, true, true, true, true, true, true, true]) (Ts' := [(5, I (strings_Compare ((x3.getD i1.toNat dnod).name) ((x3.getD i2.toNat dnod).name)))]) (st' := ⟨[(5, I (strings_Compare ((x3.getD i1.toNat dnod).name) ((x3.getD i2.toNat dnod).name)))], [.cells [.sl 1 0 k4], .row .nod x3 false]⟩) (n2 := 0) (by kernel_rfl) trivial rfl ?_
                exact WD_done [0, 1] [5] (st' := ⟨[(5, I (strings_Compare ((x3.getD i1.toNat dnod).name) ((x3.getD i2.toNat dnod).name)))], [.cells [.sl 1 0 k4], .row .nod x3 false]⟩) (by kernel_rfl) (by kernel_rfl) (And.intro rfl rfl)
      · refine WM_op (φ := True) (v := .one (.e (.sl 1 0 k4))) (H' := [.cells [.sl 1 0 k4], .row .nod x3 false]) rfl rfl (by kernel_rfl) trivial rfl (And.intro (And.intro rfl rfl) (And.intro rfl (trivial))) ?_
        refine WD_all [2, 7] (n := 7) (by kernel_rfl) rfl (And.intro ?_ (?_))
        · refine WM_op (φ := 0 ≤ i1 ∧ i1 < ((k4 : Nat) : Int)) (v := .one (.e (.rp 1 i1.toNat 0))) (H' := [.cells [.sl 1 0 k4], .row .nod x3 false]) rfl rfl (by kernel_rfl) hg8 rfl (And.intro (And.intro rfl rfl) (And.intro rfl (trivial))) ?_
          refine WD_all [3, 7] (n := 6) (by kernel_rfl) rfl (And.intro ?_ (?_))
          · refine WM_op (φ := True) (v := .one (.e (.rp 1 i1.toNat 1))) (H' := [.cells [.sl 1 0 k4], .row .nod x3 false]) rfl rfl (by kernel_rfl) trivial rfl (And.intro (And.intro rfl rfl) (And.intro rfl (trivial))) ?_
            refine WD_all [4, 7] (n := 5) (by kernel_rfl) rfl (And.intro ?_ (?_))
            · refine WM_op (φ := True) (v := S ((x3.getD i1.toNat dnod).name)) (H' := [.cells [.sl 1 0 k4], .row .nod x3 false]) rfl rfl (by kernel_rfl) trivial rfl (And.intro (And.intro rfl rfl) (And.intro rfl (trivial))) ?_
              refine WD_all [7] (n := 4) (by kernel_rfl) rfl ?_
              refine WM_op (φ := 0 ≤ i2 ∧ i2 < ((k4 : Nat) : Int)) (v := .one (.e (.rp 1 i2.toNat 0))) (H' := [.cells [.sl 1 0 k4], .row .nod x3 false]) rfl rfl (by kernel_rfl) hg9 rfl (And.intro (And.intro rfl rfl) (And.intro rfl (trivial))) ?_
              refine WD_all [8] (n := 3) (by kernel_rfl) rfl ?_
              refine WM_op (φ := True) (v := .one (.e (.rp 1 i2.toNat 1))) (H' := [.cells [.sl 1 0 k4], .row .nod x3 false]) rfl rfl (by kernel_rfl) trivial rfl (And.intro (And.intro rfl rfl) (And.intro rfl (trivial))) ?_
              refine WD_all [9] (n := 2) (by kernel_rfl) rfl ?_
              refine WM_op (φ := True) (v := S ((x3.getD i2.toNat dnod).name)) (H' := [.cells [.sl 1 0 k4], .row .nod x3 false]) rfl rfl (by kernel_rfl) trivial rfl (And.intro (And.intro rfl rfl) (And.intro rfl (trivial))) ?_
              refine WD_all [10] (n := 1) (by kernel_rfl) rfl ?_
              refine WM_call [] Try.f91 rfl rfl (by kernel_rfl) Try.func91 rfl (by kernel_rfl) (strings_Compare_ok ((x3.getD i1.toNat dnod).name) ((x3.getD i2.toNat dnod).name)) (trivial) rfl (And.intro (And.intro rfl rfl) (And.intro rfl (trivial))) ?_
              refine WD_takeK [11] [5] [5] (φ := True) (ls' := #[true, true, true, true, true, true, true, true, true, true, true, true]) (Ts' := [(5, I (strings_Compare ((x3.getD i1.toNat dnod).name) ((x3.getD i2.toNat dnod).name)))]) (st' := ⟨[(5, I (strings_Compare ((x3.getD i1.toNat dnod).name) ((x3.getD i2.toNat dnod).name)))], [.cells [.sl 1 0 k4], .row .nod x3 false]⟩) (n2 := 0) (by kernel_rfl) trivial rfl ?_
              exact WD_done [0, 1] [5] (st' := ⟨[(5, I (strings_Compare ((x3.getD i1.toNat dnod).name) ((x3.getD i2.toNat dnod).name)))], [.cells [.sl 1 0 k4], .row .nod x3 false]⟩) (by kernel_rfl) (by kernel_rfl) (And.intro rfl rfl)
            · refine WM_op (φ := 0 ≤ i2 ∧ i2 < ((k4 : Nat) : Int)) (v := .one (.e (.rp 1 i2.toNat 0))) (H' := [.cells [.sl 1 0 k4], .row .nod x3 false]) rfl rfl (by kernel_rfl) hg9 rfl (And.intro (And.intro rfl rfl) (And.intro rfl (trivial))) ?_
              refine WD_all [4, 8] (n := 4) (by kernel_rfl) rfl (And.intro ?_ (?_))
              · refine WM_op (φ := True) (v := S ((x3.getD i1.toNat dnod).name)) (H' := [.cells [.sl 1 0 k4], .row .nod x3 false]) rfl rfl (by kernel_rfl) trivial rfl (And.intro (And.intro rfl rfl) (And.intro rfl (trivial))) ?_
                refine WD_all [8] (n := 3) (by kernel_rfl) rfl ?_
                refine WM_op (φ := True) (v := .one (.e (.rp 1 i2.toNat 1))) (H' := [.cells [.sl 1 0 k4], .row .nod x3 false]) rfl rfl (by kernel_rfl) trivial rfl (And.intro (And.intro rfl rfl) (And.intro rfl (trivial))) ?_
                refine WD_all [9] (n := 2) (by kernel_rfl) rfl ?_
                refine WM_op (φ := True) (v := S ((x3.getD i2.toNat dnod).name)) (H' := [.cells [.sl 1 0 k4], .row .nod x3 false]) rfl rfl (by kernel_rfl) trivial rfl (And.intro (And.intro rfl rfl) (And.intro rfl (trivial))) ?_
                refine WD_all [10] (n := 1) (by kernel_rfl) rfl ?_
                refine WM_call [] Try.f91 rfl rfl (by kernel_rfl) Try.func91 rfl (by kernel_rfl) (strings_Compare_ok ((x3.getD i1.toNat dnod).name) ((x3.getD i2.toNat dnod).name)) (trivial) rfl (And.intro (And.intro rfl rfl) (And.intro rfl (trivial))) ?_
                refine WD_takeK [11] [5] [5] (φ := True) (ls' := #[true, true, true, true, true, true, true, true, true, true, true, true]) (Ts' := [(5, I (strings_Compare ((x3.getD i1.toNat dnod).name) ((x3.getD i2.toNat dnod).name)))]) (st' := ⟨[(5, I (strings_Compare ((x3.getD i1.toNat dnod).name) ((x3.getD i2.toNat dnod).name)))], [.cells [.sl 1 0 k4], .row .nod x3 false]⟩) (n2 := 0) (by kernel_rfl) trivial rfl ?_
                exact WD_done [0, 1] [5] (st' := ⟨[(5, I (strings_Compare ((x3.getD i1.toNat dnod).name) ((x3.getD i2.toNat dnod).name)))], [.cells [.sl 1 0 k4], .row .nod x3 false]⟩) (by kernel_rfl) (by kernel_rfl) (And.intro rfl rfl)
              · refine WM_op (φ := True) (v := .one (.e (.rp 1 i2.toNat 1))) (H' := [.cells [.sl 1 0 k4], .row .nod x3 false]) rfl rfl (by kernel_rfl) trivial rfl (And.intro (And.intro rfl rfl) (And.intro rfl (trivial))) ?_
                refine WD_all [4, 9] (n := 3) (by kernel_rfl) rfl (And.intro ?_ (?_))
                · refine WM_op (φ := True) (v := S ((x3.getD i1.toNat dnod).name)) (H' := [.cells [.sl 1 0 k4], .row .nod x3 false]) rfl rfl (by kernel_rfl) trivial rfl (And.intro (And.intro rfl rfl) (And.intro rfl (trivial))) ?_
                  refine WD_all [9] (n := 2) (by kernel_rfl) rfl ?_
                  refine WM_op (φ := True) (v := S ((x3.getD i2.toNat dnod).name)) (H' := [.cells [.sl 1 0 k4], .row .nod x3 false]) rfl rfl (by kernel_rfl) trivial rfl (And.intro (And.intro rfl rfl) (And.intro rfl (trivial))) ?_
                  refine WD_all [10] (n := 1) (by kernel_rfl) rfl ?_
                  refine WM_call [] Try.f91 rfl rfl (by kernel_rfl) Try.func91 rfl (by kernel_rfl) (strings_Compare_ok ((x3.getD i1.toNat dnod).name) ((x3.getD i2.toNat dnod).name)) (trivial) rfl (And.intro (And.intro rfl rfl) (And.intro rfl (trivial))) ?_
                  refine WD_takeK [11] [5] [5] (φ := True) (ls' := #[true, true, true, true, true, true, true, true, true, true, true, true]) (Ts' := [(5, I (strings_Compare ((x3.getD i1.toNat dnod).name) ((x3.getD i2.toNat dnod).name)))]) (st' := ⟨[(5, I (strings_Compare ((x3.getD i1.toNat dnod).name) ((x3.getD i2.toNat dnod).name)))], [.cells [.sl 1 0 k4], .row .nod x3 false]⟩) (n2 := 0) (by kernel_rfl) trivial rfl ?_
                  exact WD_done [0, 1] [5] (st' := ⟨[(5, I (strings_Compare ((x3.getD i1.toNat dnod).name) ((x3.getD i2.toNat dnod).name)))], [.cells [.sl 1 0 k4], .row .nod x3 false]⟩) (by kernel_rfl) (by kernel_rfl) (And.intro rfl rfl)
                · refine WM_op (φ := True) (v := S ((x3.getD i2.toNat dnod).name)) (H' := [.cells [.sl 1 0 k4], .row .nod x3 false]) rfl rfl (by kernel_rfl) trivial rfl (And.intro (And.intro rfl rfl) (And.intro rfl (trivial))) ?_
                  refine WD_all [4] (n := 2) (by kernel_rfl) rfl ?_
                  refine WM_op (φ := True) (v := S ((x3.getD i1.toNat dnod).name)) (H' := [.cells [.sl 1 0 k4], .row .nod x3 false]) rfl rfl (by kernel_rfl) trivial rfl (And.intro (And.intro rfl rfl) (And.intro rfl (trivial))) ?_
                  refine WD_all [10] (n := 1) (by kernel_rfl) rfl ?_
                  refine WM_call [] Try.f91 rfl rfl (by kernel_rfl) Try.func91 rfl (by kernel_rfl) (strings_Compare_ok ((x3.getD i1.toNat dnod).name) ((x3.getD i2.toNat dnod).name)) (trivial) rfl (And.intro (And.intro rfl rfl) (And.intro rfl (trivial))) ?_
                  refine WD_takeK [11] [5] [5] (φ := True) (ls' := #[true, true, true, true, true, true, true, true, true, true, true, true]) (Ts' := [(5, I (strings_Compare ((x3.getD i1.toNat dnod).name) ((x3.getD i2.toNat dnod).name)))]) (st' := ⟨[(5, I (strings_Compare ((x3.getD i1.toNat dnod).name) ((x3.getD i2.toNat dnod).name)))], [.cells [.sl 1 0 k4], .row .nod x3 false]⟩) (n2 := 0) (by kernel_rfl) trivial rfl ?_
                  exact WD_done [0, 1] [5] (st' := ⟨[(5, I (strings_Compare ((x3.getD i1.toNat dnod).name) ((x3.getD i2.toNat dnod).name)))], [.cells [.sl 1 0 k4], .row .nod x3 false]⟩) (by kernel_rfl) (by kernel_rfl) (And.intro rfl rfl)
          · refine WM_op (φ := 0 ≤ i2 ∧ i2 < ((k4 : Nat) : Int)) (v := .one (.e (.rp 1 i2.toNat 0))) (H' := [.cells [.sl 1 0 k4], .row .nod x3 false]) rfl rfl (by kernel_rfl) hg9 rfl (And.intro (And.intro rfl rfl) (And.intro rfl (trivial))) ?_
            refine WD_all [3, 8] (n := 5) (by kernel_rfl) rfl (And.intro ?_ (?_))
            · refine WM_op (φ := True) (v := .one (.e (.rp 1 i1.toNat 1))) (H' := [.cells [.sl 1 0 k4], .row .nod x3 false]) rfl rfl (by kernel_rfl) trivial rfl (And.intro (And.intro rfl rfl) (And.intro rfl (trivial))) ?_
              refine WD_all [4, 8] (n := 4) (by kernel_rfl) rfl (And.intro ?_ (?_))
              · refine WM_op (φ := True) (v := S ((x3.getD i1.toNat dnod).name)) (H' := [.cells [.sl 1 0 k4], .row .nod x3 false]) rfl rfl (by kernel_rfl) trivial rfl (And.intro (And.intro rfl rfl) (And.intro rfl (trivial))) ?_
                refine WD_all [8] (n := 3) (by kernel_rfl) rfl ?_
                refine WM_op (φ := True) (v := .one (.e (.rp 1 i2.toNat 1))) (H' := [.cells [.sl 1 0 k4], .row .nod x3 false]) rfl rfl (by kernel_rfl) trivial rfl (And.intro (And.intro rfl rfl) (And.intro rfl (trivial))) ?_
                refine WD_all [9] (n := 2) (by kernel_rfl) rfl ?_
                refine WM_op (φ := True) (v := S ((x3.getD i2.toNat dnod).name)) (H' := [.cells [.sl 1 0 k4], .row .nod x3 false]) rfl rfl (by kernel_rfl) trivial rfl (And.intro (And.intro rfl rfl) (And.intro rfl (trivial))) ?_
                refine WD_all [10] (n := 1) (by kernel_rfl) rfl ?_
                refine WM_call [] Try.f91 rfl rfl (by kernel_rfl) Try.func91 rfl (by kernel_rfl) (strings_Compare_ok ((x3.getD i1.toNat dnod).name) ((x3.getD i2.toNat dnod).name)) (trivial) rfl (And.intro (And.intro rfl rfl) (And.intro rfl (trivial))) ?_
                refine WD_takeK [11] [5] [5] (φ := True) (ls' := #[true, true, true, true, true, true, true, true, true, true, true, true]) (Ts' := [(5, I (strings_Compare ((x3.getD i1.toNat dnod).name) ((x3.getD i2.toNat dnod).name)))]) (st' := ⟨[(5, I (strings_Compare ((x3.getD i1.toNat dnod).name) ((x3.getD i2.toNat dnod).name)))], [.cells [.sl 1 0 k4], .row .nod x3 false]⟩) (n2 := 0) (by kernel_rfl) trivial rfl ?_
                exact WD_done [0, 1] [5] (st' := ⟨[(5, I (strings_Compare ((x3.getD i1.toNat dnod).name) ((x3.getD i2.toNat dnod).name)))], [.cells [.sl 1 0 k4], .row .nod x3 false]⟩) (by kernel_rfl) (by kernel_rfl) (And.intro rfl rfl)
              · refine WM_op (φ := True) (v := .one (.e (.rp 1 i2.toNat 1))) (H' := [.cells [.sl 1 0 k4], .row .nod x3 false]) rfl rfl (by kernel_rfl) trivial rfl (And.intro (And.intro rfl rfl) (And.intro rfl (trivial))) ?_
                refine WD_all [4, 9] (n := 3) (by kernel_rfl) rfl (And.intro ?_ (?_))
                · refine WM_op (φ := True) (v := S ((x3.getD i1.toNat dnod).name)) (H' := [.cells [.sl 1 0 k4], .row .nod x3 false]) rfl rfl (by kernel_rfl) trivial rfl (And.intro (And.intro rfl rfl) (And.intro rfl (trivial))) ?_
                  refine WD_all [9] (n := 2) (by kernel_rfl) rfl ?_
                  refine WM_op (φ := True) (v := S ((x3.getD i2.toNat dnod).name)) (H' := [.cells [.sl 1 0 k4], .row .nod x3 false]) rfl rfl (by kernel_rfl) trivial rfl (And.intro (And.intro rfl rfl) (And.intro rfl (trivial))) ?_
                  refine WD_all [10] (n := 1) (by kernel_rfl) rfl ?_
                  refine WM_call [] Try.f91 rfl rfl (by kernel_rfl) Try.func91 rfl (by kernel_rfl) (strings_Compare_ok ((x3.getD i1.toNat dnod).name) ((x3.getD i2.toNat dnod).name)) (trivial) rfl (And.intro (And.intro rfl rfl) (And.intro rfl (trivial))) ?_
                  refine WD_takeK [11] [5] [5] (φ := True) (ls' := #[true, true, true, true, true, true, true, true, true, true, true, true]) (Ts' := [(5, I (strings_Compare ((x3.getD i1.toNat dnod).name) ((x3.getD i2.toNat dnod).name)))]) (st' := ⟨[(5, I (strings_Compare ((x3.getD i1.toNat dnod).name) ((x3.getD i2.toNat dnod).name)))], [.cells [.sl 1 0 k4], .row .nod x3 false]⟩) (n2 := 0) (by kernel_rfl) trivial rfl ?_
                  exact WD_done [0, 1] [5] (st' := ⟨[(5, I (strings_Compare ((x3.getD i1.toNat dnod).name) ((x3.getD i2.toNat dnod).name)))], [.cells [.sl 1 0 k4], .row .nod x3 false]⟩) (by kernel_rfl) (by kernel_rfl) (And.intro rfl rfl)
                · refine WM_op (φ := True) (v := S ((x3.getD i2.toNat dnod).name)) (H' := [.cells [.sl 1 0 k4], .row .nod x3 false]) rfl rfl (by kernel_rfl) trivial rfl (And.intro (And.intro rfl rfl) (And.intro rfl (trivial))) ?_
                  refine WD_all [4] (n := 2) (by kernel_rfl) rfl ?_
                  refine WM_op (φ := True) (v := S ((x3.getD i1.toNat dnod).name)) (H' := [.cells [.sl 1 0 k4], .row .nod x3 false]) rfl rfl (by kernel_rfl) trivial rfl (And.intro (And.intro rfl rfl) (And.intro rfl (trivial))) ?_
                  refine WD_all [10] (n := 1) (by kernel_rfl) rfl ?_
                  refine WM_call [] Try.f91 rfl rfl (by kernel_rfl) Try.func91 rfl (by kernel_rfl) (strings_Compare_ok ((x3.getD i1.toNat dnod).name) ((x3.getD i2.toNat dnod).name)) (trivial) rfl (And.intro (And.intro rfl rfl) (And.intro rfl (trivial))) ?_
                  refine WD_takeK [11] [5] [5] (φ := True) (ls' := #[true, true, true, true, true, true, true, true, true, true, true, true]) (Ts' := [(5, I (strings_Compare ((x3.getD i1.toNat dnod).name) ((x3.getD i2.toNat dnod).name)))]) (st' := ⟨[(5, I (strings_Compare ((x3.getD i1.toNat dnod).name) ((x3.getD i2.toNat dnod).name)))], [.cells [.sl 1 0 k4], .row .nod x3 false]⟩) (n2 := 0) (by kernel_rfl) trivial rfl ?_
                  exact WD_done [0, 1] [5] (st' := ⟨[(5, I (strings_Compare ((x3.getD i1.toNat dnod).name) ((x3.getD i2.toNat dnod).name)))], [.cells [.sl 1 0 k4], .row .nod x3 false]⟩) (by kernel_rfl) (by kernel_rfl) (And.intro rfl rfl)
            · refine WM_op (φ := True) (v := .one (.e (.rp 1 i2.toNat 1))) (H' := [.cells [.sl 1 0 k4], .row .nod x3 false]) rfl rfl (by kernel_rfl) trivial rfl (And.intro (And.intro rfl rfl) (And.intro rfl (trivial))) ?_
              refine WD_all [3, 9] (n := 4) (by kernel_rfl) rfl (And.intro ?_ (?_))
              · refine WM_op (φ := True) (v := .one (.e (.rp 1 i1.toNat 1))) (H' := [.cells [.sl 1 0 k4], .row .nod x3 false]) rfl rfl (by kernel_rfl) trivial rfl (And.intro (And.intro rfl rfl) (And.intro rfl (trivial))) ?_
                refine WD_all [4, 9] (n := 3) (by kernel_rfl) rfl (And.intro ?_ (?_))
                · refine WM_op (φ := True) (v := S ((x3.getD i1.toNat dnod).name)) (H' := [.cells [.sl 1 0 k4], .row .nod x3 false]) rfl rfl (by kernel_rfl) trivial rfl (And.intro (And.intro rfl rfl) (And.intro rfl (trivial))) ?_
                  refine WD_all [9] (n := 2) (by kernel_rfl) rfl ?_
                  refine WM_op (φ := True) (v := S ((x3.getD i2.toNat dnod).name)) (H' := [.cells [.sl 1 0 k4], .row .nod x3 false]) rfl rfl (by kernel_rfl) trivial rfl (And.intro (And.intro rfl rfl) (And.intro rfl (trivial))) ?_
                  refine WD_all [10] (n := 1) (by kernel_rfl) rfl ?_
                  refine WM_call [] Try.f91 rfl rfl (by kernel_rfl) Try.func91 rfl (by kernel_rfl) (strings_Compare_ok ((x3.getD i1.toNat dnod).name) ((x3.getD i2.toNat dnod).name)) (trivial) rfl (And.intro (And.intro rfl rfl) (And.intro rfl (trivial))) ?_
                  refine WD_takeK [11] [5] [5] (φ := True) (ls' := #[true, true, true, true, true, true, true, true, true, true, true, true]) (Ts' := [(5, I (strings_Compare ((x3.getD i1.toNat dnod).name) ((x3.getD i2.toNat dnod).name)))]) (st' := ⟨[(5, I (strings_Compare ((x3.getD i1.toNat dnod).name) ((x3.getD i2.toNat dnod).name)))], [.cells [.sl 1 0 k4], .row .nod x3 false]⟩) (n2 := 0) (by kernel_rfl) trivial rfl ?_
                  exact WD_done [0, 1] [5] (st' := ⟨[(5, I (strings_Compare ((x3.getD i1.toNat dnod).name) ((x3.getD i2.toNat dnod).name)))], [.cells [.sl 1 0 k4], .row .nod x3 false]⟩) (by kernel_rfl) (by kernel_rfl) (And.intro rfl rfl)
                · refine WM_op (φ := True) (v := S ((x3.getD i2.toNat dnod).name)) (H' := [.cells [.sl 1 0 k4], .row .nod x3 false]) rfl rfl (by kernel_rfl) trivial rfl (And.intro (And.intro rfl rfl) (And.intro rfl (trivial))) ?_
                  refine WD_all [4] (n := 2) (by kernel_rfl) rfl ?_
                  refine WM_op (φ := True) (v := S ((x3.getD i1.toNat dnod).name)) (H' := [.cells [.sl 1 0 k4], .row .nod x3 false]) rfl rfl (by kernel_rfl) trivial rfl (And.intro (And.intro rfl rfl) (And.intro rfl (trivial))) ?_
                  refine WD_all [10] (n := 1) (by kernel_rfl) rfl ?_
                  refine WM_call [] Try.f91 rfl rfl (by kernel_rfl) Try.func91 rfl (by kernel_rfl) (strings_Compare_ok ((x3.getD i1.toNat dnod).name) ((x3.getD i2.toNat dnod).name)) (trivial) rfl (And.intro (And.intro rfl rfl) (And.intro rfl (trivial))) ?_
                  refine WD_takeK [11] [5] [5] (φ := True) (ls' := #[true, true, true, true, true, true, true, true, true, true, true, true]) (Ts' := [(5, I (strings_Compare ((x3.getD i1.toNat dnod).name) ((x3.getD i2.toNat dnod).name)))]) (st' := ⟨[(5, I (strings_Compare ((x3.getD i1.toNat dnod).name) ((x3.getD i2.toNat dnod).name)))], [.cells [.sl 1 0 k4], .row .nod x3 false]⟩) (n2 := 0) (by kernel_rfl) trivial rfl ?_
                  exact WD_done [0, 1] [5] (st' := ⟨[(5, I (strings_Compare ((x3.getD i1.toNat dnod).name) ((x3.getD i2.toNat dnod).name)))], [.cells [.sl 1 0 k4], .row .nod x3 false]⟩) (by kernel_rfl) (by kernel_rfl) (And.intro rfl rfl)
              · refine WM_op (φ := True) (v := S ((x3.getD i2.toNat dnod).name)) (H' := [.cells [.sl 1 0 k4], .row .nod x3 false]) rfl rfl (by kernel_rfl) trivial rfl (And.intro (And.intro rfl rfl) (And.intro rfl (trivial))) ?_
                refine WD_all [3] (n := 3) (by kernel_rfl) rfl ?_
                refine WM_op (φ := True) (v := .one (.e (.rp 1 i1.toNat 1))) (H' := [.cells [.sl 1 0 k4], .row .nod x3 false]) rfl rfl (by kernel_rfl) trivial rfl (And.intro (And.intro rfl rfl) (And.intro rfl (trivial))) ?_
                refine WD_all [4] (n := 2) (by kernel_rfl) rfl ?_
                refine WM_op (φ := True) (v := S ((x3.getD i1.toNat dnod).name)) (H' := [.cells [.sl 1 0 k4], .row .nod x3 false]) rfl rfl (by kernel_rfl) trivial rfl (And.intro (And.intro rfl rfl) (And.intro rfl (trivial))) ?_
                refine WD_all [10] (n := 1) (by kernel_rfl) rfl ?_
                refine WM_call [] Try.f91 rfl rfl (by kernel_rfl) Try.func91 rfl (by kernel_rfl) (strings_Compare_ok ((x3.getD i1.toNat dnod).name) ((x3.getD i2.toNat dnod).name)) (trivial) rfl (And.intro (And.intro rfl rfl) (And.intro rfl (trivial))) ?_
                refine WD_takeK [11] [5] [5] (φ := True) (ls' := #[true, true, true, true, true, true, true, true, true, true, true, true]) (Ts' := [(5, I (strings_Compare ((x3.getD i1.toNat dnod).name) ((x3.getD i2.toNat dnod).name)))]) (st' := ⟨[(5, I (strings_Compare ((x3.getD i1.toNat dnod).name) ((x3.getD i2.toNat dnod).name)))], [.cells [.sl 1 0 k4], .row .nod x3 false]⟩) (n2 := 0) (by kernel_rfl) trivial rfl ?_
                exact WD_done [0, 1] [5] (st' := ⟨[(5, I (strings_Compare ((x3.getD i1.toNat dnod).name) ((x3.getD i2.toNat dnod).name)))], [.cells [.sl 1 0 k4], .row .nod x3 false]⟩) (by kernel_rfl) (by kernel_rfl) (And.intro rfl rfl)
        · refine WM_op (φ := 0 ≤ i2 ∧ i2 < ((k4 : Nat) : Int)) (v := .one (.e (.rp 1 i2.toNat 0))) (H' := [.cells [.sl 1 0 k4], .row .nod x3 false]) rfl rfl (by kernel_rfl) hg9 rfl (And.intro (And.intro rfl rfl) (And.intro rfl (trivial))) ?_
          refine WD_all [2, 8] (n := 6) (by kernel_rfl) rfl (And.intro ?_ (?_))
          · refine WM_op (φ := 0 ≤ i1 ∧ i1 < ((k4 : Nat) : Int)) (v := .one (.e (.rp 1 i1.toNat 0))) (H' := [.cells [.sl 1 0 k4], .row .nod x3 false]) rfl rfl (by kernel_rfl) hg8 rfl (And.intro (And.intro rfl rfl) (And.intro rfl (trivial))) ?_
            refine WD_all [3, 8] (n := 5) (by kernel_rfl) rfl (And.intro ?_ (?_))
            · refine WM_op (φ := True) (v := .one (.e (.rp 1 i1.toNat 1))) (H' := [.cells [.sl 1 0 k4], .row .nod x3 false]) rfl rfl (by kernel_rfl) trivial rfl (And.intro (And.intro rfl rfl) (And.intro rfl (trivial))) ?_
              refine WD_all [4, 8] (n := 4) (by kernel_rfl) rfl (And.intro ?_ (?_))
              · refine WM_op (φ := True) (v := S ((x3.getD i1.toNat dnod).name)) (H' := [.cells [.sl 1 0 k4], .row .nod x3 false]) rfl rfl (by kernel_rfl) trivial rfl (And.intro (And.intro rfl rfl) (And.intro rfl (trivial))) ?_
                refine WD_all [8] (n := 3) (by kernel_rfl) rfl ?_
                refine WM_op (φ := True) (v := .one (.e (.rp 1 i2.toNat 1))) (H' := [.cells [.sl 1 0 k4], .row .nod x3 false]) rfl rfl (by kernel_rfl) trivial rfl (And.intro (And.intro rfl rfl) (And.intro rfl (trivial))) ?_
                refine WD_all [9] (n := 2) (by kernel_rfl) rfl ?_
                refine WM_op (φ := True) (v := S ((x3.getD i2.toNat dnod).name)) (H' := [.cells [.sl 1 0 k4], .row .nod x3 false]) rfl rfl (by kernel_rfl) trivial rfl (And.intro (And.intro rfl rfl) (And.intro rfl (trivial))) ?_
                refine WD_all [10] (n := 1) (by kernel_rfl) rfl ?_
                refine WM_call [] Try.f91 rfl rfl (by kernel_rfl) Try.func91 rfl (by kernel_rfl) (strings_Compare_ok ((x3.getD i1.toNat dnod).name) ((x3.getD i2.toNat dnod).name)) (trivial) rfl (And.intro (And.intro rfl rfl) (And.intro rfl (trivial))) ?_
                refine WD_takeK [11] [5] [5] (φ := True) (ls' := #[true, true, true, true, true, true, true, true, true, true, true, true]) (Ts' := [(5, I (strings_Compare ((x3.getD i1.toNat dnod).name) ((x3.getD i2.toNat dnod).name)))]) (st' := ⟨[(5, I (strings_Compare ((x3.getD i1.toNat dnod).name) ((x3.getD i2.toNat dnod).name)))], [.cells [.sl 1 0 k4], .row .nod x3 false]⟩) (n2 := 0) (by kernel_rfl) trivial rfl ?_
                exact WD_done [0, 1] [5] (st' := ⟨[(5, I (strings_Compare ((x3.getD i1.toNat dnod).name) ((x3.getD i2.toNat dnod).name)))], [.cells [.sl 1 0 k4], .row .nod x3 false]⟩) (by kernel_rfl) (by kernel_rfl) (And.intro rfl rfl)
              · refine WM_op (φ := True) (v := .one (.e (.rp 1 i2.toNat 1))) (H' := [.cells [.sl 1 0 k4], .row .nod x3 false]) rfl rfl (by kernel_rfl) trivial rfl (And.intro (And.intro rfl rfl) (And.intro rfl (trivial))) ?_
                refine WD_all [4, 9] (n := 3) (by kernel_rfl) rfl (And.intro ?_ (?_))
                · refine WM_op (φ := True) (v := S ((x3.getD i1.toNat dnod).name)) (H' := [.cells [.sl 1 0 k4], .row .nod x3 false]) rfl rfl (by kernel_rfl) trivial rfl (And.intro (And.intro rfl rfl) (And.intro rfl (trivial))) ?_
                  refine WD_all [9] (n := 2) (by kernel_rfl) rfl ?_
                  refine WM_op (φ := True) (v := S ((x3.getD i2.toNat dnod).name)) (H' := [.cells [.sl 1 0 k4], .row .nod x3 false]) rfl rfl (by kernel_rfl) trivial rfl (And.intro (And.intro rfl rfl) (And.intro rfl (trivial))) ?_
                  refine WD_all [10] (n := 1) (by kernel_rfl) rfl ?_
                  refine WM_call [] Try.f91 rfl rfl (by kernel_rfl) Try.func91 rfl (by kernel_rfl) (strings_Compare_ok ((x3.getD i1.toNat dnod).name) ((x3.getD i2.toNat dnod).name)) (trivial) rfl (And.intro (And.intro rfl rfl) (And.intro rfl (trivial))) ?_
                  refine WD_takeK [11] [5] [5] (φ := True) (ls' := #[true, true, true, true, true, true, true, true, true, true, true, true]) (Ts' := [(5, I (strings_Compare ((x3.getD i1.toNat dnod).name) ((x3.getD i2.toNat dnod).name)))]) (st' := ⟨[(5, I (strings_Compare ((x3.getD i1.toNat dnod).name) ((x3.getD i2.toNat dnod).name)))], [.cells [.sl 1 0 k4], .row .nod x3 false]⟩) (n2 := 0) (by kernel_rfl) trivial rfl ?_
                  exact WD_done [0, 1] [5] (st' := ⟨[(5, I (strings_Compare ((x3.getD i1.toNat dnod).name) ((x3.getD i2.toNat dnod).name)))], [.cells [.sl 1 0 k4], .row .nod x3 false]⟩) (by kernel_rfl) (by kernel_rfl) (And.intro rfl rfl)
                · refine WM_op (φ := True) (v := S ((x3.getD i2.toNat dnod).name)) (H' := [.cells [.sl 1 0 k4], .row .nod x3 false]) rfl rfl (by kernel_rfl) trivial rfl (And.intro (And.intro rfl rfl) (And.intro rfl (trivial))) ?_
                  refine WD_all [4] (n := 2) (by kernel_rfl) rfl ?_
                  refine WM_op (φ := True) (v := S ((x3.getD i1.toNat dnod).name)) (H' := [.cells [.sl 1 0 k4], .row .nod x3 false]) rfl rfl (by kernel_rfl) trivial rfl (And.intro (And.intro rfl rfl) (And.intro rfl (trivial))) ?_
                  refine WD_all [10] (n := 1) (by kernel_rfl) rfl ?_
                  refine WM_call [] Try.f91 rfl rfl (by kernel_rfl) Try.func91 rfl (by kernel_rfl) (strings_Compare_ok ((x3.getD i1.toNat dnod).name) ((x3.getD i2.toNat dnod).name)) (trivial) rfl (And.intro (And.intro rfl rfl) (And.intro rfl (trivial))) ?_
                  refine WD_takeK [11] [5] [5] (φ := True) (ls' := #[true, true, true, true, true, true, true, true, true, true, true, true]) (Ts' := [(5, I (strings_Compare ((x3.getD i1.toNat dnod).name) ((x3.getD i2.toNat dnod).name)))]) (st' := ⟨[(5, I (strings_Compare ((x3.getD i1.toNat dnod).name) ((x3.getD i2.toNat dnod).name)))], [.cells [.sl 1 0 k4], .row .nod x3 false]⟩) (n2 := 0) (by kernel_rfl) trivial rfl ?_
                  exact WD_done [0, 1] [5] (st' := ⟨[(5, I (strings_Compare ((x3.getD i1.toNat dnod).name) ((x3.getD i2.toNat dnod).name)))], [.cells [.sl 1 0 k4], .row .nod x3 false]⟩) (by kernel_rfl) (by kernel_rfl) (And.intro rfl rfl)
            · refine WM_op (φ := True) (v := .one (.e (.rp 1 i2.toNat 1))) (H' := [.cells [.sl 1 0 k4], .row .nod x3 false]) rfl rfl (by kernel_rfl) trivial rfl (And.intro (And.intro rfl rfl) (And.intro rfl (trivial))) ?_
              refine WD_all [3, 9] (n := 4) (by kernel_rfl) rfl (And.intro ?_ (?_))
              · refine WM_op (φ := True) (v := .one (.e (.rp 1 i1.toNat 1))) (H' := [.cells [.sl 1 0 k4], .row .nod x3 false]) rfl rfl (by kernel_rfl) trivial rfl (And.intro (And.intro rfl rfl) (And.intro rfl (trivial))) ?_
                refine WD_all [4, 9] (n := 3) (by kernel_rfl) rfl (And.intro ?_ (?_))
                · refine WM_op (φ := True) (v := S ((x3.getD i1.toNat dnod).name)) (H' := [.cells [.sl 1 0 k4], .row .nod x3 false]) rfl rfl (by kernel_rfl) trivial rfl (And.intro (And.intro rfl rfl) (And.intro rfl (trivial))) ?_
                  refine WD_all [9] (n := 2) (by kernel_rfl) rfl ?_
                  refine WM_op (φ := True) (v := S ((x3.getD i2.toNat dnod).name)) (H' := [.cells [.sl 1 0 k4], .row .nod x3 false]) rfl rfl (by kernel_rfl) trivial rfl (And.intro (And.intro rfl rfl) (And.intro rfl (trivial))) ?_
                  refine WD_all [10] (n := 1) (by kernel_rfl) rfl ?_
                  refine WM_call [] Try.f91 rfl rfl (by kernel_rfl) Try.func91 rfl (by kernel_rfl) (strings_Compare_ok ((x3.getD i1.toNat dnod).name) ((x3.getD i2.toNat dnod).name)) (trivial) rfl (And.intro (And.intro rfl rfl) (And.intro rfl (trivial))) ?_
                  refine WD_takeK [11] [5] [5] (φ := True) (ls' := #[true, true, true, true, true, true, true, true, true, true, true, true]) (Ts' := [(5, I (strings_Compare ((x3.getD i1.toNat dnod).name) ((x3.getD i2.toNat dnod).name)))]) (st' := ⟨[(5, I (strings_Compare ((x3.getD i1.toNat dnod).name) ((x3.getD i2.toNat dnod).name)))], [.cells [.sl 1 0 k4], .row .nod x3 false]⟩) (n2 := 0) (by kernel_rfl) trivial rfl ?_
                  exact WD_done [0, 1] [5] (st' := ⟨[(5, I (strings_Compare ((x3.getD i1.toNat dnod).name) ((x3.getD i2.toNat dnod).name)))], [.cells [.sl 1 0 k4], .row .nod x3 false]⟩) (by kernel_rfl) (by kernel_rfl) (And.intro rfl rfl)
                · refine WM_op (φ := True) (v := S ((x3.getD i2.toNat dnod).name)) (H' := [.cells [.sl 1 0 k4], .row .nod x3 false]) rfl rfl (by kernel_rfl) trivial rfl (And.intro (And.intro rfl rfl) (And.intro rfl (trivial))) ?_
                  refine WD_all [4] (n := 2) (by kernel_rfl) rfl ?_
                  refine WM_op (φ := True) (v := S ((x3.getD i1.toNat dnod).name)) (H' := [.cells [.sl 1 0 k4], .row .nod x3 false]) rfl rfl (by kernel_rfl) trivial rfl (And.intro (And.intro rfl rfl) (And.intro rfl (trivial))) ?_
                  refine WD_all [10] (n := 1) (by kernel_rfl) rfl ?_
                  refine WM_call [] Try.f91 rfl rfl (by kernel_rfl) Try.func91 rfl (by kernel_rfl) (strings_Compare_ok ((x3.getD i1.toNat dnod).name) ((x3.getD i2.toNat dnod).name)) (trivial) rfl (And.intro (And.intro rfl rfl) (And.intro rfl (trivial))) ?_
                  refine WD_takeK [11] [5] [5] (φ := True) (ls' := #[true, true, true, true, true, true, true, true, true, true, true, true]) (Ts' := [(5, I (strings_Compare ((x3.getD i1.toNat dnod).name) ((x3.getD i2.toNat dnod).name)))]) (st' := ⟨[(5, I (strings_Compare ((x3.getD i1.toNat dnod).name) ((x3.getD i2.toNat dnod).name)))], [.cells [.sl 1 0 k4], .row .nod x3 false]⟩) (n2 := 0) (by kernel_rfl) trivial rfl ?_
                  exact WD_done [0, 1] [5] (st' := ⟨[(5, I (strings_Compare ((x3.getD i1.toNat dnod).name) ((x3.getD i2.toNat dnod).name)))], [.cells [.sl 1 0 k4], .row .nod x3 false]⟩) (by kernel_rfl) (by kernel_rfl) (And.intro rfl rfl)
              · refine WM_op (φ := True) (v := S ((x3.getD i2.toNat dnod).name)) (H' := [.cells [.sl 1 0 k4], .row .nod x3 false]) rfl rfl (by kernel_rfl) trivial rfl (And.intro (And.intro rfl rfl) (And.intro rfl (trivial))) ?_
                refine WD_all [3] (n := 3) (by kernel_rfl) rfl ?_
                refine WM_op (φ := True) (v := .one (.e (.rp 1 i1.toNat 1))) (H' := [.cells [.sl 1 0 k4], .row .nod x3 false]) rfl rfl (by kernel_rfl) trivial rfl (And.intro (And.intro rfl rfl) (And.intro rfl (trivial))) ?_
                refine WD_all [4] (n := 2) (by kernel_rfl) rfl ?_
                refine WM_op (φ := True) (v := S ((x3.getD i1.toNat dnod).name)) (H' := [.cells [.sl 1 0 k4], .row .nod x3 false]) rfl rfl (by kernel_rfl) trivial rfl (And.intro (And.intro rfl rfl) (And.intro rfl (trivial))) ?_
                refine WD_all [10] (n := 1) (by kernel_rfl) rfl ?_
                refine WM_call [] Try.f91 rfl rfl (by kernel_rfl) Try.func91 rfl (by kernel_rfl) (strings_Compare_ok ((x3.getD i1.toNat dnod).name) ((x3.getD i2.toNat dnod).name)) (trivial) rfl (And.intro (And.intro rfl rfl) (And.intro rfl (trivial))) ?_
                refine WD_takeK [11] [5] [5] (φ := True) (ls' := #[true, true, true, true, true, true, true, true, true, true, true, true]) (Ts' := [(5, I (strings_Compare ((x3.getD i1.toNat dnod).name) ((x3.getD i2.toNat dnod).name)))]) (st' := ⟨[(5, I (strings_Compare ((x3.getD i1.toNat dnod).name) ((x3.getD i2.toNat dnod).name)))], [.cells [.sl 1 0 k4], .row .nod x3 false]⟩) (n2 := 0) (by kernel_rfl) trivial rfl ?_
                exact WD_done [0, 1] [5] (st' := ⟨[(5, I (strings_Compare ((x3.getD i1.toNat dnod).name) ((x3.getD i2.toNat dnod).name)))], [.cells [.sl 1 0 k4], .row .nod x3 false]⟩) (by kernel_rfl) (by kernel_rfl) (And.intro rfl rfl)
          · refine WM_op (φ := True) (v := .one (.e (.rp 1 i2.toNat 1))) (H' := [.cells [.sl 1 0 k4], .row .nod x3 false]) rfl rfl (by kernel_rfl) trivial rfl (And.intro (And.intro rfl rfl) (And.intro rfl (trivial))) ?_
            refine WD_all [2, 9] (n := 5) (by kernel_rfl) rfl (And.intro ?_ (?_))
            · refine WM_op (φ := 0 ≤ i1 ∧ i1 < ((k4 : Nat) : Int)) (v := .one (.e (.rp 1 i1.toNat 0))) (H' := [.cells [.sl 1 0 k4], .row .nod x3 false]) rfl rfl (by kernel_rfl) hg8 rfl (And.intro (And.intro rfl rfl) (And.intro rfl (trivial))) ?_
              refine WD_all [3, 9] (n := 4) (by kernel_rfl) rfl (And.intro ?_ (?_))
              · refine WM_op (φ := True) (v := .one (.e (.rp 1 i1.toNat 1))) (H' := [.cells [.sl 1 0 k4], .row .nod x3 false]) rfl rfl (by kernel_rfl) trivial rfl (And.intro (And.intro rfl rfl) (And.intro rfl (trivial))) ?_
                refine WD_all [4, 9] (n := 3) (by kernel_rfl) rfl (And.intro ?_ (?_))
                · refine WM_op (φ := True) (v := S ((x3.getD i1.toNat dnod).name)) (H' := [.cells [.sl 1 0 k4], .row .nod x3 false]) rfl rfl (by kernel_rfl) trivial rfl (And.intro (And.intro rfl rfl) (And.intro rfl (trivial))) ?_
                  refine WD_all [9] (n := 2) (by kernel_rfl) rfl ?_
                  refine WM_op (φ := True) (v := S ((x3.getD i2.toNat dnod).name)) (H' := [.cells [.sl 1 0 k4], .row .nod x3 false]) rfl rfl (by kernel_rfl) trivial rfl (And.intro (And.intro rfl rfl) (And.intro rfl (trivial))) ?_
                  refine WD_all [10] (n := 1) (by kernel_rfl) rfl ?_
                  refine WM_call [] Try.f91 rfl rfl (by kernel_rfl) Try.func91 rfl (by kernel_rfl) (strings_Compare_ok ((x3.getD i1.toNat dnod).name) ((x3.getD i2.toNat dnod).name)) (trivial) rfl (And.intro (And.intro rfl rfl) (And.intro rfl (trivial))) ?_
                  refine WD_takeK [11] [5] [5] (φ := True) (ls' := #[true, true, true, true, true, true, true, true, true, true, true, true]) (Ts' := [(5, I (strings_Compare ((x3.getD i1.toNat dnod).name) ((x3.getD i2.toNat dnod).name)))]) (st' := ⟨[(5, I (strings_Compare ((x3.getD i1.toNat dnod).name) ((x3.getD i2.toNat dnod).name)))], [.cells [.sl 1 0 k4], .row .nod x3 false]⟩) (n2 := 0) (by kernel_rfl) trivial rfl ?_
                  exact WD_done [0, 1] [5] (st' := ⟨[(5, I (strings_Compare ((x3.getD i1.toNat dnod).name) ((x3.getD i2.toNat dnod).name)))], [.cells [.sl 1 0 k4], .row .nod x3 false]⟩) (by kernel_rfl) (by kernel_rfl) (And.intro rfl rfl)
                · refine WM_op (φ := True) (v := S ((x3.getD i2.toNat dnod).name)) (H' := [.cells [.sl 1 0 k4], .row .nod x3 false]) rfl rfl (by kernel_rfl) trivial rfl (And.intro (And.intro rfl rfl) (And.intro rfl (trivial))) ?_
                  refine WD_all [4] (n := 2) (by kernel_rfl) rfl ?_
                  refine WM_op (φ := True) (v := S ((x3.getD i1.toNat dnod).name)) (H' := [.cells [.sl 1 0 k4], .row .nod x3 false]) rfl rfl (by kernel_rfl) trivial rfl (And.intro (And.intro rfl rfl) (And.intro rfl (trivial))) ?_
                  refine WD_all [10] (n := 1) (by kernel_rfl) rfl ?_
                  refine WM_call [] Try.f91 rfl rfl (by kernel_rfl) Try.func91 rfl (by kernel_rfl) (strings_Compare_ok ((x3.getD i1.toNat dnod).name) ((x3.getD i2.toNat dnod).name)) (trivial) rfl (And.intro (And.intro rfl rfl) (And.intro rfl (trivial))) ?_
                  refine WD_takeK [11] [5] [5] (φ := True) (ls' := #[true, true, true, true, true, true, true, true, true, true, true, true]) (Ts' := [(5, I (strings_Compare ((x3.getD i1.toNat dnod).name) ((x3.getD i2.toNat dnod).name)))]) (st' := ⟨[(5, I (strings_Compare ((x3.getD i1.toNat dnod).name) ((x3.getD i2.toNat dnod).name)))], [.cells [.sl 1 0 k4], .row .nod x3 false]⟩) (n2 := 0) (by kernel_rfl) trivial rfl ?_
                  exact WD_done [0, 1] [5] (st' := ⟨[(5, I (strings_Compare ((x3.getD i1.toNat dnod).name) ((x3.getD i2.toNat dnod).name)))], [.cells [.sl 1 0 k4], .row .nod x3 false]⟩) (by kernel_rfl) (by kernel_rfl) (And.intro rfl rfl)
              · refine WM_op (φ := True) (v := S ((x3.getD i2.toNat dnod).name)) (H' := [.cells [.sl 1 0 k4], .row .nod x3 false]) rfl rfl (by kernel_rfl) trivial rfl (And.intro (And.intro rfl rfl) (And.intro rfl (trivial))) ?_
                refine WD_all [3] (n := 3) (by kernel_rfl) rfl ?_
                refine WM_op (φ := True) (v := .one (.e (.rp 1 i1.toNat 1))) (H' := [.cells [.sl 1 0 k4], .row .nod x3 false]) rfl rfl (by kernel_rfl) trivial rfl (And.intro (And.intro rfl rfl) (And.intro rfl (trivial))) ?_
                refine WD_all [4] (n := 2) (by kernel_rfl) rfl ?_
                refine WM_op (φ := True) (v := S ((x3.getD i1.toNat dnod).name)) (H' := [.cells [.sl 1 0 k4], .row .nod x3 false]) rfl rfl (by kernel_rfl) trivial rfl (And.intro (And.intro rfl rfl) (And.intro rfl (trivial))) ?_
                refine WD_all [10] (n := 1) (by kernel_rfl) rfl ?_
                refine WM_call [] Try.f91 rfl rfl (by kernel_rfl) Try.func91 rfl (by kernel_rfl) (strings_Compare_ok ((x3.getD i1.toNat dnod).name) ((x3.getD i2.toNat dnod).name)) (trivial) rfl (And.intro (And.intro rfl rfl) (And.intro rfl (trivial))) ?_
                refine WD_takeK [11] [5] [5] (φ := True) (ls' := #[true, true, true, true, true, true, true, true, true, true, true, true]) (Ts' := [(5, I (strings_Compare ((x3.getD i1.toNat dnod).name) ((x3.getD i2.toNat dnod).name)))]) (st' := ⟨[(5, I (strings_Compare ((x3.getD i1.toNat dnod).name) ((x3.getD i2.toNat dnod).name)))], [.cells [.sl 1 0 k4], .row .nod x3 false]⟩) (n2 := 0) (by kernel_rfl) trivial rfl ?_
                exact WD_done [0, 1] [5] (st' := ⟨[(5, I (strings_Compare ((x3.getD i1.toNat dnod).name) ((x3.getD i2.toNat dnod).name)))], [.cells [.sl 1 0 k4], .row .nod x3 false]⟩) (by kernel_rfl) (by kernel_rfl) (And.intro rfl rfl)
            · refine WM_op (φ := True) (v := S ((x3.getD i2.toNat dnod).name)) (H' := [.cells [.sl 1 0 k4], .row .nod x3 false]) rfl rfl (by kernel_rfl) trivial rfl (And.intro (And.intro rfl rfl) (And.intro rfl (trivial))) ?_
              refine WD_all [2] (n := 4) (by kernel_rfl) rfl ?_
              refine WM_op (φ := 0 ≤ i1 ∧ i1 < ((k4 : Nat) : Int)) (v := .one (.e (.rp 1 i1.toNat 0))) (H' := [.cells [.sl 1 0 k4], .row .nod x3 false]) rfl rfl (by kernel_rfl) hg8 rfl (And.intro (And.intro rfl rfl) (And.intro rfl (trivial))) ?_
              refine WD_all [3] (n := 3) (by kernel_rfl) rfl ?_
              refine WM_op (φ := True) (v := .one (.e (.rp 1 i1.toNat 1))) (H' := [.cells [.sl 1 0 k4], .row .nod x3 false]) rfl rfl (by kernel_rfl) trivial rfl (And.intro (And.intro rfl rfl) (And.intro rfl (trivial))) ?_
              refine WD_all [4] (n := 2) (by kernel_rfl) rfl ?_
              refine WM_op (φ := True) (v := S ((x3.getD i1.toNat dnod).name)) (H' := [.cells [.sl 1 0 k4], .row .nod x3 false]) rfl rfl (by kernel_rfl) trivial rfl (And.intro (And.intro rfl rfl) (And.intro rfl (trivial))) ?_
              refine WD_all [10] (n := 1) (by kernel_rfl) rfl ?_
              refine WM_call [] Try.f91 rfl rfl (by kernel_rfl) Try.func91 rfl (by kernel_rfl) (strings_Compare_ok ((x3.getD i1.toNat dnod).name) ((x3.getD i2.toNat dnod).name)) (trivial) rfl (And.intro (And.intro rfl rfl) (And.intro rfl (trivial))) ?_
              refine WD_takeK [11] [5] [5] (φ := True) (ls' := #[true, true, true, true, true, true, true, true, true, true, true, true]) (Ts' := [(5, I (strings_Compare ((x3.getD i1.toNat dnod).name) ((x3.getD i2.toNat dnod).name)))]) (st' := ⟨[(5, I (strings_Compare ((x3.getD i1.toNat dnod).name) ((x3.getD i2.toNat dnod).name)))], [.cells [.sl 1 0 k4], .row .nod x3 false]⟩) (n2 := 0) (by kernel_rfl) trivial rfl ?_
              exact WD_done [0, 1] [5] (st' := ⟨[(5, I (strings_Compare ((x3.getD i1.toNat dnod).name) ((x3.getD i2.toNat dnod).name)))], [.cells [.sl 1 0 k4], .row .nod x3 false]⟩) (by kernel_rfl) (by kernel_rfl) (And.intro rfl rfl)
    · refine WM_op (φ := True) (v := .one (.e (.sl 1 0 k4))) (H' := [.cells [.sl 1 0 k4], .row .nod x3 false]) rfl rfl (by kernel_rfl) trivial rfl (And.intro (And.intro rfl rfl) (And.intro rfl (trivial))) ?_
      refine WD_all [0, 7] (n := 8) (by kernel_rfl) rfl (And.intro ?_ (?_))
      · refine WM_op (φ := True) (v := .one (.e (.sl 1 0 k4))) (H' := [.cells [.sl 1 0 k4], .row .nod x3 false]) rfl rfl (by kernel_rfl) trivial rfl (And.intro (And.intro rfl rfl) (And.intro rfl (trivial))) ?_
        refine WD_all [2, 7] (n := 7) (by kernel_rfl) rfl (And.intro ?_ (?_))
        · refine WM_op (φ := 0 ≤ i1 ∧ i1 < ((k4 : Nat) : Int)) (v := .one (.e (.rp 1 i1.toNat 0))) (H' := [.cells [.sl 1 0 k4], .row .nod x3 false]) rfl rfl (by kernel_rfl) hg8 rfl (And.intro (And.intro rfl rfl) (And.intro rfl (trivial))) ?_
          refine WD_all [3, 7] (n := 6) (by kernel_rfl) rfl (And.intro ?_ (?_))
          · refine WM_op (φ := True) (v := .one (.e (.rp 1 i1.toNat 1))) (H' := [.cells [.sl 1 0 k4], .row .nod x3 false]) rfl rfl (by kernel_rfl) trivial rfl (And.intro (And.intro rfl rfl) (And.intro rfl (trivial))) ?_
            refine WD_all [4, 7] (n := 5) (by kernel_rfl) rfl (And.intro ?_ (?_))
            · refine WM_op (φ := True) (v := S ((x3.getD i1.toNat dnod).name)) (H' := [.cells [.sl 1 0 k4], .row .nod x3 false]) rfl rfl (by kernel_rfl) trivial rfl (And.intro (And.intro rfl rfl) (And.intro rfl (trivial))) ?_
              refine WD_all [7] (n := 4) (by kernel_rfl) rfl ?_
              refine WM_op (φ := 0 ≤ i2 ∧ i2 < ((k4 : Nat) : Int)) (v := .one (.e (.rp 1 i2.toNat 0))) (H' := [.cells [.sl 1 0 k4], .row .nod x3 false]) rfl rfl (by kernel_rfl) hg9 rfl (And.intro (And.intro rfl rfl) (And.intro rfl (trivial))) ?_
              refine WD_all [8] (n := 3) (by kernel_rfl) rfl ?_
              refine WM_op (φ := True) (v := .one (.e (.rp 1 i2.toNat 1))) (H' := [.cells [.sl 1 0 k4], .row .nod x3 false]) rfl rfl (by kernel_rfl) trivial rfl (And.intro (And.intro rfl rfl) (And.intro rfl (trivial))) ?_
              refine WD_all [9] (n := 2) (by kernel_rfl) rfl ?_
              refine WM_op (φ := True) (v := S ((x3.getD i2.toNat dnod).name)) (H' := [.cells [.sl 1 0 k4], .row .nod x3 false]) rfl rfl (by kernel_rfl) trivial rfl (And.intro (And.intro rfl rfl) (And.intro rfl (trivial))) ?_
              refine WD_all [10] (n := 1) (by kernel_rfl) rfl ?_
              refine WM_call [] Try.f91 rfl rfl (by kernel_rfl) Try.func91 rfl (by kernel_rfl) (strings_Compare_ok ((x3.getD i1.toNat dnod).name) ((x3.getD i2.toNat dnod).name)) (trivial) rfl (And.intro (And.intro rfl rfl) (And.intro rfl (trivial))) ?_
              refine WD_takeK [11] [5] [5] (φ := True) (ls' := #[true, true, true, true, true, true, true, true, true, true, true, true]) (Ts' := [(5, I (strings_Compare ((x3.getD i1.toNat dnod).name) ((x3.getD i2.toNat dnod).name)))]) (st' := ⟨[(5, I (strings_Compare ((x3.getD i1.toNat dnod).name) ((x3.getD i2.toNat dnod).name)))], [.cells [.sl 1 0 k4], .row .nod x3 false]⟩) (n2 := 0) (by kernel_rfl) trivial rfl ?_
              exact WD_done [0, 1] [5] (st' := ⟨[(5, I (strings_Compare ((x3.getD i1.toNat dnod).name) ((x3.getD i2.toNat dnod).name)))], [.cells [.sl 1 0 k4], .row .nod x3 false]⟩) (by kernel_rfl) (by kernel_rfl) (And.intro rfl rfl)
            · refine WM_op (φ := 0 ≤ i2 ∧ i2 < ((k4 : Nat) : Int)) (v := .one (.e (.rp 1 i2.toNat 0))) (H' := [.cells [.sl 1 0 k4], .row .nod x3 false]) rfl rfl (by kernel_rfl) hg9 rfl (And.intro (And.intro rfl rfl) (And.intro rfl (trivial))) ?_
              refine WD_all [4, 8] (n := 4) (by kernel_rfl) rfl (And.intro ?_ (?_))
              · refine WM_op (φ := True) (v := S ((x3.getD i1.toNat dnod).name)) (H' := [.cells [.sl 1 0 k4], .row .nod x3 false]) rfl rfl (by kernel_rfl) trivial rfl (And.intro (And.intro rfl rfl) (And.intro rfl (trivial))) ?_
                refine WD_all [8] (n := 3) (by kernel_rfl) rfl ?_
                refine WM_op (φ := True) (v := .one (.e (.rp 1 i2.toNat 1))) (H' := [.cells [.sl 1 0 k4], .row .nod x3 false]) rfl rfl (by kernel_rfl) trivial rfl (And.intro (And.intro rfl rfl) (And.intro rfl (trivial))) ?_
                refine WD_all [9] (n := 2) (by kernel_rfl) rfl ?_
                refine WM_op (φ := True) (v := S ((x3.getD i2.toNat dnod).name)) (H' := [.cells [.sl 1 0 k4], .row .nod x3 false]) rfl rfl (by kernel_rfl) trivial rfl (And.intro (And.intro rfl rfl) (And.intro rfl (trivial))) ?_
                refine WD_all [10] (n := 1) (by kernel_rfl) rfl ?_
                refine WM_call [] Try.f91 rfl rfl (by kernel_rfl) Try.func91 rfl (by kernel_rfl) (strings_Compare_ok ((x3.getD i1.toNat dnod).name) ((x3.getD i2.toNat dnod).name)) (trivial) rfl (And.intro (And.intro rfl rfl) (And.intro rfl (trivial))) ?_
                refine WD_takeK [11] [5] [5] (φ := True) (ls' := #[true, true, true, true, true, true, true, true, true, true, true, true]) (Ts' := [(5, I (strings_Compare ((x3.getD i1.toNat dnod).name) ((x3.getD i2.toNat dnod).name)))]) (st' := ⟨[(5, I (strings_Compare ((x3.getD i1.toNat dnod).name) ((x3.getD i2.toNat dnod).name)))], [.cells [.sl 1 0 k4], .row .nod x3 false]⟩) (n2 := 0) (by kernel_rfl) trivial rfl ?_
                exact WD_done [0, 1] [5] (st' := ⟨[(5, I (strings_Compare ((x3.getD i1.toNat dnod).name) ((x3.getD i2.toNat dnod).name)))], [.cells [.sl 1 0 k4], .row .nod x3 false]⟩) (by kernel_rfl) (by kernel_rfl) (And.intro rfl rfl)
              · refine WM_op (φ := True) (v := .one (.e (.rp 1 i2.toNat 1))) (H' := [.cells [.sl 1 0 k4], .row .nod x3 false]) rfl rfl (by kernel_rfl) trivial rfl (And.intro (And.intro rfl rfl) (And.intro rfl (trivial))) ?_
                refine WD_all [4, 9] (n := 3) (by kernel_rfl) rfl (And.intro ?_ (?_))
                · refine WM_op (φ := True) (v := S ((x3.getD i1.toNat dnod).name)) (H' := [.cells [.sl 1 0 k4], .row .nod x3 false]) rfl rfl (by kernel_rfl) trivial rfl (And.intro (And.intro rfl rfl) (And.intro rfl (trivial))) ?_
                  refine WD_all [9] (n := 2) (by kernel_rfl) rfl ?_
                  refine WM_op (φ := True) (v := S ((x3.getD i2.toNat dnod).name)) (H' := [.cells [.sl 1 0 k4], .row .nod x3 false]) rfl rfl (by kernel_rfl) trivial rfl (And.intro (And.intro rfl rfl) (And.intro rfl (trivial))) ?_
                  refine WD_all [10] (n := 1) (by kernel_rfl) rfl ?_
                  refine WM_call [] Try.f91 rfl rfl (by kernel_rfl) Try.func91 rfl (by kernel_rfl) (strings_Compare_ok ((x3.getD i1.toNat dnod).name) ((x3.getD i2.toNat dnod).name)) (trivial) rfl (And.intro (And.intro rfl rfl) (And.intro rfl (trivial))) ?_
                  refine WD_takeK [11] [5] [5] (φ := True) (ls' := #[true, true, true, true, true, true, true, true, true, true, true, true]) (Ts' := [(5, I (strings_Compare ((x3.getD i1.toNat dnod).name) ((x3.getD i2.toNat dnod).name)))]) (st' := ⟨[(5, I (strings_Compare ((x3.getD i1.toNat dnod).name) ((x3.getD i2.toNat dnod).name)))], [.cells [.sl 1 0 k4], .row .nod x3 false]⟩) (n2 := 0) (by kernel_rfl) trivial rfl ?_
                  exact WD_done [0, 1] [5] (st' := ⟨[(5, I (strings_Compare ((x3.getD i1.toNat dnod).name) ((x3.getD i2.toNat dnod).name)))], [.cells [.sl 1 0 k4], .row .nod x3 false]⟩) (by kernel_rfl) (by kernel_rfl) (And.intro rfl rfl)
                · refine WM_op (φ := True) (v := S ((x3.getD i2.toNat dnod).name)) (H' := [.cells [.sl 1 0 k4], .row .nod x3 false]) rfl rfl (by kernel_rfl) trivial rfl (And.intro (And.intro rfl rfl) (And.intro rfl (trivial))) ?_
                  refine WD_all [4] (n := 2) (by kernel_rfl) rfl ?_
                  refine WM_op (φ := True) (v := S ((x3.getD i1.toNat dnod).name)) (H' := [.cells [.sl 1 0 k4], .row .nod x3 false]) rfl rfl (by kernel_rfl) trivial rfl (And.intro (And.intro rfl rfl) (And.intro rfl (trivial))) ?_
                  refine WD_all [10] (n := 1) (by kernel_rfl) rfl ?_
                  refine WM_call [] Try.f91 rfl rfl (by kernel_rfl) Try.func91 rfl (by kernel_rfl) (strings_Compare_ok ((x3.getD i1.toNat dnod).name) ((x3.getD i2.toNat dnod).name)) (trivial) rfl (And.intro (And.intro rfl rfl) (And.intro rfl (trivial))) ?_
                  refine WD_takeK [11] [5] [5] (φ := True) (ls' := #[true, true, true, true, true, true, true, true, true, true, true, true]) (Ts' := [(5, I (strings_Compare ((x3.getD i1.toNat dnod).name) ((x3.getD i2.toNat dnod).name)))]) (st' := ⟨[(5, I (strings_Compare ((x3.getD i1.toNat dnod).name) ((x3.getD i2.toNat dnod).name)))], [.cells [.sl 1 0 k4], .row .nod x3 false]⟩) (n2 := 0) (by kernel_rfl) trivial rfl ?_
                  exact WD_done [0, 1] [5] (st' := ⟨[(5, I (strings_Compare ((x3.getD i1.toNat dnod).name) ((x3.getD i2.toNat dnod).name)))], [.cells [.sl 1 0 k4], .row .nod x3 false]⟩) (by kernel_rfl) (by kernel_rfl) (And.intro rfl rfl)
          · refine WM_op (φ := 0 ≤ i2 ∧ i2 < ((k4 : Nat) : Int)) (v := .one (.e (.rp 1 i2.toNat 0))) (H' := [.cells [.sl 1 0 k4], .row .nod x3 false]) rfl rfl (by kernel_rfl) hg9 rfl (And.intro (And.intro rfl rfl) (And.intro rfl (trivial))) ?_
            refine WD_all [3, 8] (n := 5) (by kernel_rfl) rfl (And.intro ?_ (?_))
            · refine WM_op (φ := True) (v := .one (.e (.rp 1 i1.toNat 1))) (H' := [.cells [.sl 1 0 k4], .row .nod x3 false]) rfl rfl (by kernel_rfl) trivial rfl (And.intro (And.intro rfl rfl) (And.intro rfl (trivial))) ?_
              refine WD_all [4, 8] (n := 4) (by kernel_rfl) rfl (And.intro ?_ (?_))
              · refine WM_op (φ := True) (v := S ((x3.getD i1.toNat dnod).name)) (H' := [.cells [.sl 1 0 k4], .row .nod x3 false]) rfl rfl (by kernel_rfl) trivial rfl (And.intro (And.intro rfl rfl) (And.intro rfl (trivial))) ?_
                refine WD_all [8] (n := 3) (by kernel_rfl) rfl ?_
                refine WM_op (φ := True) (v := .one (.e (.rp 1 i2.toNat 1))) (H' := [.cells [.sl 1 0 k4], .row .nod x3 false]) rfl rfl (by kernel_rfl) trivial rfl (And.intro (And.intro rfl rfl) (And.intro rfl (trivial))) ?_
                refine WD_all [9] (n := 2) (by kernel_rfl) rfl ?_
                refine WM_op (φ := True) (v := S ((x3.getD i2.toNat dnod).name)) (H' := [.cells [.sl 1 0 k4], .row .nod x3 false]) rfl rfl (by kernel_rfl) trivial rfl (And.intro (And.intro rfl rfl) (And.intro rfl (trivial))) ?_
                refine WD_all [10] (n := 1) (by kernel_rfl) rfl ?_
                refine WM_call [] Try.f91 rfl rfl (by kernel_rfl) Try.func91 rfl (by kernel_rfl) (strings_Compare_ok ((x3.getD i1.toNat dnod).name) ((x3.getD i2.toNat dnod).name)) (trivial) rfl (And.intro (And.intro rfl rfl) (And.intro rfl (trivial))) ?_
                refine WD_takeK [11] [5] [5] (φ := True) (ls' := #[true, true, true, true, true, true, true, true, true, true, true, true]) (Ts' := [(5, I (strings_Compare ((x3.getD i1.toNat dnod).name) ((x3.getD i2.toNat dnod).name)))]) (st' := ⟨[(5, I (strings_Compare ((x3.getD i1.toNat dnod).name) ((x3.getD i2.toNat dnod).name)))], [.cells [.sl 1 0 k4], .row .nod x3 false]⟩) (n2 := 0) (by kernel_rfl) trivial rfl ?_
                exact WD_done [0, 1] [5] (st' := ⟨[(5, I (strings_Compare ((x3.getD i1.toNat dnod).name) ((x3.getD i2.toNat dnod).name)))], [.cells [.sl 1 0 k4], .row .nod x3 false]⟩) (by kernel_rfl) (by kernel_rfl) (And.intro rfl rfl)
              · refine WM_op (φ := True) (v := .one (.e (.rp 1 i2.toNat 1))) (H' := [.cells [.sl 1 0 k4], .row .nod x3 false]) rfl rfl (by kernel_rfl) trivial rfl (And.intro (And.intro rfl rfl) (And.intro rfl (trivial))) ?_
                refine WD_all [4, 9] (n := 3) (by kernel_rfl) rfl (And.intro ?_ (?_))
                · refine WM_op (φ := True) (v := S ((x3.getD i1.toNat dnod).name)) (H' := [.cells [.sl 1 0 k4], .row .nod x3 false]) rfl rfl (by kernel_rfl) trivial rfl (And.intro (And.intro rfl rfl) (And.intro rfl (trivial))) ?_
                  refine WD_all [9] (n := 2) (by kernel_rfl) rfl ?_
                  refine WM_op (φ := True) (v := S ((x3.getD i2.toNat dnod).name)) (H' := [.cells [.sl 1 0 k4], .row .nod x3 false]) rfl rfl (by kernel_rfl) trivial rfl (And.intro (And.intro rfl rfl) (And.intro rfl (trivial))) ?_
                  refine WD_all [10] (n := 1) (by kernel_rfl) rfl ?_
                  refine WM_call [] Try.f91 rfl rfl (by kernel_rfl) Try.func91 rfl (by kernel_rfl) (strings_Compare_ok ((x3.getD i1.toNat dnod).name) ((x3.getD i2.toNat dnod).name)) (trivial) rfl (And.intro (And.intro rfl rfl) (And.intro rfl (trivial))) ?_
                  refine WD_takeK [11] [5] [5] (φ := True) (ls' := #[true, true, true, true, true, true, true, true, true, true, true, true]) (Ts' := [(5, I (strings_Compare ((x3.getD i1.toNat dnod).name) ((x3.getD i2.toNat dnod).name)))]) (st' := ⟨[(5, I (strings_Compare ((x3.getD i1.toNat dnod).name) ((x3.getD i2.toNat dnod).name)))], [.cells [.sl 1 0 k4], .row .nod x3 false]⟩) (n2 := 0) (by kernel_rfl) trivial rfl ?_
                  exact WD_done [0, 1] [5] (st' := ⟨[(5, I (strings_Compare ((x3.getD i1.toNat dnod).name) ((x3.getD i2.toNat dnod).name)))], [.cells [.sl 1 0 k4], .row .nod x3 false]⟩) (by kernel_rfl) (by kernel_rfl) (And.intro rfl rfl)
                · refine WM_op (φ := True) (v := S ((x3.getD i2.toNat dnod).name)) (H' := [.cells [.sl 1 0 k4], .row .nod x3 false]) rfl rfl (by kernel_rfl) trivial rfl (And.intro (And.intro rfl rfl) (And.intro rfl (trivial))) ?_
                  refine WD_all [4] (n := 2) (by kernel_rfl) rfl ?_
                  refine WM_op (φ := True) (v := S ((x3.getD i1.toNat dnod).name)) (H' := [.cells [.sl 1 0 k4], .row .nod x3 false]) rfl rfl (by kernel_rfl) trivial rfl (And.intro (And.intro rfl rfl) (And.intro rfl (trivial))) ?_
                  refine WD_all [10] (n := 1) (by kernel_rfl) rfl ?_
                  refine WM_call [] Try.f91 rfl rfl (by kernel_rfl) Try.func91 rfl (by kernel_rfl) (strings_Compare_ok ((x3.getD i1.toNat dnod).name) ((x3.getD i2.toNat dnod).name)) (trivial) rfl (And.intro (And.intro rfl rfl) (And.intro rfl (trivial))) ?_
                  refine WD_takeK [11] [5] [5] (φ := True) (ls' := #[true, true, true, true, true, true, true, true, true, true, true, true]) (Ts' := [(5, I (strings_Compare ((x3.getD i1.toNat dnod).name) ((x3.getD i2.toNat dnod).name)))]) (st' := ⟨[(5, I (strings_Compare ((x3.getD i1.toNat dnod).name) ((x3.getD i2.toNat dnod).name)))], [.cells [.sl 1 0 k4], .row .nod x3 false]⟩) (n2 := 0) (by kernel_rfl) trivial rfl ?_
                  exact WD_done [0, 1] [5] (st' := ⟨[(5, I (strings_Compare ((x3.getD i1.toNat dnod).name) ((x3.getD i2.toNat dnod).name)))], [.cells [.sl 1 0 k4], .row .nod x3 false]⟩) (by kernel_rfl) (by kernel_rfl) (And.intro rfl rfl)
            · refine WM_op (φ := True) (v := .one (.e (.rp 1 i2.toNat 1))) (H' := [.cells [.sl 1 0 k4], .row .nod x3 false]) rfl rfl (by kernel_rfl) trivial rfl (And.intro (And.intro rfl rfl) (And.intro rfl (trivial))) ?_
              refine WD_all [3, 9] (n := 4) (by kernel_rfl) rfl (And.intro ?_ (?_))
              · refine WM_op (φ := True) (v := .one (.e (.rp 1 i1.toNat 1))) (H' := [.cells [.sl 1 0 k4], .row .nod x3 false]) rfl rfl (by kernel_rfl) trivial rfl (And.intro (And.intro rfl rfl) (And.intro rfl (trivial))) ?_
                refine WD_all [4, 9] (n := 3) (by kernel_rfl) rfl (And.intro ?_ (?_))
                · refine WM_op (φ := True) (v := S ((x3.getD i1.toNat dnod).name)) (H' := [.cells [.sl 1 0 k4], .row .nod x3 false]) rfl rfl (by kernel_rfl) trivial rfl (And.intro (And.intro rfl rfl) (And.intro rfl (trivial))) ?_
                  refine WD_all [9] (n := 2) (by kernel_rfl) rfl ?_
                  refine WM_op (φ := True) (v := S ((x3.getD i2.toNat dnod).name)) (H' := [.cells [.sl 1 0 k4], .row .nod x3 false]) rfl rfl (by kernel_rfl) trivial rfl (And.intro (And.intro rfl rfl) (And.intro rfl (trivial))) ?_
                  refine WD_all [10] (n := 1) (by kernel_rfl) rfl ?_
                  refine WM_call [] Try.f91 rfl rfl (by kernel_rfl) Try.func91 rfl (by kernel_rfl) (strings_Compare_ok ((x3.getD i1.toNat dnod).name) ((x3.getD i2.toNat dnod).name)) (trivial) rfl (And.intro (And.intro rfl rfl) (And.intro rfl (trivial))) ?_
                  refine WD_takeK [11] [5] [5] (φ := True) (ls' := #[true, true, true, true, true, true, true, true, true, true, true, true]) (Ts' := [(5, I (strings_Compare ((x3.getD i1.toNat dnod).name) ((x3.getD i2.toNat dnod).name)))]) (st' := ⟨[(5, I (strings_Compare ((x3.getD i1.toNat dnod).name) ((x3.getD i2.toNat dnod).name)))], [.cells [.sl 1 0 k4], .row .nod x3 false]⟩) (n2 := 0) (by kernel_rfl) trivial rfl ?_
                  exact WD_done [0, 1] [5] (st' := ⟨[(5, I (strings_Compare ((x3.getD i1.toNat dnod).name) ((x3.getD i2.toNat dnod).name)))], [.cells [.sl 1 0 k4], .row .nod x3 false]⟩) (by kernel_rfl) (by kernel_rfl) (And.intro rfl rfl)
                · refine WM_op (φ := True) (v := S ((x3.getD i2.toNat dnod).name)) (H' := [.cells [.sl 1 0 k4], .row .nod x3 false]) rfl rfl (by kernel_rfl) trivial rfl (And.intro (And.intro rfl rfl) (And.intro rfl (trivial))) ?_
                  refine WD_all [4] (n := 2) (by kernel_rfl) rfl ?_
                  refine WM_op (φ := True) (v := S ((x3.getD i1.toNat dnod).name)) (H' := [.cells [.sl 1 0 k4], .row .nod x3 false]) rfl rfl (by kernel_rfl) trivial rfl (And.intro (And.intro rfl rfl) (And.intro rfl (trivial))) ?_
                  refine WD_all [10] (n := 1) (by kernel_rfl) rfl ?_
                  refine WM_call [] Try.f91 rfl rfl (by kernel_rfl) Try.func91 rfl (by kernel_rfl) (strings_Compare_ok ((x3.getD i1.toNat dnod).name) ((x3.getD i2.toNat dnod).name)) (trivial) rfl (And.intro (And.intro rfl rfl) (And.intro rfl (trivial))) ?_
                  refine WD_takeK [11] [5] [5] (φ := True) (ls' := #[true, true, true, true, true, true, true, true, true, true, true, true]) (Ts' := [(5, I (strings_Compare ((x3.getD i1.toNat dnod).name) ((x3.getD i2.toNat dnod).name)))]) (st' := ⟨[(5, I (strings_Compare ((x3.getD i1.toNat dnod).name) ((x3.getD i2.toNat dnod).name)))], [.cells [.sl 1 0 k4], .row .nod x3 false]⟩) (n2 := 0) (by kernel_rfl) trivial rfl ?_
                  exact WD_done [0, 1] [5] (st' := ⟨[(5, I (strings_Compare ((x3.getD i1.toNat dnod).name) ((x3.getD i2.toNat dnod).name)))], [.cells [.sl 1 0 k4], .row .nod x3 false]⟩) (by kernel_rfl) (by kernel_rfl) (And.intro rfl rfl)
              · refine WM_op (φ := True) (v := S ((x3.getD i2.toNat dnod).name)) (H' := [.cells [.sl 1 0 k4], .row .nod x3 false]) rfl rfl (by kernel_rfl) trivial rfl (And.intro (And.intro rfl rfl) (And.intro rfl (trivial))) ?_
                refine WD_all [3] (n := 3) (by kernel_rfl) rfl ?_
                refine WM_op (φ := True) (v := .one (.e (.rp 1 i1.toNat 1))) (H' := [.cells [.sl 1 0 k4], .row .nod x3 false]) rfl rfl (by kernel_rfl) trivial rfl (And.intro (And.intro rfl rfl) (And.intro rfl (trivial))) ?_
                refine WD_all [4] (n := 2) (by kernel_rfl) rfl ?_
                refine WM_op (φ := True) (v := S ((x3.getD i1.toNat dnod).name)) (H' := [.cells [.sl 1 0 k4], .row .nod x3 false]) rfl rfl (by kernel_rfl) trivial rfl (And.intro (And.intro rfl rfl) (And.intro rfl (trivial))) ?_
                refine WD_all [10] (n := 1) (by kernel_rfl) rfl ?_
                refine WM_call [] Try.f91 rfl rfl (by kernel_rfl) Try.func91 rfl (by kernel_rfl) (strings_Compare_ok ((x3.getD i1.toNat dnod).name) ((x3.getD i2.toNat dnod).name)) (trivial) rfl (And.intro (And.intro rfl rfl) (And.intro rfl (trivial))) ?_
                refine WD_takeK [11] [5] [5] (φ := True) (ls' := #[true, true, true, true, true, true, true, true, true, true, true, true]) (Ts' := [(5, I (strings_Compare ((x3.getD i1.toNat dnod).name) ((x3.getD i2.toNat dnod).name)))]) (st' := ⟨[(5, I (strings_Compare ((x3.getD i1.toNat dnod).name) ((x3.getD i2.toNat dnod).name)))], [.cells [.sl 1 0 k4], .row .nod x3 false]⟩) (n2 := 0) (by kernel_rfl) trivial rfl ?_
                exact WD_done [0, 1] [5] (st' := ⟨[(5, I (strings_Compare ((x3.getD i1.toNat dnod).name) ((x3.getD i2.toNat dnod).name)))], [.cells [.sl 1 0 k4], .row .nod x3 false]⟩) (by kernel_rfl) (by kernel_rfl) (And.intro rfl rfl)
        · refine WM_op (φ := 0 ≤ i2 ∧ i2 < ((k4 : Nat) : Int)) (v := .one (.e (.rp 1 i2.toNat 0))) (H' := [.cells [.sl 1 0 k4], .row .nod x3 false]) rfl rfl (by kernel_rfl) hg9 rfl (And.intro (And.intro rfl rfl) (And.intro rfl (trivial))) ?_
          refine WD_all [2, 8] (n := 6) (by kernel_rfl) rfl (And.intro ?_ (?_))
          · refine WM_op (φ := 0 ≤ i1 ∧ i1 < ((k4 : Nat) : Int)) (v := .one (.e (.rp 1 i1.toNat 0))) (H' := [.cells [.sl 1 0 k4], .row .nod x3 false]) rfl rfl (by kernel_rfl) hg8 rfl (And.intro (And.intro rfl rfl) (And.intro rfl (trivial))) ?_
            refine WD_all [3, 8] (n := 5) (by kernel_rfl) rfl (And.intro ?_ (?_))
            · refine WM_op (φ := True) (v := .one (.e (.rp 1 i1.toNat 1))) (H' := [.cells [.sl 1 0 k4], .row .nod x3 false]) rfl rfl (by kernel_rfl) trivial rfl (And.intro (And.intro rfl rfl) (And.intro rfl (trivial))) ?_
              refine WD_all [4, 8] (n := 4) (by kernel_rfl) rfl (And.intro ?_ (?_))
              · refine WM_op (φ := True) (v := S ((x3.getD i1.toNat dnod).name)) (H' := [.cells [.sl 1 0 k4], .row .nod x3 false]) rfl rfl (by kernel_rfl) trivial rfl (And.intro (And.intro rfl rfl) (And.intro rfl (trivial))) ?_
                refine WD_all [8] (n := 3) (by kernel_rfl) rfl ?_
                refine WM_op (φ := True) (v := .one (.e (.rp 1 i2.toNat 1))) (H' := [.cells [.sl 1 0 k4], .row .nod x3 false]) rfl rfl (by kernel_rfl) trivial rfl (And.intro (And.intro rfl rfl) (And.intro rfl (trivial))) ?_
                refine WD_all [9] (n := 2) (by kernel_rfl) rfl ?_
                refine WM_op (φ := True) (v := S ((x3.getD i2.toNat dnod).name)) (H' := [.cells [.sl 1 0 k4], .row .nod x3 false]) rfl rfl (by kernel_rfl) trivial rfl (And.intro (And.intro rfl rfl) (And.intro rfl (trivial))) ?_
                refine WD_all [10] (n := 1) (by kernel_rfl) rfl ?_
                refine WM_call [] Try.f91 rfl rfl (by kernel_rfl) Try.func91 rfl (by kernel_rfl) (strings_Compare_ok ((x3.getD i1.toNat dnod).name) ((x3.getD i2.toNat dnod).name)) (trivial) rfl (And.intro (And.intro rfl rfl) (And.intro rfl (trivial))) ?_
                refine WD_takeK [11] [5] [5] (φ := True) (ls' := #[true, true, true, true, true, true, true, true, true, true, true, true]) (Ts' := [(5, I (strings_Compare ((x3.getD i1.toNat dnod).name) ((x3.getD i2.toNat dnod).name)))]) (st' := ⟨[(5, I (strings_Compare ((x3.getD i1.toNat dnod).name) ((x3.getD i2.toNat dnod).name)))], [.cells [.sl 1 0 k4], .row .nod x3 false]⟩) (n2 := 0) (by kernel_rfl) trivial rfl ?_
                exact WD_done [0, 1] [5] (st' := ⟨[(5, I (strings_Compare ((x3.getD i1.toNat dnod).name) ((x3.getD i2.toNat dnod).name)))], [.cells [.sl 1 0 k4], .row .nod x3 false]⟩) (by kernel_rfl) (by kernel_rfl) (And.intro rfl rfl)
              · refine WM_op (φ := True) (v := .one (.e (.rp 1 i2.toNat 1))) (H' := [.cells [.sl 1 0 k4], .row .nod x3 false]) rfl rfl (by kernel_rfl) trivial rfl (And.intro (And.intro rfl rfl) (And.intro rfl (trivial))) ?_
                refine WD_all [4, 9] (n := 3) (by kernel_rfl) rfl (And.intro ?_ (?_))
                · refine WM_op (φ := True) (v := S ((x3.getD i1.toNat dnod).name)) (H' := [.cells [.sl 1 0 k4], .row .nod x3 false]) rfl rfl (by kernel_rfl) trivial rfl (And.intro (And.intro rfl rfl) (And.intro rfl (trivial))) ?_
                  refine WD_all [9] (n := 2) (by kernel_rfl) rfl ?_
                  refine WM_op (φ := True) (v := S ((x3.getD i2.toNat dnod).name)) (H' := [.cells [.sl 1 0 k4], .row .nod x3 false]) rfl rfl (by kernel_rfl) trivial rfl (And.intro (And.intro rfl rfl) (And.intro rfl (trivial))) ?_
                  refine WD_all [10] (n := 1) (by kernel_rfl) rfl ?_
                  refine WM_call [] Try.f91 rfl rfl (by kernel_rfl) Try.func91 rfl (by kernel_rfl) (strings_Compare_ok ((x3.getD i1.toNat dnod).name) ((x3.getD i2.toNat dnod).name)) (trivial) rfl (And.intro (And.intro rfl rfl) (And.intro rfl (trivial))) ?_
                  refine WD_takeK [11] [5] [5] (φ := True) (ls' := #[true, true, true, true, true, true, true, true, true, true, true, true]) (Ts' := [(5, I (strings_Compare ((x3.getD i1.toNat dnod).name) ((x3.getD i2.toNat dnod).name)))]) (st' := ⟨[(5, I (strings_Compare ((x3.getD i1.toNat dnod).name) ((x3.getD i2.toNat dnod).name)))], [.cells [.sl 1 0 k4], .row .nod x3 false]⟩) (n2 := 0) (by kernel_rfl) trivial rfl ?_
                  exact WD_done [0, 1] [5] (st' := ⟨[(5, I (strings_Compare ((x3.getD i1.toNat dnod).name) ((x3.getD i2.toNat dnod).name)))], [.cells [.sl 1 0 k4], .row .nod x3 false]⟩) (by kernel_rfl) (by kernel_rfl) (And.intro rfl rfl)
                · refine WM_op (φ := True) (v := S ((x3.getD i2.toNat dnod).name)) (H' := [.cells [.sl 1 0 k4], .row .nod x3 false]) rfl rfl (by kernel_rfl) trivial rfl (And.intro (And.intro rfl rfl) (And.intro rfl (trivial))) ?_
                  refine WD_all [4] (n := 2) (by kernel_rfl) rfl ?_
                  refine WM_op (φ := True) (v := S ((x3.getD i1.toNat dnod).name)) (H' := [.cells [.sl 1 0 k4], .row .nod x3 false]) rfl rfl (by kernel_rfl) trivial rfl (And.intro (And.intro rfl rfl) (And.intro rfl (trivial))) ?_
                  refine WD_all [10] (n := 1) (by kernel_rfl) rfl ?_
                  refine WM_call [] Try.f91 rfl rfl (by kernel_rfl) Try.func91 rfl (by kernel_rfl) (strings_Compare_ok ((x3.getD i1.toNat dnod).name) ((x3.getD i2.toNat dnod).name)) (trivial) rfl (And.intro (And.intro rfl rfl) (And.intro rfl (trivial))) ?_
                  refine WD_takeK [11] [5] [5] (φ := True) (ls' := #[true, true, true, true, true, true, true, true, true, true, true, true]) (Ts' := [(5, I (strings_Compare ((x3.getD i1.toNat dnod).name) ((x3.getD i2.toNat dnod).name)))]) (st' := ⟨[(5, I (strings_Compare ((x3.getD i1.toNat dnod).name) ((x3.getD i2.toNat dnod).name)))], [.cells [.sl 1 0 k4], .row .nod x3 false]⟩) (n2 := 0) (by kernel_rfl) trivial rfl ?_
                  exact WD_done [0, 1] [5] (st' := ⟨[(5, I (strings_Compare ((x3.getD i1.toNat dnod).name) ((x3.getD i2.toNat dnod).name)))], [.cells [.sl 1 0 k4], .row .nod x3 false]⟩) (by kernel_rfl) (by kernel_rfl) (And.intro rfl rfl)
            · refine WM_op (φ := True) (v := .one (.e (.rp 1 i2.toNat 1))) (H' := [.cells [.sl 1 0 k4], .row .nod x3 false]) rfl rfl (by kernel_rfl) trivial rfl (And.intro (And.intro rfl rfl) (And.intro rfl (trivial))) ?_
              refine WD_all [3, 9] (n := 4) (by kernel_rfl) rfl (And.intro ?_ (?_))
              · refine WM_op (φ := True) (v := .one (.e (.rp 1 i1.toNat 1))) (H' := [.cells [.sl 1 0 k4], .row .nod x3 false]) rfl rfl (by kernel_rfl) trivial rfl (And.intro (And.intro rfl rfl) (And.intro rfl (trivial))) ?_
                refine WD_all [4, 9] (n := 3) (by kernel_rfl) rfl (And.intro ?_ (?_))
                · refine WM_op (φ := True) (v := S ((x3.getD i1.toNat dnod).name)) (H' := [.cells [.sl 1 0 k4], .row .nod x3 false]) rfl rfl (by kernel_rfl) trivial rfl (And.intro (And.intro rfl rfl) (And.intro rfl (trivial))) ?_
                  refine WD_all [9] (n := 2) (by kernel_rfl) rfl ?_
                  refine WM_op (φ := True) (v := S ((x3.getD i2.toNat dnod).name)) (H' := [.cells [.sl 1 0 k4], .row .nod x3 false]) rfl rfl (by kernel_rfl) trivial rfl (And.intro (And.intro rfl rfl) (And.intro rfl (trivial))) ?_
                  refine WD_all [10] (n := 1) (by kernel_rfl) rfl ?_
                  refine WM_call [] Try.f91 rfl rfl (by kernel_rfl) Try.func91 rfl (by kernel_rfl) (strings_Compare_ok ((x3.getD i1.toNat dnod).name) ((x3.getD i2.toNat dnod).name)) (trivial) rfl (And.intro (And.intro rfl rfl) (And.intro rfl (trivial))) ?_
                  refine WD_takeK [11] [5] [5] (φ := True) (ls' := #[true, true, true, true, true, true, true, true, true, true, true, true]) (Ts' := [(5, I (strings_Compare ((x3.getD i1.toNat dnod).name) ((x3.getD i2.toNat dnod).name)))]) (st' := ⟨[(5, I (strings_Compare ((x3.getD i1.toNat dnod).name) ((x3.getD i2.toNat dnod).name)))], [.cells [.sl 1 0 k4], .row .nod x3 false]⟩) (n2 := 0) (by kernel_rfl) trivial rfl ?_
                  exact WD_done [0, 1] [5] (st' := ⟨[(5, I (strings_Compare ((x3.getD i1.toNat dnod).name) ((x3.getD i2.toNat dnod).name)))], [.cells [.sl 1 0 k4], .row .nod x3 false]⟩) (by kernel_rfl) (by kernel_rfl) (And.intro rfl rfl)
                · refine WM_op (φ := True) (v := S ((x3.getD i2.toNat dnod).name)) (H' := [.cells [.sl 1 0 k4], .row .nod x3 false]) rfl rfl (by kernel_rfl) trivial rfl (And.intro (And.intro rfl rfl) (And.intro rfl (trivial))) ?_
                  refine WD_all [4] (n := 2) (by kernel_rfl) rfl ?_
                  refine WM_op (φ := True) (v := S ((x3.getD i1.toNat dnod).name)) (H' := [.cells [.sl 1 0 k4], .row .nod x3 false]) rfl rfl (by kernel_rfl) trivial rfl (And.intro (And.intro rfl rfl) (And.intro rfl (trivial))) ?_
                  refine WD_all [10] (n := 1) (by kernel_rfl) rfl ?_
                  refine WM_call [] Try.f91 rfl rfl (by kernel_rfl) Try.func91 rfl (by kernel_rfl) (strings_Compare_ok ((x3.getD i1.toNat dnod).name) ((x3.getD i2.toNat dnod).name)) (trivial) rfl (And.intro (And.intro rfl rfl) (And.intro rfl (trivial))) ?_
                  refine WD_takeK [11] [5] [5] (φ := True) (ls' := #[true, true, true, true, true, true, true, true, true, true, true, true]) (Ts' := [(5, I (strings_Compare ((x3.getD i1.toNat dnod).name) ((x3.getD i2.toNat dnod).name)))]) (st' := ⟨[(5, I (strings_Compare ((x3.getD i1.toNat dnod).name) ((x3.getD i2.toNat dnod).name)))], [.cells [.sl 1 0 k4], .row .nod x3 false]⟩) (n2 := 0) (by kernel_rfl) trivial rfl ?_
                  exact WD_done [0, 1] [5] (st' := ⟨[(5, I (strings_Compare ((x3.getD i1.toNat dnod).name) ((x3.getD i2.toNat dnod).name)))], [.cells [.sl 1 0 k4], .row .nod x3 false]⟩) (by kernel_rfl) (by kernel_rfl) (And.intro rfl rfl)
              · refine WM_op (φ := True) (v := S ((x3.getD i2.toNat dnod).name)) (H' := [.cells [.sl 1 0 k4], .row .nod x3 false]) rfl rfl (by kernel_rfl) trivial rfl (And.intro (And.intro rfl rfl) (And.intro rfl (trivial))) ?_
                refine WD_all [3] (n := 3) (by kernel_rfl) rfl ?_
                refine WM_op (φ := True) (v := .one (.e (.rp 1 i1.toNat 1))) (H' := [.cells [.sl 1 0 k4], .row .nod x3 false]) rfl rfl (by kernel_rfl) trivial rfl (And.intro (And.intro rfl rfl) (And.intro rfl (trivial))) ?_
                refine WD_all [4] (n := 2) (by kernel_rfl) rfl ?_
                refine WM_op (φ := True) (v := S ((x3.getD i1.toNat dnod).name)) (H' := [.cells [.sl 1 0 k4], .row .nod x3 false]) rfl rfl (by kernel_rfl) trivial rfl (And.intro (And.intro rfl rfl) (And.intro rfl (trivial))) ?_
                refine WD_all [10] (n := 1) (by kernel_rfl) rfl ?_
                refine WM_call [] Try.f91 rfl rfl (by kernel_rfl) Try.func91 rfl (by kernel_rfl) (strings_Compare_ok ((x3.getD i1.toNat dnod).name) ((x3.getD i2.toNat dnod).name)) (trivial) rfl (And.intro (And.intro rfl rfl) (And.intro rfl (trivial))) ?_
                refine WD_takeK [11] [5] [5] (φ := True) (ls' := #[true, true, true, true, true, true, true, true, true, true, true, true]) (Ts' := [(5, I (strings_Compare ((x3.getD i1.toNat dnod).name) ((x3.getD i2.toNat dnod).name)))]) (st' := ⟨[(5, I (strings_Compare ((x3.getD i1.toNat dnod).name) ((x3.getD i2.toNat dnod).name)))], [.cells [.sl 1 0 k4], .row .nod x3 false]⟩) (n2 := 0) (by kernel_rfl) trivial rfl ?_
                exact WD_done [0, 1] [5] (st' := ⟨[(5, I (strings_Compare ((x3.getD i1.toNat dnod).name) ((x3.getD i2.toNat dnod).name)))], [.cells [.sl 1 0 k4], .row .nod x3 false]⟩) (by kernel_rfl) (by kernel_rfl) (And.intro rfl rfl)
          · refine WM_op (φ := True) (v := .one (.e (.rp 1 i2.toNat 1))) (H' := [.cells [.sl 1 0 k4], .row .nod x3 false]) rfl rfl (by kernel_rfl) trivial rfl (And.intro (And.intro rfl rfl) (And.intro rfl (trivial))) ?_
            refine WD_all [2, 9] (n := 5) (by kernel_rfl) rfl (And.intro ?_ (?_))
            · refine WM_op (φ := 0 ≤ i1 ∧ i1 < ((k4 : Nat) : Int)) (v := .one (.e (.rp 1 i1.toNat 0))) (H' := [.cells [.sl 1 0 k4], .row .nod x3 false]) rfl rfl (by kernel_rfl) hg8 rfl (And.intro (And.intro rfl rfl) (And.intro rfl (trivial))) ?_
              refine WD_all [3, 9] (n := 4) (by kernel_rfl) rfl (And.intro ?_ (?_))
              · refine WM_op (φ := True) (v := .one (.e (.rp 1 i1.toNat 1))) (H' := [.cells [.sl 1 0 k4], .row .nod x3 false]) rfl rfl (by kernel_rfl) trivial rfl (And.intro (And.intro rfl rfl) (And.intro rfl (trivial))) ?_
                refine WD_all [4, 9] (n := 3) (by kernel_rfl) rfl (And.intro ?_ (?_))
                · refine WM_op (φ := True) (v := S ((x3.getD i1.toNat dnod).name)) (H' := [.cells [.sl 1 0 k4], .row .nod x3 false]) rfl rfl (by kernel_rfl) trivial rfl (And.intro (And.intro rfl rfl) (And.intro rfl (trivial))) ?_
                  refine WD_all [9] (n := 2) (by kernel_rfl) rfl ?_
                  refine WM_op (φ := True) (v := S ((x3.getD i2.toNat dnod).name)) (H' := [.cells [.sl 1 0 k4], .row .nod x3 false]) rfl rfl (by kernel_rfl) trivial rfl (And.intro (And.intro rfl rfl) (And.intro rfl (trivial))) ?_
                  refine WD_all [10] (n := 1) (by kernel_rfl) rfl ?_
                  refine WM_call [] Try.f91 rfl rfl (by kernel_rfl) Try.func91 rfl (by kernel_rfl) (strings_Compare_ok ((x3.getD i1.toNat dnod).name) ((x3.getD i2.toNat dnod).name)) (trivial) rfl (And.intro (And.intro rfl rfl) (And.intro rfl (trivial))) ?_
                  refine WD_takeK [11] [5] [5] (φ := True) (ls' := #[true, true, true, true, true, true, true, true, true, true, true, true]) (Ts' := [(5, I (strings_Compare ((x3.getD i1.toNat dnod).name) ((x3.getD i2.toNat dnod).name)))]) (st' := ⟨[(5, I (strings_Compare ((x3.getD i1.toNat dnod).name) ((x3.getD i2.toNat dnod).name)))], [.cells [.sl 1 0 k4], .row .nod x3 false]⟩) (n2 := 0) (by kernel_rfl) trivial rfl ?_
                  exact WD_done [0, 1] [5] (st' := ⟨[(5, I (strings_Compare ((x3.getD i1.toNat dnod).name) ((x3.getD i2.toNat dnod).name)))], [.cells [.sl 1 0 k4], .row .nod x3 false]⟩) (by kernel_rfl) (by kernel_rfl) (And.intro rfl rfl)
                · refine WM_op (φ := True) (v := S ((x3.getD i2.toNat dnod).name)) (H' := [.cells [.sl 1 0 k4], .row .nod x3 false]) rfl rfl (by kernel_rfl) trivial rfl (And.intro (And.intro rfl rfl) (And.intro rfl (trivial))) ?_
                  refine WD_all [4] (n := 2) (by kernel_rfl) rfl ?_
                  refine WM_op (φ := True) (v := S ((x3.getD i1.toNat dnod).name)) (H' := [.cells [.sl 1 0 k4], .row .nod x3 false]) rfl rfl (by kernel_rfl) trivial rfl (And.intro (And.intro rfl rfl) (And.intro rfl (trivial))) ?_
                  refine WD_all [10] (n := 1) (by kernel_rfl) rfl ?_
                  refine WM_call [] Try.f91 rfl rfl (by kernel_rfl) Try.func91 rfl (by kernel_rfl) (strings_Compare_ok ((x3.getD i1.toNat dnod).name) ((x3.getD i2.toNat dnod).name)) (trivial) rfl (And.intro (And.intro rfl rfl) (And.intro rfl (trivial))) ?_
                  refine WD_takeK [11] [5] [5] (φ := True) (ls' := #[true, true, true, true, true, true, true, true, true, true, true, true]) (Ts' := [(5, I (strings_Compare ((x3.getD i1.toNat dnod).name) ((x3.getD i2.toNat dnod).name)))]) (st' := ⟨[(5, I (strings_Compare ((x3.getD i1.toNat dnod).name) ((x3.getD i2.toNat dnod).name)))], [.cells [.sl 1 0 k4], .row .nod x3 false]⟩) (n2 := 0) (by kernel_rfl) trivial rfl ?_
                  exact WD_done [0, 1] [5] (st' := ⟨[(5, I (strings_Compare ((x3.getD i1.toNat dnod).name) ((x3.getD i2.toNat dnod).name)))], [.cells [.sl 1 0 k4], .row .nod x3 false]⟩) (by kernel_rfl) (by kernel_rfl) (And.intro rfl rfl)
              · refine WM_op (φ := True) (v := S ((x3.getD i2.toNat dnod).name)) (H' := [.cells [.sl 1 0 k4], .row .nod x3 false]) rfl rfl (by kernel_rfl) trivial rfl (And.intro (And.intro rfl rfl) (And.intro rfl (trivial))) ?_
                refine WD_all [3] (n := 3) (by kernel_rfl) rfl ?_
                refine WM_op (φ := True) (v := .one (.e (.rp 1 i1.toNat 1))) (H' := [.cells [.sl 1 0 k4], .row .nod x3 false]) rfl rfl (by kernel_rfl) trivial rfl (And.intro (And.intro rfl rfl) (And.intro rfl (trivial))) ?_
                refine WD_all [4] (n := 2) (by kernel_rfl) rfl ?_
                refine WM_op (φ := True) (v := S ((x3.getD i1.toNat dnod).name)) (H' := [.cells [.sl 1 0 k4], .row .nod x3 false]) rfl rfl (by kernel_rfl) trivial rfl (And.intro (And.intro rfl rfl) (And.intro rfl (trivial))) ?_
                refine WD_all [10] (n := 1) (by kernel_rfl) rfl ?_
                refine WM_call [] Try.f91 rfl rfl (by kernel_rfl) Try.func91 rfl (by kernel_rfl) (strings_Compare_ok ((x3.getD i1.toNat dnod).name) ((x3.getD i2.toNat dnod).name)) (trivial) rfl (And.intro (And.intro rfl rfl) (And.intro rfl (trivial))) ?_
                refine WD_takeK [11] [5] [5] (φ := True) (ls' := #[true, true, true, true, true, true, true, true, true, true, true, true]) (Ts' := [(5, I (strings_Compare ((x3.getD i1.toNat dnod).name) ((x3.getD i2.toNat dnod).name)))]) (st' := ⟨[(5, I (strings_Compare ((x3.getD i1.toNat dnod).name) ((x3.getD i2.toNat dnod).name)))], [.cells [.sl 1 0 k4], .row .nod x3 false]⟩) (n2 := 0) (by kernel_rfl) trivial rfl ?_
                exact WD_done [0, 1] [5] (st' := ⟨[(5, I (strings_Compare ((x3.getD i1.toNat dnod).name) ((x3.getD i2.toNat dnod).name)))], [.cells [.sl 1 0 k4], .row .nod x3 false]⟩) (by kernel_rfl) (by kernel_rfl) (And.intro rfl rfl)
            · refine WM_op (φ := True) (v := S ((x3.getD i2.toNat dnod).name)) (H' := [.cells [.sl 1 0 k4], .row .nod x3 false]) rfl rfl (by kernel_rfl) trivial rfl (And.intro (And.intro rfl rfl) (And.intro rfl (trivial))) ?_
              refine WD_all [2] (n := 4) (by kernel_rfl) rfl ?_
              refine WM_op (φ := 0 ≤ i1 ∧ i1 < ((k4 : Nat) : Int)) (v := .one (.e (.rp 1 i1.toNat 0))) (H' := [.cells [.sl 1 0 k4], .row .nod x3 false]) rfl rfl (by kernel_rfl) hg8 rfl (And.intro (And.intro rfl rfl) (And.intro rfl (trivial))) ?_
              refine WD_all [3] (n := 3) (by kernel_rfl) rfl ?_
              refine WM_op (φ := True) (v := .one (.e (.rp 1 i1.toNat 1))) (H' := [.cells [.sl 1 0 k4], .row .nod x3 false]) rfl rfl (by kernel_rfl) trivial rfl (And.intro (And.intro rfl rfl) (And.intro rfl (trivial))) ?_
              refine WD_all [4] (n := 2) (by kernel_rfl) rfl ?_
              refine WM_op (φ := True) (v := S ((x3.getD i1.toNat dnod).name)) (H' := [.cells [.sl 1 0 k4], .row .nod x3 false]) rfl rfl (by kernel_rfl) trivial rfl (And.intro (And.intro rfl rfl) (And.intro rfl (trivial))) ?_
              refine WD_all [10] (n := 1) (by kernel_rfl) rfl ?_
              refine WM_call [] Try.f91 rfl rfl (by kernel_rfl) Try.func91 rfl (by kernel_rfl) (strings_Compare_ok ((x3.getD i1.toNat dnod).name) ((x3.getD i2.toNat dnod).name)) (trivial) rfl (And.intro (And.intro rfl rfl) (And.intro rfl (trivial))) ?_
              refine WD_takeK [11] [5] [5] (φ := True) (ls' := #[true, true, true, true, true, true, true, true, true, true, true, true]) (Ts' := [(5, I (strings_Compare ((x3.getD i1.toNat dnod).name) ((x3.getD i2.toNat dnod).name)))]) (st' := ⟨[(5, I (strings_Compare ((x3.getD i1.toNat dnod).name) ((x3.getD i2.toNat dnod).name)))], [.cells [.sl 1 0 k4], .row .nod x3 false]⟩) (n2 := 0) (by kernel_rfl) trivial rfl ?_
              exact WD_done [0, 1] [5] (st' := ⟨[(5, I (strings_Compare ((x3.getD i1.toNat dnod).name) ((x3.getD i2.toNat dnod).name)))], [.cells [.sl 1 0 k4], .row .nod x3 false]⟩) (by kernel_rfl) (by kernel_rfl) (And.intro rfl rfl)
      · refine WM_op (φ := 0 ≤ i2 ∧ i2 < ((k4 : Nat) : Int)) (v := .one (.e (.rp 1 i2.toNat 0))) (H' := [.cells [.sl 1 0 k4], .row .nod x3 false]) rfl rfl (by kernel_rfl) hg9 rfl (And.intro (And.intro rfl rfl) (And.intro rfl (trivial))) ?_
        refine WD_all [0, 8] (n := 7) (by kernel_rfl) rfl (And.intro ?_ (?_))
        · refine WM_op (φ := True) (v := .one (.e (.sl 1 0 k4))) (H' := [.cells [.sl 1 0 k4], .row .nod x3 false]) rfl rfl (by kernel_rfl) trivial rfl (And.intro (And.intro rfl rfl) (And.intro rfl (trivial))) ?_
          refine WD_all [2, 8] (n := 6) (by kernel_rfl) rfl (And.intro ?_ (?_))
          · refine WM_op (φ := 0 ≤ i1 ∧ i1 < ((k4 : Nat) : Int)) (v := .one (.e (.rp 1 i1.toNat 0))) (H' := [.cells [.sl 1 0 k4], .row .nod x3 false]) rfl rfl (by kernel_rfl) hg8 rfl (And.intro (And.intro rfl rfl) (And.intro rfl (trivial))) ?_
            refine WD_all [3, 8] (n := 5) (by kernel_rfl) rfl (And.intro ?_ (?_))
            · refine WM_op (φ := True) (v := .one (.e (.rp 1 i1.toNat 1))) (H' := [.cells [.sl 1 0 k4], .row .nod x3 false]) rfl rfl (by kernel_rfl) trivial rfl (And.intro (And.intro rfl rfl) (And.intro rfl (trivial))) ?_
              refine WD_all [4, 8] (n := 4) (by kernel_rfl) rfl (And.intro ?_ (?_))
              · refine WM_op (φ := True) (v := S ((x3.getD i1.toNat dnod).name)) (H' := [.cells [.sl 1 0 k4], .row .nod x3 false]) rfl rfl (by kernel_rfl) trivial rfl (And.intro (And.intro rfl rfl) (And.intro rfl (trivial))) ?_
                refine WD_all [8] (n := 3) (by kernel_rfl) rfl ?_
                refine WM_op (φ := True) (v := .one (.e (.rp 1 i2.toNat 1))) (H' := [.cells [.sl 1 0 k4], .row .nod x3 false]) rfl rfl (by kernel_rfl) trivial rfl (And.intro (And.intro rfl rfl) (And.intro rfl (trivial))) ?_
                refine WD_all [9] (n := 2) (by kernel_rfl) rfl ?_
                refine WM_op (φ := True) (v := S ((x3.getD i2.toNat dnod).name)) (H' := [.cells [.sl 1 0 k4], .row .nod x3 false]) rfl rfl (by kernel_rfl) trivial rfl (And.intro (And.intro rfl rfl) (And.intro rfl (trivial))) ?_
                refine WD_all [10] (n := 1) (by kernel_rfl) rfl ?_
                refine WM_call [] Try.f91 rfl rfl (by kernel_rfl) Try.func91 rfl (by kernel_rfl) (strings_Compare_ok ((x3.getD i1.toNat dnod).name) ((x3.getD i2.toNat dnod).name)) (trivial) rfl (And.intro (And.intro rfl rfl) (And.intro rfl (trivial))) ?_
                refine WD_takeK [11] [5] [5] (φ := True) (ls' := #[true, true, true, true, true, true, true, true, true, true, true, true]) (Ts' := [(5, I (strings_Compare ((x3.getD i1.toNat dnod).name) ((x3.getD i2.toNat dnod).name)))]) (st' := ⟨[(5, I (strings_Compare ((x3.getD i1.toNat dnod).name) ((x3.getD i2.toNat dnod).name)))], [.cells [.sl 1 0 k4], .row .nod x3 false]⟩) (n2 := 0) (by kernel_rfl) trivial rfl ?_
                exact WD_done [0, 1] [5] (st' := ⟨[(5, I (strings_Compare ((x3.getD i1.toNat dnod).name) ((x3.getD i2.toNat dnod).name)))], [.cells [.sl 1 0 k4], .row .nod x3 false]⟩) (by kernel_rfl) (by kernel_rfl) (And.intro rfl rfl)
              · refine WM_op (φ := True) (v := .one (.e (.rp 1 i2.toNat 1))) (H' := [.cells [.sl 1 0 k4], .row .nod x3 false]) rfl rfl (by kernel_rfl) trivial rfl (And.intro (And.intro rfl rfl) (And.intro rfl (trivial))) ?_
                refine WD_all [4, 9] (n := 3) (by kernel_rfl) rfl (And.intro ?_ (?_))
                · refine WM_op (φ := True) (v := S ((x3.getD i1.toNat dnod).name)) (H' := [.cells [.sl 1 0 k4], .row .nod x3 false]) rfl rfl (by kernel_rfl) trivial rfl (And.intro (And.intro rfl rfl) (And.intro rfl (trivial))) ?_
                  refine WD_all [9] (n := 2) (by kernel_rfl) rfl ?_
                  refine WM_op (φ := True) (v := S ((x3.getD i2.toNat dnod).name)) (H' := [.cells [.sl 1 0 k4], .row .nod x3 false]) rfl rfl (by kernel_rfl) trivial rfl (And.intro (And.intro rfl rfl) (And.intro rfl (trivial))) ?_
                  refine WD_all [10] (n := 1) (by kernel_rfl) rfl ?_
                  refine WM_call [] Try.f91 rfl rfl (by kernel_rfl) Try.func91 rfl (by kernel_rfl) (strings_Compare_ok ((x3.getD i1.toNat dnod).name) ((x3.getD i2.toNat dnod).name)) (trivial) rfl (And.intro (And.intro rfl rfl) (And.intro rfl (trivial))) ?_
                  refine WD_takeK [11] [5] [5] (φ := True) (ls' := #[true, true, true, true, true, true, true, true, true, true, true, true]) (Ts' := [(5, I (strings_Compare ((x3.getD i1.toNat dnod).name) ((x3.getD i2.toNat dnod).name)))]) (st' := ⟨[(5, I (strings_Compare ((x3.getD i1.toNat dnod).name) ((x3.getD i2.toNat dnod).name)))], [.cells [.sl 1 0 k4], .row .nod x3 false]⟩) (n2 := 0) (by kernel_rfl) trivial rfl ?_
                  exact WD_done [0, 1] [5] (st' := ⟨[(5, I (strings_Compare ((x3.getD i1.toNat dnod).name) ((x3.getD i2.toNat dnod).name)))], [.cells [.sl 1 0 k4], .row .nod x3 false]⟩) (by kernel_rfl) (by kernel_rfl) (And.intro rfl rfl)
                · refine WM_op (φ := True) (v := S ((x3.getD i2.toNat dnod).name)) (H' := [.cells [.sl 1 0 k4], .row .nod x3 false]) rfl rfl (by kernel_rfl) trivial rfl (And.intro (And.intro rfl rfl) (And.intro rfl (trivial))) ?_
                  refine WD_all [4] (n := 2) (by kernel_rfl) rfl ?_
                  refine WM_op (φ := True) (v := S ((x3.getD i1.toNat dnod).name)) (H' := [.cells [.sl 1 0 k4], .row .nod x3 false]) rfl rfl (by kernel_rfl) trivial rfl (And.intro (And.intro rfl rfl) (And.intro rfl (trivial))) ?_
                  refine WD_all [10] (n := 1) (by kernel_rfl) rfl ?_
                  refine WM_call [] Try.f91 rfl rfl (by kernel_rfl) Try.func91 rfl (by kernel_rfl) (strings_Compare_ok ((x3.getD i1.toNat dnod).name) ((x3.getD i2.toNat dnod).name)) (trivial) rfl (And.intro (And.intro rfl rfl) (And.intro rfl (trivial))) ?_
                  refine WD_takeK [11] [5] [5] (φ := True) (ls' := #[true, true, true, true, true, true, true, true, true, true, true, true]) (Ts' := [(5, I (strings_Compare ((x3.getD i1.toNat dnod).name) ((x3.getD i2.toNat dnod).name)))]) (st' := ⟨[(5, I (strings_Compare ((x3.getD i1.toNat dnod).name) ((x3.getD i2.toNat dnod).name)))], [.cells [.sl 1 0 k4], .row .nod x3 false]⟩) (n2 := 0) (by kernel_rfl) trivial rfl ?_
                  exact WD_done [0, 1] [5] (st' := ⟨[(5, I (strings_Compare ((x3.getD i1.toNat dnod).name) ((x3.getD i2.toNat dnod).name)))], [.cells [.sl 1 0 k4], .row .nod x3 false]⟩) (by kernel_rfl) (by kernel_rfl) (And.intro rfl rfl)
            · refine WM_op (φ := True) (v := .one (.e (.rp 1 i2.toNat 1))) (H' := [.cells [.sl 1 0 k4], .row .nod x3 false]) rfl rfl (by kernel_rfl) trivial rfl (And.intro (And.intro rfl rfl) (And.intro rfl (trivial))) ?_
              refine WD_all [3, 9] (n := 4) (by kernel_rfl) rfl (And.intro ?_ (?_))
              · refine WM_op (φ := True) (v := .one (.e (.rp 1 i1.toNat 1))) (H' := [.cells [.sl 1 0 k4], .row .nod x3 false]) rfl rfl (by kernel_rfl) trivial rfl (And.intro (And.intro rfl rfl) (And.intro rfl (trivial))) ?_
                refine WD_all [4, 9] (n := 3) (by kernel_rfl) rfl (And.intro ?_ (?_))
                · refine WM_op (φ := True) (v := S ((x3.getD i1.toNat dnod).name)) (H' := [.cells [.sl 1 0 k4], .row .nod x3 false]) rfl rfl (by kernel_rfl) trivial rfl (And.intro (And.intro rfl rfl) (And.intro rfl (trivial))) ?_
                  refine WD_all [9] (n := 2) (by kernel_rfl) rfl ?_
                  refine WM_op (φ := True) (v := S ((x3.getD i2.toNat dnod).name)) (H' := [.cells [.sl 1 0 k4], .row .nod x3 false]) rfl rfl (by kernel_rfl) trivial rfl (And.intro (And.intro rfl rfl) (And.intro rfl (trivial))) ?_
                  refine WD_all [10] (n := 1) (by kernel_rfl) rfl ?_
                  refine WM_call [] Try.f91 rfl rfl (by kernel_rfl) Try.func91 rfl (by kernel_rfl) (strings_Compare_ok ((x3.getD i1.toNat dnod).name) ((x3.getD i2.toNat dnod).name)) (trivial) rfl (And.intro (And.intro rfl rfl) (And.intro rfl (trivial))) ?_
                  refine WD_takeK [11] [5] [5] (φ := True) (ls' := #[true, true, true, true, true, true, true, true, true, true, true, true]) (Ts' := [(5, I (strings_Compare ((x3.getD i1.toNat dnod).name) ((x3.getD i2.toNat dnod).name)))]) (st' := ⟨[(5, I (strings_Compare ((x3.getD i1.toNat dnod).name) ((x3.getD i2.toNat dnod).name)))], [.cells [.sl 1 0 k4], .row .nod x3 false]⟩) (n2 := 0) (by kernel_rfl) trivial rfl ?_
                  exact WD_done [0, 1] [5] (st' := ⟨[(5, I (strings_Compare ((x3.getD i1.toNat dnod).name) ((x3.getD i2.toNat dnod).name)))], [.cells [.sl 1 0 k4], .row .nod x3 false]⟩) (by kernel_rfl) (by kernel_rfl) (And.intro rfl rfl)
                · refine WM_op (φ := True) (v := S ((x3.getD i2.toNat dnod).name)) (H' := [.cells [.sl 1 0 k4], .row .nod x3 false]) rfl rfl (by kernel_rfl) trivial rfl (And.intro (And.intro rfl rfl) (And.intro rfl (trivial))) ?_
                  refine WD_all [4] (n := 2) (by kernel_rfl) rfl ?_
                  refine WM_op (φ := True) (v := S ((x3.getD i1.toNat dnod).name)) (H' := [.cells [.sl 1 0 k4], .row .nod x3 false]) rfl rfl (by kernel_rfl) trivial rfl (And.intro (And.intro rfl rfl) (And.intro rfl (trivial))) ?_
                  refine WD_all [10] (n := 1) (by kernel_rfl) rfl ?_
                  refine WM_call [] Try.f91 rfl rfl (by kernel_rfl) Try.func91 rfl (by kernel_rfl) (strings_Compare_ok ((x3.getD i1.toNat dnod).name) ((x3.getD i2.toNat dnod).name)) (trivial) rfl (And.intro (And.intro rfl rfl) (And.intro rfl (trivial))) ?_
                  refine WD_takeK [11] [5] [5] (φ := True) (ls' := #[true, true, true, true, true, true, true, true, true, true, true, true]) (Ts' := [(5, I (strings_Compare ((x3.getD i1.toNat dnod).name) ((x3.getD i2.toNat dnod).name)))]) (st' := ⟨[(5, I (strings_Compare ((x3.getD i1.toNat dnod).name) ((x3.getD i2.toNat dnod).name)))], [.cells [.sl 1 0 k4], .row .nod x3 false]⟩) (n2 := 0) (by kernel_rfl) trivial rfl ?_
                  exact WD_done [0, 1] [5] (st' := ⟨[(5, I (strings_Compare ((x3.getD i1.toNat dnod).name) ((x3.getD i2.toNat dnod).name)))], [.cells [.sl 1 0 k4], .row .nod x3 false]⟩) (by kernel_rfl) (by kernel_rfl) (And.intro rfl rfl)
              · refine WM_op (φ := True) (v := S ((x3.getD i2.toNat dnod).name)) (H' := [.cells [.sl 1 0 k4], .row .nod x3 false]) rfl rfl (by kernel_rfl) trivial rfl (And.intro (And.intro rfl rfl) (And.intro rfl (trivial))) ?_
                refine WD_all [3] (n := 3) (by kernel_rfl) rfl ?_
                refine WM_op (φ := True) (v := .one (.e (.rp 1 i1.toNat 1))) (H' := [.cells [.sl 1 0 k4], .row .nod x3 false]) rfl rfl (by kernel_rfl) trivial rfl (And.intro (And.intro rfl rfl) (And.intro rfl (trivial))) ?_
                refine WD_all [4] (n := 2) (by kernel_rfl) rfl ?_
                refine WM_op (φ := True) (v := S ((x3.getD i1.toNat dnod).name)) (H' := [.cells [.sl 1 0 k4], .row .nod x3 false]) rfl rfl (by kernel_rfl) trivial rfl (And.intro (And.intro rfl rfl) (And.intro rfl (trivial))) ?_
                refine WD_all [10] (n := 1) (by kernel_rfl) rfl ?_
                refine WM_call [] Try.f91 rfl rfl (by kernel_rfl) Try.func91 rfl (by kernel_rfl) (strings_Compare_ok ((x3.getD i1.toNat dnod).name) ((x3.getD i2.toNat dnod).name)) (trivial) rfl (And.intro (And.intro rfl rfl) (And.intro rfl (trivial))) ?_
                refine WD_takeK [11] [5] [5] (φ := True) (ls' := #[true, true, true, true, true, true, true, true, true, true, true, true]) (Ts' := [(5, I (strings_Compare ((x3.getD i1.toNat dnod).name) ((x3.getD i2.toNat dnod).name)))]) (st' := ⟨[(5, I (strings_Compare ((x3.getD i1.toNat dnod).name) ((x3.getD i2.toNat dnod).name)))], [.cells [.sl 1 0 k4], .row .nod x3 false]⟩) (n2 := 0) (by kernel_rfl) trivial rfl ?_
                exact WD_done [0, 1] [5] (st' := ⟨[(5, I (strings_Compare ((x3.getD i1.toNat dnod).name) ((x3.getD i2.toNat dnod).name)))], [.cells [.sl 1 0 k4], .row .nod x3 false]⟩) (by kernel_rfl) (by kernel_rfl) (And.intro rfl rfl)
          · refine WM_op (φ := True) (v := .one (.e (.rp 1 i2.toNat 1))) (H' := [.cells [.sl 1 0 k4], .row .nod x3 false]) rfl rfl (by kernel_rfl) trivial rfl (And.intro (And.intro rfl rfl) (And.intro rfl (trivial))) ?_
            refine WD_all [2, 9] (n := 5) (by kernel_rfl) rfl (And.intro ?_ (?_))
            · refine WM_op (φ := 0 ≤ i1 ∧ i1 < ((k4 : Nat) : Int)) (v := .one (.e (.rp 1 i1.toNat 0))) (H' := [.cells [.sl 1 0 k4], .row .nod x3 false]) rfl rfl (by kernel_rfl) hg8 rfl (And.intro (And.intro rfl rfl) (And.intro rfl (trivial))) ?_
              refine WD_all [3, 9] (n := 4) (by kernel_rfl) rfl (And.intro ?_ (?_))
              · refine WM_op (φ := True) (v := .one (.e (.rp 1 i1.toNat 1))) (H' := [.cells [.sl 1 0 k4], .row .nod x3 false]) rfl rfl (by kernel_rfl) trivial rfl (And.intro (And.intro rfl rfl) (And.intro rfl (trivial))) ?_
                refine WD_all [4, 9] (n := 3) (by kernel_rfl) rfl (And.intro ?_ (?_))
                · refine WM_op (φ := True) (v := S ((x3.getD i1.toNat dnod).name)) (H' := [.cells [.sl 1 0 k4], .row .nod x3 false]) rfl rfl (by kernel_rfl) trivial rfl (And.intro (And.intro rfl rfl) (And.intro rfl (trivial))) ?_
                  refine WD_all [9] (n := 2) (by kernel_rfl) rfl ?_
                  refine WM_op (φ := True) (v := S ((x3.getD i2.toNat dnod).name)) (H' := [.cells [.sl 1 0 k4], .row .nod x3 false]) rfl rfl (by kernel_rfl) trivial rfl (And.intro (And.intro rfl rfl) (And.intro rfl (trivial))) ?_
                  refine WD_all [10] (n := 1) (by kernel_rfl) rfl ?_
                  refine WM_call [] Try.f91 rfl rfl (by kernel_rfl) Try.func91 rfl (by kernel_rfl) (strings_Compare_ok ((x3.getD i1.toNat dnod).name) ((x3.getD i2.toNat dnod).name)) (trivial) rfl (And.intro (And.intro rfl rfl) (And.intro rfl (trivial))) ?_
                  refine WD_takeK [11] [5] [5] (φ := True) (ls' := #[true, true, true, true, true, true, true, true, true, true, true, true]) (Ts' := [(5, I (strings_Compare ((x3.getD i1.toNat dnod).name) ((x3.getD i2.toNat dnod).name)))]) (st' := ⟨[(5, I (strings_Compare ((x3.getD i1.toNat dnod).name) ((x3.getD i2.toNat dnod).name)))], [.cells [.sl 1 0 k4], .row .nod x3 false]⟩) (n2 := 0) (by kernel_rfl) trivial rfl ?_
                  exact WD_done [0, 1] [5] (st' := ⟨[(5, I (strings_Compare ((x3.getD i1.toNat dnod).name) ((x3.getD i2.toNat dnod).name)))], [.cells [.sl 1 0 k4], .row .nod x3 false]⟩) (by kernel_rfl) (by kernel_rfl) (And.intro rfl rfl)
                · refine WM_op (φ := True) (v := S ((x3.getD i2.toNat dnod).name)) (H' := [.cells [.sl 1 0 k4], .row .nod x3 false]) rfl rfl (by kernel_rfl) trivial rfl (And.intro (And.intro rfl rfl) (And.intro rfl (trivial))) ?_
                  refine WD_all [4] (n := 2) (by kernel_rfl) rfl ?_
                  refine WM_op (φ := True) (v := S ((x3.getD i1.toNat dnod).name)) (H' := [.cells [.sl 1 0 k4], .row .nod x3 false]) rfl rfl (by kernel_rfl) trivial rfl (And.intro (And.intro rfl rfl) (And.intro rfl (trivial))) ?_
                  refine WD_all [10] (n := 1) (by kernel_rfl) rfl ?_
                  refine WM_call [] Try.f91 rfl rfl (by kernel_rfl) Try.func91 rfl (by kernel_rfl) (strings_Compare_ok ((x3.getD i1.toNat dnod).name) ((x3.getD i2.toNat dnod).name)) (trivial) rfl (And.intro (And.intro rfl rfl) (And.intro rfl (trivial))) ?_
                  refine WD_takeK [11] [5] [5] (φ := True) (ls' := #[true, true, true, true, true, true, true, true, true, true, true, true]) (Ts' := [(5, I (strings_Compare ((x3.getD i1.toNat dnod).name) ((x3.getD i2.toNat dnod).name)))]) (st' := ⟨[(5, I (strings_Compare ((x3.getD i1.toNat dnod).name) ((x3.getD i2.toNat dnod).name)))], [.cells [.sl 1 0 k4], .row .nod x3 false]⟩) (n2 := 0) (by kernel_rfl) trivial rfl ?_
                  exact WD_done [0, 1] [5] (st' := ⟨[(5, I (strings_Compare ((x3.getD i1.toNat dnod).name) ((x3.getD i2.toNat dnod).name)))], [.cells [.sl 1 0 k4], .row .nod x3 false]⟩) (by kernel_rfl) (by kernel_rfl) (And.intro rfl rfl)
              · refine WM_op (φ := True) (v := S ((x3.getD i2.toNat dnod).name)) (H' := [.cells [.sl 1 0 k4], .row .nod x3 false]) rfl rfl (by kernel_rfl) trivial rfl (And.intro (And.intro rfl rfl) (And.intro rfl (trivial))) ?_
                refine WD_all [3] (n := 3) (by kernel_rfl) rfl ?_
                refine WM_op (φ := True) (v := .one (.e (.rp 1 i1.toNat 1))) (H' := [.cells [.sl 1 0 k4], .row .nod x3 false]) rfl rfl (by kernel_rfl) trivial rfl (And.intro (And.intro rfl rfl) (And.intro rfl (trivial))) ?_
                refine WD_all [4] (n := 2) (by kernel_rfl) rfl ?_
                refine WM_op (φ := True) (v := S ((x3.getD i1.toNat dnod).name)) (H' := [.cells [.sl 1 0 k4], .row .nod x3 false]) rfl rfl (by kernel_rfl) trivial rfl (And.intro (And.intro rfl rfl) (And.intro rfl (trivial))) ?_
                refine WD_all [10] (n := 1) (by kernel_rfl) rfl ?_
                refine WM_call [] Try.f91 rfl rfl (by kernel_rfl) Try.func91 rfl (by kernel_rfl) (strings_Compare_ok ((x3.getD i1.toNat dnod).name) ((x3.getD i2.toNat dnod).name)) (trivial) rfl (And.intro (And.intro rfl rfl) (And.intro rfl (trivial))) ?_
                refine WD_takeK [11] [5] [5] (φ := True) (ls' := #[true, true, true, true, true, true, true, true, true, true, true, true]) (Ts' := [(5, I (strings_Compare ((x3.getD i1.toNat dnod).name) ((x3.getD i2.toNat dnod).name)))]) (st' := ⟨[(5, I (strings_Compare ((x3.getD i1.toNat dnod).name) ((x3.getD i2.toNat dnod).name)))], [.cells [.sl 1 0 k4], .row .nod x3 false]⟩) (n2 := 0) (by kernel_rfl) trivial rfl ?_
                exact WD_done [0, 1] [5] (st' := ⟨[(5, I (strings_Compare ((x3.getD i1.toNat dnod).name) ((x3.getD i2.toNat dnod).name)))], [.cells [.sl 1 0 k4], .row .nod x3 false]⟩) (by kernel_rfl) (by kernel_rfl) (And.intro rfl rfl)
            · refine WM_op (φ := True) (v := S ((x3.getD i2.toNat dnod).name)) (H' := [.cells [.sl 1 0 k4], .row .nod x3 false]) rfl rfl (by kernel_rfl) trivial rfl (And.intro (And.intro rfl rfl) (And.intro rfl (trivial))) ?_
              refine WD_all [2] (n := 4) (by kernel_rfl) rfl ?_
              refine WM_op (φ := 0 ≤ i1 ∧ i1 < ((k4 : Nat) : Int)) (v := .one (.e (.rp 1 i1.toNat 0))) (H' := [.cells [.sl 1 0 k4], .row .nod x3 false]) rfl rfl (by kernel_rfl) hg8 rfl (And.intro (And.intro rfl rfl) (And.intro rfl (trivial))) ?_
              refine WD_all [3] (n := 3) (by kernel_rfl) rfl ?_
              refine WM_op (φ := True) (v := .one (.e (.rp 1 i1.toNat 1))) (H' := [.cells [.sl 1 0 k4], .row .nod x3 false]) rfl rfl (by kernel_rfl) trivial rfl (And.intro (And.intro rfl rfl) (And.intro rfl (trivial))) ?_
              refine WD_all [4] (n := 2) (by kernel_rfl) rfl ?_
              refine WM_op (φ := True) (v := S ((x3.getD i1.toNat dnod).name)) (H' := [.cells [.sl 1 0 k4], .row .nod x3 false]) rfl rfl (by kernel_rfl) trivial rfl (And.intro (And.intro rfl rfl) (And.intro rfl (trivial))) ?_
              refine WD_all [10] (n := 1) (by kernel_rfl) rfl ?_
              refine WM_call [] Try.f91 rfl rfl (by kernel_rfl) Try.func91 rfl (by kernel_rfl) (strings_Compare_ok ((x3.getD i1.toNat dnod).name) ((x3.getD i2.toNat dnod).name)) (trivial) rfl (And.intro (And.intro rfl rfl) (And.intro rfl (trivial))) ?_
              refine WD_takeK [11] [5] [5] (φ := True) (ls' := #[true, true, true, true, true, true, true, true, true, true, true, true]) (Ts' := [(5, I (strings_Compare ((x3.getD i1.toNat dnod).name) ((x3.getD i2.toNat dnod).name)))]) (st' := ⟨[(5, I (strings_Compare ((x3.getD i1.toNat dnod).name) ((x3.getD i2.toNat dnod).name)))], [.cells [.sl 1 0 k4], .row .nod x3 false]⟩) (n2 := 0) (by kernel_rfl) trivial rfl ?_
              exact WD_done [0, 1] [5] (st' := ⟨[(5, I (strings_Compare ((x3.getD i1.toNat dnod).name) ((x3.getD i2.toNat dnod).name)))], [.cells [.sl 1 0 k4], .row .nod x3 false]⟩) (by kernel_rfl) (by kernel_rfl) (And.intro rfl rfl)
        · refine WM_op (φ := True) (v := .one (.e (.rp 1 i2.toNat 1))) (H' := [.cells [.sl 1 0 k4], .row .nod x3 false]) rfl rfl (by kernel_rfl) trivial rfl (And.intro (And.intro rfl rfl) (And.intro rfl (trivial))) ?_
          refine WD_all [0, 9] (n := 6) (by kernel_rfl) rfl (And.intro ?_ (?_))
          · refine WM_op (φ := True) (v := .one (.e (.sl 1 0 k4))) (H' := [.cells [.sl 1 0 k4], .row .nod x3 false]) rfl rfl (by kernel_rfl) trivial rfl (And.intro (And.intro rfl rfl) (And.intro rfl (trivial))) ?_
            refine WD_all [2, 9] (n := 5) (by kernel_rfl) rfl (And.intro ?_ (?_))
            · refine WM_op (φ := 0 ≤ i1 ∧ i1 < ((k4 : Nat) : Int)) (v := .one (.e (.rp 1 i1.toNat 0))) (H' := [.cells [.sl 1 0 k4], .row .nod x3 false]) rfl rfl (by kernel_rfl) hg8 rfl (And.intro (And.intro rfl rfl) (And.intro rfl (trivial))) ?_
              refine WD_all [3, 9] (n := 4) (by kernel_rfl) rfl (And.intro ?_ (?_))
              · refine WM_op (φ := True) (v := .one (.e (.rp 1 i1.toNat 1))) (H' := [.cells [.sl 1 0 k4], .row .nod x3 false]) rfl rfl (by kernel_rfl) trivial rfl (And.intro (And.intro rfl rfl) (And.intro rfl (trivial))) ?_
                refine WD_all [4, 9] (n := 3) (by kernel_rfl) rfl (And.intro ?_ (?_))
                · refine WM_op (φ := True) (v := S ((x3.getD i1.toNat dnod).name)) (H' := [.cells [.sl 1 0 k4], .row .nod x3 false]) rfl rfl (by kernel_rfl) trivial rfl (And.intro (And.intro rfl rfl) (And.intro rfl (trivial))) ?_
                  refine WD_all [9] (n := 2) (by kernel_rfl) rfl ?_
                  refine WM_op (φ := True) (v := S ((x3.getD i2.toNat dnod).name)) (H' := [.cells [.sl 1 0 k4], .row .nod x3 false]) rfl rfl (by kernel_rfl) trivial rfl (And.intro (And.intro rfl rfl) (And.intro rfl (trivial))) ?_
                  refine WD_all [10] (n := 1) (by kernel_rfl) rfl ?_
                  refine WM_call [] Try.f91 rfl rfl (by kernel_rfl) Try.func91 rfl (by kernel_rfl) (strings_Compare_ok ((x3.getD i1.toNat dnod).name) ((x3.getD i2.toNat dnod).name)) (trivial) rfl (And.intro (And.intro rfl rfl) (And.intro rfl (trivial))) ?_
                  refine WD_takeK [11] [5] [5] (φ := True) (ls' := #[true, true, true, true, true, true, true, true, true, true, true, true]) (Ts' := [(5, I (strings_Compare ((x3.getD i1.toNat dnod).name) ((x3.getD i2.toNat dnod).name)))]) (st' := ⟨[(5, I (strings_Compare ((x3.getD i1.toNat dnod).name) ((x3.getD i2.toNat dnod).name)))], [.cells [.sl 1 0 k4], .row .nod x3 false]⟩) (n2 := 0) (by kernel_rfl) trivial rfl ?_
                  exact WD_done [0, 1] [5] (st' := ⟨[(5, I (strings_Compare ((x3.getD i1.toNat dnod).name) ((x3.getD i2.toNat dnod).name)))], [.cells [.sl 1 0 k4], .row .nod x3 false]⟩) (by kernel_rfl) (by kernel_rfl) (And.intro rfl rfl)
                · refine WM_op (φ := True) (v := S ((x3.getD i2.toNat dnod).name)) (H' := [.cells [.sl 1 0 k4], .row .nod x3 false]) rfl rfl (by kernel_rfl) trivial rfl (And.intro (And.intro rfl rfl) (And.intro rfl (trivial))) ?_
                  refine WD_all [4] (n := 2) (by kernel_rfl) rfl ?_
                  refine WM_op (φ := True) (v := S ((x3.getD i1.toNat dnod).name)) (H' := [.cells [.sl 1 0 k4], .row .nod x3 false]) rfl rfl (by kernel_rfl) trivial rfl (And.intro (And.intro rfl rfl) (And.intro rfl (trivial))) ?_
                  refine WD_all [10] (n := 1) (by kernel_rfl) rfl ?_
                  refine WM_call [] Try.f91 rfl rfl (by kernel_rfl) Try.func91 rfl (by kernel_rfl) (strings_Compare_ok ((x3.getD i1.toNat dnod).name) ((x3.getD i2.toNat dnod).name)) (trivial) rfl (And.intro (And.intro rfl rfl) (And.intro rfl (trivial))) ?_
                  refine WD_takeK [11] [5] [5] (φ := True) (ls' := #[true, true, true, true, true, true, true, true, true, true, true, true]) (Ts' := [(5, I (strings_Compare ((x3.getD i1.toNat dnod).name) ((x3.getD i2.toNat dnod).name)))]) (st' := ⟨[(5, I (strings_Compare ((x3.getD i1.toNat dnod).name) ((x3.getD i2.toNat dnod).name)))], [.cells [.sl 1 0 k4], .row .nod x3 false]⟩) (n2 := 0) (by kernel_rfl) trivial rfl ?_
                  exact WD_done [0, 1] [5] (st' := ⟨[(5, I (strings_Compare ((x3.getD i1.toNat dnod).name) ((x3.getD i2.toNat dnod).name)))], [.cells [.sl 1 0 k4], .row .nod x3 false]⟩) (by kernel_rfl) (by kernel_rfl) (And.intro rfl rfl)
              · refine WM_op (φ := True) (v := S ((x3.getD i2.toNat dnod).name)) (H' := [.cells [.sl 1 0 k4], .row .nod x3 false]) rfl rfl (by kernel_rfl) trivial rfl (And.intro (And.intro rfl rfl) (And.intro rfl (trivial))) ?_
                refine WD_all [3] (n := 3) (by kernel_rfl) rfl ?_
                refine WM_op (φ := True) (v := .one (.e (.rp 1 i1.toNat 1))) (H' := [.cells [.sl 1 0 k4], .row .nod x3 false]) rfl rfl (by kernel_rfl) trivial rfl (And.intro (And.intro rfl rfl) (And.intro rfl (trivial))) ?_
                refine WD_all [4] (n := 2) (by kernel_rfl) rfl ?_
                refine WM_op (φ := True) (v := S ((x3.getD i1.toNat dnod).name)) (H' := [.cells [.sl 1 0 k4], .row .nod x3 false]) rfl rfl (by kernel_rfl) trivial rfl (And.intro (And.intro rfl rfl) (And.intro rfl (trivial))) ?_
                refine WD_all [10] (n := 1) (by kernel_rfl) rfl ?_
                refine WM_call [] Try.f91 rfl rfl (by kernel_rfl) Try.func91 rfl (by kernel_rfl) (strings_Compare_ok ((x3.getD i1.toNat dnod).name) ((x3.getD i2.toNat dnod).name)) (trivial) rfl (And.intro (And.intro rfl rfl) (And.intro rfl (trivial))) ?_
                refine WD_takeK [11] [5] [5] (φ := True) (ls' := #[true, true, true, true, true, true, true, true, true, true, true, true]) (Ts' := [(5, I (strings_Compare ((x3.getD i1.toNat dnod).name) ((x3.getD i2.toNat dnod).name)))]) (st' := ⟨[(5, I (strings_Compare ((x3.getD i1.toNat dnod).name) ((x3.getD i2.toNat dnod).name)))], [.cells [.sl 1 0 k4], .row .nod x3 false]⟩) (n2 := 0) (by kernel_rfl) trivial rfl ?_
                exact WD_done [0, 1] [5] (st' := ⟨[(5, I (strings_Compare ((x3.getD i1.toNat dnod).name) ((x3.getD i2.toNat dnod).name)))], [.cells [.sl 1 0 k4], .row .nod x3 false]⟩) (by kernel_rfl) (by kernel_rfl) (And.intro rfl rfl)
            · refine WM_op (φ := True) (v := S ((x3.getD i2.toNat dnod).name)) (H' := [.cells [.sl 1 0 k4], .row .nod x3 false]) rfl rfl (by kernel_rfl) trivial rfl (And.intro (And.intro rfl rfl) (And.intro rfl (trivial))) ?_
              refine WD_all [2] (n := 4) (by kernel_rfl) rfl ?_
              refine WM_op (φ := 0 ≤ i1 ∧ i1 < ((k4 : Nat) : Int)) (v := .one (.e (.rp 1 i1.toNat 0))) (H' := [.cells [.sl 1 0 k4], .row .nod x3 false]) rfl rfl (by kernel_rfl) hg8 rfl (And.intro (And.intro rfl rfl) (And.intro rfl (trivial))) ?_
              refine WD_all [3] (n := 3) (by kernel_rfl) rfl ?_
              refine WM_op (φ := True) (v := .one (.e (.rp 1 i1.toNat 1))) (H' := [.cells [.sl 1 0 k4], .row .nod x3 false]) rfl rfl (by kernel_rfl) trivial rfl (And.intro (And.intro rfl rfl) (And.intro rfl (trivial))) ?_
              refine WD_all [4] (n := 2) (by kernel_rfl) rfl ?_
              refine WM_op (φ := True) (v := S ((x3.getD i1.toNat dnod).name)) (H' := [.cells [.sl 1 0 k4], .row .nod x3 false]) rfl rfl (by kernel_rfl) trivial rfl (And.intro (And.intro rfl rfl) (And.intro rfl (trivial))) ?_
              refine WD_all [10] (n := 1) (by kernel_rfl) rfl ?_
              refine WM_call [] Try.f91 rfl rfl (by kernel_rfl) Try.func91 rfl (by kernel_rfl) (strings_Compare_ok ((x3.getD i1.toNat dnod).name) ((x3.getD i2.toNat dnod).name)) (trivial) rfl (And.intro (And.intro rfl rfl) (And.intro rfl (trivial))) ?_
              refine WD_takeK [11] [5] [5] (φ := True) (ls' := #[true, true, true, true, true, true, true, true, true, true, true, true]) (Ts' := [(5, I (strings_Compare ((x3.getD i1.toNat dnod).name) ((x3.getD i2.toNat dnod).name)))]) (st' := ⟨[(5, I (strings_Compare ((x3.getD i1.toNat dnod).name) ((x3.getD i2.toNat dnod).name)))], [.cells [.sl 1 0 k4], .row .nod x3 false]⟩) (n2 := 0) (by kernel_rfl) trivial rfl ?_
              exact WD_done [0, 1] [5] (st' := ⟨[(5, I (strings_Compare ((x3.getD i1.toNat dnod).name) ((x3.getD i2.toNat dnod).name)))], [.cells [.sl 1 0 k4], .row .nod x3 false]⟩) (by kernel_rfl) (by kernel_rfl) (And.intro rfl rfl)
          · refine WM_op (φ := True) (v := S ((x3.getD i2.toNat dnod).name)) (H' := [.cells [.sl 1 0 k4], .row .nod x3 false]) rfl rfl (by kernel_rfl) trivial rfl (And.intro (And.intro rfl rfl) (And.intro rfl (trivial))) ?_
            refine WD_all [0] (n := 5) (by kernel_rfl) rfl ?_
            refine WM_op (φ := True) (v := .one (.e (.sl 1 0 k4))) (H' := [.cells [.sl 1 0 k4], .row .nod x3 false]) rfl rfl (by kernel_rfl) trivial rfl (And.intro (And.intro rfl rfl) (And.intro rfl (trivial))) ?_
            refine WD_all [2] (n := 4) (by kernel_rfl) rfl ?_
            refine WM_op (φ := 0 ≤ i1 ∧ i1 < ((k4 : Nat) : Int)) (v := .one (.e (.rp 1 i1.toNat 0))) (H' := [.cells [.sl 1 0 k4], .row .nod x3 false]) rfl rfl (by kernel_rfl) hg8 rfl (And.intro (And.intro rfl rfl) (And.intro rfl (trivial))) ?_
            refine WD_all [3] (n := 3) (by kernel_rfl) rfl ?_
            refine WM_op (φ := True) (v := .one (.e (.rp 1 i1.toNat 1))) (H' := [.cells [.sl 1 0 k4], .row .nod x3 false]) rfl rfl (by kernel_rfl) trivial rfl (And.intro (And.intro rfl rfl) (And.intro rfl (trivial))) ?_
            refine WD_all [4] (n := 2) (by kernel_rfl) rfl ?_
            refine WM_op (φ := True) (v := S ((x3.getD i1.toNat dnod).name)) (H' := [.cells [.sl 1 0 k4], .row .nod x3 false]) rfl rfl (by kernel_rfl) trivial rfl (And.intro (And.intro rfl rfl) (And.intro rfl (trivial))) ?_
            refine WD_all [10] (n := 1) (by kernel_rfl) rfl ?_
            refine WM_call [] Try.f91 rfl rfl (by kernel_rfl) Try.func91 rfl (by kernel_rfl) (strings_Compare_ok ((x3.getD i1.toNat dnod).name) ((x3.getD i2.toNat dnod).name)) (trivial) rfl (And.intro (And.intro rfl rfl) (And.intro rfl (trivial))) ?_
            refine WD_takeK [11] [5] [5] (φ := True) (ls' := #[true, true, true, true, true, true, true, true, true, true, true, true]) (Ts' := [(5, I (strings_Compare ((x3.getD i1.toNat dnod).name) ((x3.getD i2.toNat dnod).name)))]) (st' := ⟨[(5, I (strings_Compare ((x3.getD i1.toNat dnod).name) ((x3.getD i2.toNat dnod).name)))], [.cells [.sl 1 0 k4], .row .nod x3 false]⟩) (n2 := 0) (by kernel_rfl) trivial rfl ?_
            exact WD_done [0, 1] [5] (st' := ⟨[(5, I (strings_Compare ((x3.getD i1.toNat dnod).name) ((x3.getD i2.toNat dnod).name)))], [.cells [.sl 1 0 k4], .row .nod x3 false]⟩) (by kernel_rfl) (by kernel_rfl) (And.intro rfl rfl)
  · rintro _ _ ⟨rfl, rfl⟩
    refine thenS_n ?_
    refine W_ret ?_
    cases h
    exact ⟨[0, 1], True, by kernel_rfl, trivial⟩

/- slices.insertionSortCmpFunc[int] -/
def slices_insertionSortCmpFunc_int_impl_walkFrom_1_L2 (k2 : Nat) (i3 : Int) (i4 : Int) (i420 : Int) (k6 : Nat) (x5 : List Nod) : Nat → (List Int) → Int → Option ((List Int))
| 0, _, _ => none
| n + 1, x590, i591 =>
 bindO (iteO (decide (i3 < i591))
 (guardO (0 ≤ i591 ∧ i591 < ((k2 : Nat) : Int)) <|
 guardO (0 ≤ (w64 (i591 - 1)) ∧ (w64 (i591 - 1)) < ((k2 : Nat) : Int)) <|
 bindO (impl_walkFrom_1 (x590.getD i591.toNat 0) (x590.getD ((w64 (i591 - 1)).toNat) 0) x5 k6) fun i616 =>
 some (decide (i616 < 0)))
 (some false)) fun b618 =>
 iteO b618
 (guardO (0 ≤ (w64 (i591 - 1)) ∧ (w64 (i591 - 1)) < ((k2 : Nat) : Int)) <|
 guardO (0 ≤ i591 ∧ i591 < ((k2 : Nat) : Int)) <|
 guardO (0 ≤ i591 ∧ i591 < ((k2 : Nat) : Int)) <|
 guardO (0 ≤ (w64 (i591 - 1)) ∧ (w64 (i591 - 1)) < ((k2 : Nat) : Int)) <|
 slices_insertionSortCmpFunc_int_impl_walkFrom_1_L2 k2 i3 i4 i420 k6 x5 n ((x590.set i591.toNat (x590.getD ((w64 (i591 - 1)).toNat) 0)).set ((w64 (i591 - 1)).toNat) (x590.getD i591.toNat 0)) (w64 (i591 - 1)))
 (some x590)

theorem slices_insertionSortCmpFunc_int_impl_walkFrom_1_L2_ok (w : World) (X : Nat → Prop) (θ : List Loc) (k2 : Nat) (i3 : Int) (i4 : Int) (i420 : Int) (k6 : Nat) (x5 : List Nod) (x611 : (List Int)) : ∀ (n : Nat) (x590 : List Int) (i591 : Int), slices_insertionSortCmpFunc_int_impl_walkFrom_1_L2 k2 i3 i4 i420 k6 x5 n x590 i591 = some x611 → WL EE ⟨w, X, θ, 53, 3⟩ (subC [1, 4, 4, 1, 0, 4, 1, 4, 4] (bodyC Try.f106)) (fun (e : Exit) (s : St) => e = .exit 2 ∧ s = ⟨[(0, .one (.e (.sl 0 0 k2))), (1, I i3), (2, I i4), (3, .one (.fn 90 [.p 1 0])), (8, I i420)], [.row .int x611 true, .cells [.sl 2 0 k6], .row .nod x5 false]⟩) ⟨[(0, .one (.e (.sl 0 0 k2))), (1, I i3), (2, I i4), (3, .one (.fn 90 [.p 1 0])), (8, I i420), (9, I i591)], [.row .int x590 true, .cells [.sl 2 0 k6], .row .nod x5 false]⟩ := by
  intro n
  induction n with
  | zero => intro _ _ h; exact none_e h
  | succ n ih =>
    intro x590 i591 h
    rw [slices_insertionSortCmpFunc_int_impl_walkFrom_1_L2] at h
    refine WL_round ?_
    refine W_seq ?_
    refine W_seq ?_
    refine bindO_e h (fun b618 hv619 h => ?_)
    refine W_cut (Q' := fun (e : Exit) (s : St) => e = .normal ∧ s = ⟨[(0, .one (.e (.sl 0 0 k2))), (1, I i3), (2, I i4), (3, .one (.fn 90 [.p 1 0])), (8, I i420), (9, I i591), (34, B b618)], [.row .int x590 true, .cells [.sl 2 0 k6], .row .nod x5 false]⟩) ?_ ?_
    · refine iteO_e hv619 (fun hb613 hv619 => ?_) (fun hb613 hv619 => ?_)
      · refine guardO_e hv619 (fun hg614 hv619 => ?_)
        refine guardO_e hv619 (fun hg615 hv619 => ?_)
        refine bindO_e hv619 (fun i616 hc617 hv619 => ?_)
        refine W_draw [1] false (by kernel_rfl) (by kernel_rfl) ?_
        refine WD_takeK [0, 1, 2, 3] [0, 1, 2, 3, 8, 9, 21] [0, 1, 2, 3, 8, 9, 21] (φ := (True ∧ True ∧ True)) (ls' := #[true, true, true, true, false, false, false, false, false, false, false, false, false, false, false, false, false]) (Ts' := [(0, .one (.e (.sl 0 0 k2))), (1, I i3), (2, I i4), (3, .one (.fn 90 [.p 1 0])), (8, I i420), (9, I i591), (21, B (decide (i3 < i591)))]) (st' := ⟨[(0, .one (.e (.sl 0 0 k2))), (1, I i3), (2, I i4), (3, .one (.fn 90 [.p 1 0])), (8, I i420), (9, I i591), (21, B (decide (i3 < i591)))], [.row .int x590 true, .cells [.sl 2 0 k6], .row .nod x5 false]⟩) (n2 := 13) (by kernel_rfl) ⟨trivial, trivial, trivial⟩ rfl ?_
        refine WD_known 21 true rfl rfl hb613 ?_
        refine WD_takeK [4, 5, 6, 7, 8, 9, 10, 11, 12, 13] [0, 1, 2, 3, 8, 9, 21, 22, 26, 31] [0, 1, 2, 3, 8, 9, 21, 22, 26, 31] (φ := ((0 ≤ i591 ∧ i591 < ((k2 : Nat) : Int)) ∧ (0 ≤ i591 ∧ i591 < ((k2 : Nat) : Int)) ∧ (True ∧ True ∧ (True ∧ True ∧ ((0 ≤ (w64 (i591 - 1)) ∧ (w64 (i591 - 1)) < ((k2 : Nat) : Int)) ∧ (0 ≤ (w64 (i591 - 1)) ∧ (w64 (i591 - 1)) < ((k2 : Nat) : Int)) ∧ (True ∧ True ∧ True)))))) (ls' := #[true, true, true, true, true, true, true, true, true, true, true, true, true, true, false, false, false]) (Ts' := [(0, .one (.e (.sl 0 0 k2))), (1, I i3), (2, I i4), (3, .one (.fn 90 [.p 1 0])), (8, I i420), (9, I i591), (21, B true), (22, .one (.fn 90 [.p 1 0])), (26, I (x590.getD i591.toNat 0)), (31, I (x590.getD ((w64 (i591 - 1)).toNat) 0))]) (st' := ⟨[(0, .one (.e (.sl 0 0 k2))), (1, I i3), (2, I i4), (3, .one (.fn 90 [.p 1 0])), (8, I i420), (9, I i591), (21, B true), (22, .one (.fn 90 [.p 1 0])), (26, I (x590.getD i591.toNat 0)), (31, I (x590.getD ((w64 (i591 - 1)).toNat) 0))], [.row .int x590 true, .cells [.sl 2 0 k6], .row .nod x5 false]⟩) (n2 := 3) (by kernel_rfl) ⟨hg614, hg614, trivial, trivial, trivial, trivial, hg615, hg615, trivial, trivial, trivial⟩ rfl ?_
        refine WD_all [14] (n := 2) (by kernel_rfl) rfl ?_
        refine WM_call [.own 1, .ro 2] Try.f90 rfl rfl (by kernel_rfl) Try.func90 rfl (by kernel_rfl) (impl_walkFrom_1_ok (x590.getD i591.toNat 0) (x590.getD ((w64 (i591 - 1)).toNat) 0) x5 k6 i616 hc617) (And.intro (trivial) (And.intro (And.intro rfl rfl) (trivial))) rfl (And.intro rfl (And.intro rfl (trivial))) ?_
        refine WD_takeK [15, 16] [0, 1, 2, 3, 8, 9, 34] [0, 1, 2, 3, 8, 9, 34] (φ := (True ∧ True ∧ True)) (ls' := #[true, true, true, true, true, true, true, true, true, true, true, true, true, true, true, true, true]) (Ts' := [(0, .one (.e (.sl 0 0 k2))), (1, I i3), (2, I i4), (3, .one (.fn 90 [.p 1 0])), (8, I i420), (9, I i591), (34, B (decide (i616 < 0)))]) (st' := ⟨[(0, .one (.e (.sl 0 0 k2))), (1, I i3), (2, I i4), (3, .one (.fn 90 [.p 1 0])), (8, I i420), (9, I i591), (34, B (decide (i616 < 0)))], [.row .int x590 true, .cells [.sl 2 0 k6], .row .nod x5 false]⟩) (n2 := 0) (by kernel_rfl) ⟨trivial, trivial, trivial⟩ rfl ?_
        exact WD_done [0, 1, 2] [0, 1, 2, 3, 8, 9, 34] (st' := ⟨[(0, .one (.e (.sl 0 0 k2))), (1, I i3), (2, I i4), (3, .one (.fn 90 [.p 1 0])), (8, I i420), (9, I i591), (34, B (decide (i616 < 0)))], [.row .int x590 true, .cells [.sl 2 0 k6], .row .nod x5 false]⟩) (by kernel_rfl) (by kernel_rfl) (And.intro rfl (by cases hv619; rfl))
      · refine W_draw [1] false (by kernel_rfl) (by kernel_rfl) ?_
        refine WD_takeK [0, 1, 2, 3] [0, 1, 2, 3, 8, 9, 21] [0, 1, 2, 3, 8, 9, 21] (φ := (True ∧ True ∧ True)) (ls' := #[true, true, true, true, false, false, false, false, false, false, false, false, false, false, false, false, false]) (Ts' := [(0, .one (.e (.sl 0 0 k2))), (1, I i3), (2, I i4), (3, .one (.fn 90 [.p 1 0])), (8, I i420), (9, I i591), (21, B (decide (i3 < i591)))]) (st' := ⟨[(0, .one (.e (.sl 0 0 k2))), (1, I i3), (2, I i4), (3, .one (.fn 90 [.p 1 0])), (8, I i420), (9, I i591), (21, B (decide (i3 < i591)))], [.row .int x590 true, .cells [.sl 2 0 k6], .row .nod x5 false]⟩) (n2 := 13) (by kernel_rfl) ⟨trivial, trivial, trivial⟩ rfl ?_
        refine WD_known 21 false rfl rfl hb613 ?_
        refine WD_takeK [4, 5, 6, 7, 8, 9, 10, 11, 12, 13, 14, 15, 16] [0, 1, 2, 3, 8, 9, 34] [0, 1, 2, 3, 8, 9, 34] (φ := True) (ls' := #[true, true, true, true, true, true, true, true, true, true, true, true, true, true, true, true, true]) (Ts' := [(0, .one (.e (.sl 0 0 k2))), (1, I i3), (2, I i4), (3, .one (.fn 90 [.p 1 0])), (8, I i420), (9, I i591), (34, B false)]) (st' := ⟨[(0, .one (.e (.sl 0 0 k2))), (1, I i3), (2, I i4), (3, .one (.fn 90 [.p 1 0])), (8, I i420), (9, I i591), (34, B false)], [.row .int x590 true, .cells [.sl 2 0 k6], .row .nod x5 false]⟩) (n2 := 0) (by kernel_rfl) trivial rfl ?_
        exact WD_done [0, 1, 2] [0, 1, 2, 3, 8, 9, 34] (st' := ⟨[(0, .one (.e (.sl 0 0 k2))), (1, I i3), (2, I i4), (3, .one (.fn 90 [.p 1 0])), (8, I i420), (9, I i591), (34, B false)], [.row .int x590 true, .cells [.sl 2 0 k6], .row .nod x5 false]⟩) (by kernel_rfl) (by kernel_rfl) (And.intro rfl (by cases hv619; rfl))
    · rintro _ _ ⟨rfl, rfl⟩
      refine thenS_n ?_
      refine iteO_e h (fun hb621 h => W_true rfl hb621 ?_) (fun hb621 h => W_false rfl hb621 ?_)
      · refine W_sub [0, 1, 2] [0, 1, 2, 3, 8, 9] (st' := ⟨[(0, .one (.e (.sl 0 0 k2))), (1, I i3), (2, I i4), (3, .one (.fn 90 [.p 1 0])), (8, I i420), (9, I i591)], [.row .int x590 true, .cells [.sl 2 0 k6], .row .nod x5 false]⟩) (by kernel_rfl) ?_
        refine W_skip ?_
        refine thenS_n ?_
        refine W_seq ?_
        refine W_block ?_
        refine guardO_e h (fun hg626 h => ?_)
        refine guardO_e h (fun hg627 h => ?_)
        refine guardO_e h (fun hg628 h => ?_)
        refine guardO_e h (fun hg629 h => ?_)
        refine W_cut (Q' := fun (e : Exit) (s : St) => e = .normal ∧ s = ⟨[(0, .one (.e (.sl 0 0 k2))), (1, I i3), (2, I i4), (3, .one (.fn 90 [.p 1 0])), (8, I i420), (9, I i591)], [.row .int ((x590.set i591.toNat (x590.getD ((w64 (i591 - 1)).toNat) 0)).set ((w64 (i591 - 1)).toNat) (x590.getD i591.toNat 0)) true, .cells [.sl 2 0 k6], .row .nod x5 false]⟩) ?_ ?_
        · refine W_draw [0] false (by kernel_rfl) (by kernel_rfl) ?_
          refine WD_takeK [0, 1, 2, 3, 4, 5, 6, 7, 10, 11] [0, 1, 2, 3, 8, 9, 37, 38, 39, 41, 42, 44, 47, 48] [0, 1, 2, 3, 8, 9, 37, 38, 39, 41, 42, 44, 47, 48] (φ := (True ∧ True ∧ (True ∧ True ∧ True))) (ls' := #[true, true, true, true, true, true, true, true, false, false, true, true, false, false, false, false, false, false]) (Ts' := [(0, .one (.e (.sl 0 0 k2))), (1, I i3), (2, I i4), (3, .one (.fn 90 [.p 1 0])), (8, I i420), (9, I i591), (37, .one (.e (.sl 0 0 k2))), (38, I i591), (39, .one (.e (.sl 0 0 k2))), (41, I (w64 (i591 - 1))), (42, .one (.e (.sl 0 0 k2))), (44, I (w64 (i591 - 1))), (47, .one (.e (.sl 0 0 k2))), (48, I i591)]) (st' := ⟨[(0, .one (.e (.sl 0 0 k2))), (1, I i3), (2, I i4), (3, .one (.fn 90 [.p 1 0])), (8, I i420), (9, I i591), (37, .one (.e (.sl 0 0 k2))), (38, I i591), (39, .one (.e (.sl 0 0 k2))), (41, I (w64 (i591 - 1))), (42, .one (.e (.sl 0 0 k2))), (44, I (w64 (i591 - 1))), (47, .one (.e (.sl 0 0 k2))), (48, I i591)], [.row .int x590 true, .cells [.sl 2 0 k6], .row .nod x5 false]⟩) (n2 := 8) (by kernel_rfl) ⟨trivial, trivial, trivial, trivial, trivial⟩ rfl ?_
          refine WD_all [8, 12] (n := 7) (by kernel_rfl) rfl (And.intro ?_ (?_))
          · refine WM_op (φ := 0 ≤ (w64 (i591 - 1)) ∧ (w64 (i591 - 1)) < ((k2 : Nat) : Int)) (v := .one (.e (.rp 0 ((w64 (i591 - 1)).toNat) 0))) (H' := [.row .int x590 true, .cells [.sl 2 0 k6], .row .nod x5 false]) rfl rfl (by kernel_rfl) hg626 rfl (And.intro (And.intro rfl rfl) (And.intro rfl (trivial))) ?_
            refine WD_all [9, 12] (n := 6) (by kernel_rfl) rfl (And.intro ?_ (?_))
            · refine WM_op (φ := True) (v := I (x590.getD ((w64 (i591 - 1)).toNat) 0)) (H' := [.row .int x590 true, .cells [.sl 2 0 k6], .row .nod x5 false]) rfl rfl (by kernel_rfl) trivial rfl (And.intro (And.intro rfl rfl) (And.intro rfl (trivial))) ?_
              refine WD_all [12] (n := 5) (by kernel_rfl) rfl ?_
              refine WM_op (φ := 0 ≤ i591 ∧ i591 < ((k2 : Nat) : Int)) (v := .one (.e (.rp 0 i591.toNat 0))) (H' := [.row .int x590 true, .cells [.sl 2 0 k6], .row .nod x5 false]) rfl rfl (by kernel_rfl) hg627 rfl (And.intro (And.intro rfl rfl) (And.intro rfl (trivial))) ?_
              refine WD_all [13] (n := 4) (by kernel_rfl) rfl ?_
              refine WM_op (φ := True) (v := I (x590.getD i591.toNat 0)) (H' := [.row .int x590 true, .cells [.sl 2 0 k6], .row .nod x5 false]) rfl rfl (by kernel_rfl) trivial rfl (And.intro (And.intro rfl rfl) (And.intro rfl (trivial))) ?_
              refine WD_all [14] (n := 3) (by kernel_rfl) rfl ?_
              refine WM_op (φ := 0 ≤ i591 ∧ i591 < ((k2 : Nat) : Int)) (v := .one (.e (.rp 0 i591.toNat 0))) (H' := [.row .int x590 true, .cells [.sl 2 0 k6], .row .nod x5 false]) rfl rfl (by kernel_rfl) hg628 rfl (And.intro (And.intro rfl rfl) (And.intro rfl (trivial))) ?_
              refine WD_all [15] (n := 2) (by kernel_rfl) rfl ?_
              refine WM_store (u := .one (.e (.rp 0 i591.toNat 0))) (v := I (x590.getD ((w64 (i591 - 1)).toNat) 0)) (φ := True) (H' := [.row .int (x590.set i591.toNat (x590.getD ((w64 (i591 - 1)).toNat) 0)) true, .cells [.sl 2 0 k6], .row .nod x5 false]) rfl rfl rfl rfl rfl (by kernel_rfl) trivial rfl (And.intro (And.intro rfl rfl) (And.intro rfl (trivial))) ?_
              refine WD_all [16] (n := 1) (by kernel_rfl) rfl ?_
              refine WM_op (φ := 0 ≤ (w64 (i591 - 1)) ∧ (w64 (i591 - 1)) < ((k2 : Nat) : Int)) (v := .one (.e (.rp 0 ((w64 (i591 - 1)).toNat) 0))) (H' := [.row .int (x590.set i591.toNat (x590.getD ((w64 (i591 - 1)).toNat) 0)) true, .cells [.sl 2 0 k6], .row .nod x5 false]) rfl rfl (by kernel_rfl) hg629 rfl (And.intro (And.intro rfl rfl) (And.intro rfl (trivial))) ?_
              refine WD_all [17] (n := 0) (by kernel_rfl) rfl ?_
              refine WM_store (u := .one (.e (.rp 0 ((w64 (i591 - 1)).toNat) 0))) (v := I (x590.getD i591.toNat 0)) (φ := True) (H' := [.row .int ((x590.set i591.toNat (x590.getD ((w64 (i591 - 1)).toNat) 0)).set ((w64 (i591 - 1)).toNat) (x590.getD i591.toNat 0)) true, .cells [.sl 2 0 k6], .row .nod x5 false]) rfl rfl rfl rfl rfl (by kernel_rfl) trivial rfl (And.intro (And.intro rfl rfl) (And.intro rfl (trivial))) ?_
              exact WD_done [0, 1, 2] [0, 1, 2, 3, 8, 9] (st' := ⟨[(0, .one (.e (.sl 0 0 k2))), (1, I i3), (2, I i4), (3, .one (.fn 90 [.p 1 0])), (8, I i420), (9, I i591)], [.row .int ((x590.set i591.toNat (x590.getD ((w64 (i591 - 1)).toNat) 0)).set ((w64 (i591 - 1)).toNat) (x590.getD i591.toNat 0)) true, .cells [.sl 2 0 k6], .row .nod x5 false]⟩) (by kernel_rfl) (by kernel_rfl) (And.intro rfl rfl)
            · refine WM_op (φ := 0 ≤ i591 ∧ i591 < ((k2 : Nat) : Int)) (v := .one (.e (.rp 0 i591.toNat 0))) (H' := [.row .int x590 true, .cells [.sl 2 0 k6], .row .nod x5 false]) rfl rfl (by kernel_rfl) hg627 rfl (And.intro (And.intro rfl rfl) (And.intro rfl (trivial))) ?_
              refine WD_all [9, 13] (n := 5) (by kernel_rfl) rfl (And.intro ?_ (?_))
              · refine WM_op (φ := True) (v := I (x590.getD ((w64 (i591 - 1)).toNat) 0)) (H' := [.row .int x590 true, .cells [.sl 2 0 k6], .row .nod x5 false]) rfl rfl (by kernel_rfl) trivial rfl (And.intro (And.intro rfl rfl) (And.intro rfl (trivial))) ?_
                refine WD_all [13] (n := 4) (by kernel_rfl) rfl ?_
                refine WM_op (φ := True) (v := I (x590.getD i591.toNat 0)) (H' := [.row .int x590 true, .cells [.sl 2 0 k6], .row .nod x5 false]) rfl rfl (by kernel_rfl) trivial rfl (And.intro (And.intro rfl rfl) (And.intro rfl (trivial))) ?_
                refine WD_all [14] (n := 3) (by kernel_rfl) rfl ?_
                refine WM_op (φ := 0 ≤ i591 ∧ i591 < ((k2 : Nat) : Int)) (v := .one (.e (.rp 0 i591.toNat 0))) (H' := [.row .int x590 true, .cells [.sl 2 0 k6], .row .nod x5 false]) rfl rfl (by kernel_rfl) hg628 rfl (And.intro (And.intro rfl rfl) (And.intro rfl (trivial))) ?_
                refine WD_all [15] (n := 2) (by kernel_rfl) rfl ?_
                refine WM_store (u := .one (.e (.rp 0 i591.toNat 0))) (v := I (x590.getD ((w64 (i591 - 1)).toNat) 0)) (φ := True) (H' := [.row .int (x590.set i591.toNat (x590.getD ((w64 (i591 - 1)).toNat) 0)) true, .cells [.sl 2 0 k6], .row .nod x5 false]) rfl rfl rfl rfl rfl (by kernel_rfl) trivial rfl (And.intro (And.intro rfl rfl) (And.intro rfl (trivial))) ?_
                refine WD_all [16] (n := 1) (by kernel_rfl) rfl ?_
                refine WM_op (φ := 0 ≤ (w64 (i591 - 1)) ∧ (w64 (i591 - 1)) < ((k2 : Nat) : Int)) (v := .one (.e (.rp 0 ((w64 (i591 - 1)).toNat) 0))) (H' := [.row .int (x590.set i591.toNat (x590.getD ((w64 (i591 - 1)).toNat) 0)) true, .cells [.sl 2 0 k6], .row .nod x5 false]) rfl rfl (by kernel_rfl) hg629 rfl (And.intro (And.intro rfl rfl) (And.intro rfl (trivial))) ?_
                refine WD_all [17] (n := 0) (by kernel_rfl) rfl ?_
                refine WM_store (u := .one (.e (.rp 0 ((w64 (i591 - 1)).toNat) 0))) (v := I (x590.getD i591.toNat 0)) (φ := True) (H' := [.row .int ((x590.set i591.toNat (x590.getD ((w64 (i591 - 1)).toNat) 0)).set ((w64 (i591 - 1)).toNat) (x590.getD i591.toNat 0)) true, .cells [.sl 2 0 k6], .row .nod x5 false]) rfl rfl rfl rfl rfl (by kernel_rfl) trivial rfl (And.intro (And.intro rfl rfl) (And.intro rfl (trivial))) ?_
                exact WD_done [0, 1, 2] [0, 1, 2, 3, 8, 9] (st' := ⟨[(0, .one (.e (.sl 0 0 k2))), (1, I i3), (2, I i4), (3, .one (.fn 90 [.p 1 0])), (8, I i420), (9, I i591)], [.row .int ((x590.set i591.toNat (x590.getD ((w64 (i591 - 1)).toNat) 0)).set ((w64 (i591 - 1)).toNat) (x590.getD i591.toNat 0)) true, .cells [.sl 2 0 k6], .row .nod x5 false]⟩) (by kernel_rfl) (by kernel_rfl) (And.intro rfl rfl)
              · refine WM_op (φ := True) (v := I (x590.getD i591.toNat 0)) (H' := [.row .int x590 true, .cells [.sl 2 0 k6], .row .nod x5 false]) rfl rfl (by kernel_rfl) trivial rfl (And.intro (And.intro rfl rfl) (And.intro rfl (trivial))) ?_
                refine WD_all [9] (n := 4) (by kernel_rfl) rfl ?_
                refine WM_op (φ := True) (v := I (x590.getD ((w64 (i591 - 1)).toNat) 0)) (H' := [.row .int x590 true, .cells [.sl 2 0 k6], .row .nod x5 false]) rfl rfl (by kernel_rfl) trivial rfl (And.intro (And.intro rfl rfl) (And.intro rfl (trivial))) ?_
                refine WD_all [14] (n := 3) (by kernel_rfl) rfl ?_
                refine WM_op (φ := 0 ≤ i591 ∧ i591 < ((k2 : Nat) : Int)) (v := .one (.e (.rp 0 i591.toNat 0))) (H' := [.row .int x590 true, .cells [.sl 2 0 k6], .row .nod x5 false]) rfl rfl (by kernel_rfl) hg628 rfl (And.intro (And.intro rfl rfl) (And.intro rfl (trivial))) ?_
                refine WD_all [15] (n := 2) (by kernel_rfl) rfl ?_
                refine WM_store (u := .one (.e (.rp 0 i591.toNat 0))) (v := I (x590.getD ((w64 (i591 - 1)).toNat) 0)) (φ := True) (H' := [.row .int (x590.set i591.toNat (x590.getD ((w64 (i591 - 1)).toNat) 0)) true, .cells [.sl 2 0 k6], .row .nod x5 false]) rfl rfl rfl rfl rfl (by kernel_rfl) trivial rfl (And.intro (And.intro rfl rfl) (And.intro rfl (trivial))) ?_
                refine WD_all [16] (n := 1) (by kernel_rfl) rfl ?_
                refine WM_op (φ := 0 ≤ (w64 (i591 - 1)) ∧ (w64 (i591 - 1)) < ((k2 : Nat) : Int)) (v := .one (.e (.rp 0 ((w64 (i591 - 1)).toNat) 0))) (H' := [.row .int (x590.set i591.toNat (x590.getD ((w64 (i591 - 1)).toNat) 0)) true, .cells [.sl 2 0 k6], .row .nod x5 false]) rfl rfl (by kernel_rfl) hg629 rfl (And.intro (And.intro rfl rfl) (And.intro rfl (trivial))) ?_
                refine WD_all [17] (n := 0) (by kernel_rfl) rfl ?_
                refine WM_store (u := .one (.e (.rp 0 ((w64 (i591 - 1)).toNat) 0))) (v := I (x590.getD i591.toNat 0)) (φ := True) (H' := [.row .int ((x590.set i591.toNat (x590.getD ((w64 (i591 - 1)).toNat) 0)).set ((w64 (i591 - 1)).toNat) (x590.getD i591.toNat 0)) true, .cells [.sl 2 0 k6], .row .nod x5 false]) rfl rfl rfl rfl rfl (by kernel_rfl) trivial rfl (And.intro (And.intro rfl rfl) (And.intro rfl (trivial))) ?_
                exact WD_done [0, 1, 2] [0, 1, 2, 3, 8, 9] (st' := ⟨[(0, .one (.e (.sl 0 0 k2))), (1, I i3), (2, I i4), (3, .one (.fn 90 [.p 1 0])), (8, I i420), (9, I i591)], [.row .int ((x590.set i591.toNat (x590.getD ((w64 (i591 - 1)).toNat) 0)).set ((w64 (i591 - 1)).toNat) (x590.getD i591.toNat 0)) true, .cells [.sl 2 0 k6], .row .nod x5 false]⟩) (by kernel_rfl) (by kernel_rfl) (And.intro rfl rfl)
          · refine WM_op (φ := 0 ≤ i591 ∧ i591 < ((k2 : Nat) : Int)) (v := .one (.e (.rp 0 i591.toNat 0))) (H' := [.row .int x590 true, .cells [.sl 2 0 k6], .row .nod x5 false]) rfl rfl (by kernel_rfl) hg627 rfl (And.intro (And.intro rfl rfl) (And.intro rfl (trivial))) ?_
            refine WD_all [8, 13] (n := 6) (by kernel_rfl) rfl (And.intro ?_ (?_))
            · refine WM_op (φ := 0 ≤ (w64 (i591 - 1)) ∧ (w64 (i591 - 1)) < ((k2 : Nat) : Int)) (v := .one (.e (.rp 0 ((w64 (i591 - 1)).toNat) 0))) (H' := [.row .int x590 true, .cells [.sl 2 0 k6], .row .nod x5 false]) rfl rfl (by kernel_rfl) hg626 rfl (And.intro (And.intro rfl rfl) (And.intro rfl (trivial))) ?_
              refine WD_all [9, 13] (n := 5) (by kernel_rfl) rfl (And.intro ?_ (?_))
              · refine WM_op (φ := True) (v := I (x590.getD ((w64 (i591 - 1)).toNat) 0)) (H' := [.row .int x590 true, .cells [.sl 2 0 k6], .row .nod x5 false]) rfl rfl (by kernel_rfl) trivial rfl (And.intro (And.intro rfl rfl) (And.intro rfl (trivial))) ?_
                refine WD_all [13] (n := 4) (by kernel_rfl) rfl ?_
                refine WM_op (φ := True) (v := I (x590.getD i591.toNat 0)) (H' := [.row .int x590 true, .cells [.sl 2 0 k6], .row .nod x5 false]) rfl rfl (by kernel_rfl) trivial rfl (And.intro (And.intro rfl rfl) (And.intro rfl (trivial))) ?_
                refine WD_all [14] (n := 3) (by kernel_rfl) rfl ?_
                refine WM_op (φ := 0 ≤ i591 ∧ i591 < ((k2 : Nat) : Int)) (v := .one (.e (.rp 0 i591.toNat 0))) (H' := [.row .int x590 true, .cells [.sl 2 0 k6], .row .nod x5 false]) rfl rfl (by kernel_rfl) hg628 rfl (And.intro (And.intro rfl rfl) (And.intro rfl (trivial))) ?_
                refine WD_all [15] (n := 2) (by kernel_rfl) rfl ?_
                refine WM_store (u := .one (.e (.rp 0 i591.toNat 0))) (v := I (x590.getD ((w64 (i591 - 1)).toNat) 0)) (φ := True) (H' := [.row .int (x590.set i591.toNat (x590.getD ((w64 (i591 - 1)).toNat) 0)) true, .cells [.sl 2 0 k6], .row .nod x5 false]) rfl rfl rfl rfl rfl (by kernel_rfl) trivial rfl (And.intro (And.intro rfl rfl) (And.intro rfl (trivial))) ?_
                refine WD_all [16] (n := 1) (by kernel_rfl) rfl ?_
                refine WM_op (φ := 0 ≤ (w64 (i591 - 1)) ∧ (w64 (i591 - 1)) < ((k2 : Nat) : Int)) (v := .one (.e (.rp 0 ((w64 (i591 - 1)).toNat) 0))) (H' := [.row .int (x590.set i591.toNat (x590.getD ((w64 (i591 - 1)).toNat) 0)) true, .cells [.sl 2 0 k6], .row .nod x5 false]) rfl rfl (by kernel_rfl) hg629 rfl (And.intro (And.intro rfl rfl) (And.intro rfl (trivial))) ?_
                refine WD_all [17] (n := 0) (by kernel_rfl) rfl ?_
                refine WM_store (u := .one (.e (.rp 0 ((w64 (i591 - 1)).toNat) 0))) (v := I (x590.getD i591.toNat 0)) (φ := True) (H' := [.row .int ((x590.set i591.toNat (x590.getD ((w64 (i591 - 1)).toNat) 0)).set ((w64 (i591 - 1)).toNat) (x590.getD i591.toNat 0)) true, .cells [.sl 2 0 k6], .row .nod x5 false]) rfl rfl rfl rfl rfl (by kernel_rfl) trivial rfl (And.intro (And.intro rfl rfl) (And.intro rfl (trivial))) ?_
                exact WD_done [0, 1, 2] [0, 1, 2, 3, 8, 9] (st' := ⟨[(0, .one (.e (.sl 0 0 k2))), (1, I i3), (2, I i4), (3, .one (.fn 90 [.p 1 0])), (8, I i420), (9, I i591)], [.row .int ((x590.set i591.toNat (x590.getD ((w64 (i591 - 1)).toNat) 0)).set ((w64 (i591 - 1)).toNat) (x590.getD i591.toNat 0)) true, .cells [.sl 2 0 k6], .row .nod x5 false]⟩) (by kernel_rfl) (by kernel_rfl) (And.intro rfl rfl)
              · refine WM_op (φ := True) (v := I (x590.getD i591.toNat 0)) (H' := [.row .int x590 true, .cells [.sl 2 0 k6], .row .nod x5 false]) rfl rfl (by kernel_rfl) trivial rfl (And.intro (And.intro rfl rfl) (And.intro rfl (trivial))) ?_
                refine WD_all [9] (n := 4) (by kernel_rfl) rfl ?_
                refine WM_op (φ := True) (v := I (x590.getD ((w64 (i591 - 1)).toNat) 0)) (H' := [.row .int x590 true, .cells [.sl 2 0 k6], .row .nod x5 false]) rfl rfl (by kernel_rfl) trivial rfl (And.intro (And.intro rfl rfl) (And.intro rfl (trivial))) ?_
                refine WD_all [14] (n := 3) (by kernel_rfl) rfl ?_
                refine WM_op (φ := 0 ≤ i591 ∧ i591 < ((k2 : Nat) : Int)) (v := .one (.e (.rp 0 i591.toNat 0))) (H' := [.row .int x590 true, .cells [.sl 2 0 k6], .row .nod x5 false]) rfl rfl (by kernel_rfl) hg628 rfl (And.intro (And.intro rfl rfl) (And.intro rfl (trivial))) ?_
                refine WD_all [15] (n := 2) (by kernel_rfl) rfl ?_
                refine WM_store (u := .one (.e (.rp 0 i591.toNat 0))) (v := I (x590.getD ((w64 (i591 - 1)).toNat) 0)) (φ := True) (H' := [.row .int (x590.set i591.toNat (x590.getD ((w64 (i591 - 1)).toNat) 0)) true, .cells [.sl 2 0 k6], .row .nod x5 false]) rfl rfl rfl rfl rfl (by kernel_rfl) trivial rfl (And.intro (And.intro rfl rfl) (And.intro rfl (trivial))) ?_
                refine WD_all [16] (n := 1) (by kernel_rfl) rfl ?_
                refine WM_op (φ := 0 ≤ (w64 (i591 - 1)) ∧ (w64 (i591 - 1)) < ((k2 : Nat) : Int)) (v := .one (.e (.rp 0 ((w64 (i591 - 1)).toNat) 0))) (H' := [.row .int (x590.set i591.toNat (x590.getD ((w64 (i591 - 1)).toNat) 0)) true, .cells [.sl 2 0 k6], .row .nod x5 false]) rfl rfl (by kernel_rfl) hg629 rfl (And.intro (And.intro rfl rfl) (And.intro rfl (trivial))) ?_
                refine WD_all [17] (n := 0) (by kernel_rfl) rfl ?_
                refine WM_store (u := .one (.e (.rp 0 ((w64 (i591 - 1)).toNat) 0))) (v := I (x590.getD i591.toNat 0)) (φ := True) (H' := [.row .int ((x590.set i591.toNat (x590.getD ((w64 (i591 - 1)).toNat) 0)).set ((w64 (i591 - 1)).toNat) (x590.getD i591.toNat 0)) true, .cells [.sl 2 0 k6], .row .nod x5 false]) rfl rfl rfl rfl rfl (by kernel_rfl) trivial rfl (And.intro (And.intro rfl rfl) (And.intro rfl (trivial))) ?_
                exact WD_done [0, 1, 2] [0, 1, 2, 3, 8, 9] (st' := ⟨[(0, .one (.e (.sl 0 0 k2))), (1, I i3), (2, I i4), (3, .one (.fn 90 [.p 1 0])), (8, I i420), (9, I i591)], [.row .int ((x590.set i591.toNat (x590.getD ((w64 (i591 - 1)).toNat) 0)).set ((w64 (i591 - 1)).toNat) (x590.getD i591.toNat 0)) true, .cells [.sl 2 0 k6], .row .nod x5 false]⟩) (by kernel_rfl) (by kernel_rfl) (And.intro rfl rfl)
            · refine WM_op (φ := True) (v := I (x590.getD i591.toNat 0)) (H' := [.row .int x590 true, .cells [.sl 2 0 k6], .row .nod x5 false]) rfl rfl (by kernel_rfl) trivial rfl (And.intro (And.intro rfl rfl) (And.intro rfl (trivial))) ?_
              refine WD_all [8] (n := 5) (by kernel_rfl) rfl ?_
              refine WM_op (φ := 0 ≤ (w64 (i591 - 1)) ∧ (w64 (i591 - 1)) < ((k2 : Nat) : Int)) (v := .one (.e (.rp 0 ((w64 (i591 - 1)).toNat) 0))) (H' := [.row .int x590 true, .cells [.sl 2 0 k6], .row .nod x5 false]) rfl rfl (by kernel_rfl) hg626 rfl (And.intro (And.intro rfl rfl) (And.intro rfl (trivial))) ?_
              refine WD_all [9] (n := 4) (by kernel_rfl) rfl ?_
              refine WM_op (φ := True) (v := I (x590.getD ((w64 (i591 - 1)).toNat) 0)) (H' := [.row .int x590 true, .cells [.sl 2 0 k6], .row .nod x5 false]) rfl rfl (by kernel_rfl) trivial rfl (And.intro (And.intro rfl rfl) (And.intro rfl (trivial))) ?_
              refine WD_all [14] (n := 3) (by kernel_rfl) rfl ?_
              refine WM_op (φ := 0 ≤ i591 ∧ i591 < ((k2 : Nat) : Int)) (v := .one (.e (.rp 0 i591.toNat 0))) (H' := [.row .int x590 true, .cells [.sl 2 0 k6], .row .nod x5 false]) rfl rfl (by kernel_rfl) hg628 rfl (And.intro (And.intro rfl rfl) (And.intro rfl (trivial))) ?_
              refine WD_all [15] (n := 2) (by kernel_rfl) rfl ?_
              refine WM_store (u := .one (.e (.rp 0 i591.toNat 0))) (v := I (x590.getD ((w64 (i591 - 1)).toNat) 0)) (φ := True) (H' := [.row .int (x590.set i591.toNat (x590.getD ((w64 (i591 - 1)).toNat) 0)) true, .cells [.sl 2 0 k6], .row .nod x5 false]) rfl rfl rfl rfl rfl (by kernel_rfl) trivial rfl (And.intro (And.intro rfl rfl) (And.intro rfl (trivial))) ?_
              refine WD_all [16] (n := 1) (by kernel_rfl) rfl ?_
              refine WM_op (φ := 0 ≤ (w64 (i591 - 1)) ∧ (w64 (i591 - 1)) < ((k2 : Nat) : Int)) (v := .one (.e (.rp 0 ((w64 (i591 - 1)).toNat) 0))) (H' := [.row .int (x590.set i591.toNat (x590.getD ((w64 (i591 - 1)).toNat) 0)) true, .cells [.sl 2 0 k6], .row .nod x5 false]) rfl rfl (by kernel_rfl) hg629 rfl (And.intro (And.intro rfl rfl) (And.intro rfl (trivial))) ?_
              refine WD_all [17] (n := 0) (by kernel_rfl) rfl ?_
              refine WM_store (u := .one (.e (.rp 0 ((w64 (i591 - 1)).toNat) 0))) (v := I (x590.getD i591.toNat 0)) (φ := True) (H' := [.row .int ((x590.set i591.toNat (x590.getD ((w64 (i591 - 1)).toNat) 0)).set ((w64 (i591 - 1)).toNat) (x590.getD i591.toNat 0)) true, .cells [.sl 2 0 k6], .row .nod x5 false]) rfl rfl rfl rfl rfl (by kernel_rfl) trivial rfl (And.intro (And.intro rfl rfl) (And.intro rfl (trivial))) ?_
              exact WD_done [0, 1, 2] [0, 1, 2, 3, 8, 9] (st' := ⟨[(0, .one (.e (.sl 0 0 k2))), (1, I i3), (2, I i4), (3, .one (.fn 90 [.p 1 0])), (8, I i420), (9, I i591)], [.row .int ((x590.set i591.toNat (x590.getD ((w64 (i591 - 1)).toNat) 0)).set ((w64 (i591 - 1)).toNat) (x590.getD i591.toNat 0)) true, .cells [.sl 2 0 k6], .row .nod x5 false]⟩) (by kernel_rfl) (by kernel_rfl) (And.intro rfl rfl)
        · rintro _ _ ⟨rfl, rfl⟩
          refine blockS_n ?_
          refine thenS_n ?_
          refine W_region ?_
          refine WO_step 3 [0, 1, 2] [0, 1, 2, 3, 8, 9] (True ∧ True) ⟨[(0, .one (.e (.sl 0 0 k2))), (1, I i3), (2, I i4), (3, .one (.fn 90 [.p 1 0])), (8, I i420), (9, I (w64 (i591 - 1)))], [.row .int ((x590.set i591.toNat (x590.getD ((w64 (i591 - 1)).toNat) 0)).set ((w64 (i591 - 1)).toNat) (x590.getD i591.toNat 0)) true, .cells [.sl 2 0 k6], .row .nod x5 false]⟩ (by kernel_rfl) ⟨trivial, trivial⟩ ?_
          refine WO_nil rfl ?_
          refine thenS_n ?_
          exact ih _ _ h
      · refine W_sub [0, 1, 2] [0, 1, 2, 3, 8] (st' := ⟨[(0, .one (.e (.sl 0 0 k2))), (1, I i3), (2, I i4), (3, .one (.fn 90 [.p 1 0])), (8, I i420)], [.row .int x590 true, .cells [.sl 2 0 k6], .row .nod x5 false]⟩) (by kernel_rfl) ?_
        refine W_exit ?_
        refine thenS_e ?_
        refine thenS_e ?_
        cases h
        exact And.intro rfl rfl

def slices_insertionSortCmpFunc_int_impl_walkFrom_1_L1 (k2 : Nat) (i3 : Int) (i4 : Int) (k6 : Nat) (x5 : List Nod) : Nat → (List Int) → Int → Option ((List Int))
| 0, _, _ => none
| n + 1, x419, i420 =>
 iteO (decide (i420 < i4))
 (bindO (slices_insertionSortCmpFunc_int_impl_walkFrom_1_L2 k2 i3 i4 i420 k6 x5 n x419 i420) fun x611 =>
 slices_insertionSortCmpFunc_int_impl_walkFrom_1_L1 k2 i3 i4 k6 x5 n x611 (w64 (i420 + 1)))
 (some x419)

theorem slices_insertionSortCmpFunc_int_impl_walkFrom_1_L1_ok (w : World) (X : Nat → Prop) (θ : List Loc) (k2 : Nat) (i3 : Int) (i4 : Int) (k6 : Nat) (x5 : List Nod) (x517 : (List Int)) : ∀ (n : Nat) (x419 : List Int) (i420 : Int), slices_insertionSortCmpFunc_int_impl_walkFrom_1_L1 k2 i3 i4 k6 x5 n x419 i420 = some x517 → WL EE ⟨w, X, θ, 53, 3⟩ (subC [1, 4, 4] (bodyC Try.f106)) (fun (e : Exit) (s : St) => e = .exit 0 ∧ s = ⟨[], [.row .int x517 true, .cells [.sl 2 0 k6], .row .nod x5 false]⟩) ⟨[(0, .one (.e (.sl 0 0 k2))), (1, I i3), (2, I i4), (3, .one (.fn 90 [.p 1 0])), (8, I i420)], [.row .int x419 true, .cells [.sl 2 0 k6], .row .nod x5 false]⟩ := by
  intro n
  induction n with
  | zero => intro _ _ h; exact none_e h
  | succ n ih =>
    intro x419 i420 h
    rw [slices_insertionSortCmpFunc_int_impl_walkFrom_1_L1] at h
    refine WL_round ?_
    refine W_seq ?_
    refine W_seq ?_
    refine W_region ?_
    refine WO_step 3 [0, 1, 2] [0, 1, 2, 3, 8, 14] (True ∧ True) ⟨[(0, .one (.e (.sl 0 0 k2))), (1, I i3), (2, I i4), (3, .one (.fn 90 [.p 1 0])), (8, I i420), (14, B (decide (i420 < i4)))], [.row .int x419 true, .cells [.sl 2 0 k6], .row .nod x5 false]⟩ (by kernel_rfl) ⟨trivial, trivial⟩ ?_
    refine WO_nil rfl ?_
    refine thenS_n ?_
    refine iteO_e h (fun hb520 h => W_true rfl hb520 ?_) (fun hb520 h => W_false rfl hb520 ?_)
    · refine W_sub [0, 1, 2] [0, 1, 2, 3, 8] (st' := ⟨[(0, .one (.e (.sl 0 0 k2))), (1, I i3), (2, I i4), (3, .one (.fn 90 [.p 1 0])), (8, I i420)], [.row .int x419 true, .cells [.sl 2 0 k6], .row .nod x5 false]⟩) (by kernel_rfl) ?_
      refine W_skip ?_
      refine thenS_n ?_
      refine W_seq ?_
      refine W_block ?_
      refine W_seq ?_
      refine W_region ?_
      refine WO_step 2 [0, 1, 2] [0, 1, 2, 3, 8, 9] True ⟨[(0, .one (.e (.sl 0 0 k2))), (1, I i3), (2, I i4), (3, .one (.fn 90 [.p 1 0])), (8, I i420), (9, I i420)], [.row .int x419 true, .cells [.sl 2 0 k6], .row .nod x5 false]⟩ (by kernel_rfl) trivial ?_
      refine WO_nil rfl ?_
      refine thenS_n ?_
      refine W_block ?_
      refine W_loop ?_
      refine bindO_e h (fun x611 hx611 h => ?_)
      refine WL_cut (slices_insertionSortCmpFunc_int_impl_walkFrom_1_L2_ok w X θ k2 i3 i4 i420 k6 x5 x611 n x419 i420 hx611) ?_
      rintro _ _ ⟨rfl, rfl⟩
      refine blockS_y ?_
      refine blockS_n ?_
      refine thenS_n ?_
      refine W_region ?_
      refine WO_step 3 [0, 1, 2] [0, 1, 2, 3, 8] (True ∧ True) ⟨[(0, .one (.e (.sl 0 0 k2))), (1, I i3), (2, I i4), (3, .one (.fn 90 [.p 1 0])), (8, I (w64 (i420 + 1)))], [.row .int x611 true, .cells [.sl 2 0 k6], .row .nod x5 false]⟩ (by kernel_rfl) ⟨trivial, trivial⟩ ?_
      refine WO_nil rfl ?_
      refine thenS_n ?_
      exact ih _ _ h
    · refine W_sub [0, 1, 2] [] (st' := ⟨[], [.row .int x419 true, .cells [.sl 2 0 k6], .row .nod x5 false]⟩) (by kernel_rfl) ?_
      refine W_exit ?_
      refine thenS_e ?_
      refine thenS_e ?_
      cases h
      exact And.intro rfl rfl

def slices_insertionSortCmpFunc_int_impl_walkFrom_1 (n : Nat) (x1 : List Int) (k2 : Nat) (i3 : Int) (i4 : Int) (x5 : List Nod) (k6 : Nat) : Option ((List Int)) :=
 bindO (slices_insertionSortCmpFunc_int_impl_walkFrom_1_L1 k2 i3 i4 k6 x5 n x1 (w64 (i3 + 1))) fun x517 =>
 some x517

theorem slices_insertionSortCmpFunc_int_impl_walkFrom_1_ok (n : Nat) (x1 : List Int) (k2 : Nat) (i3 : Int) (i4 : Int) (x5 : List Nod) (k6 : Nat) (x318 : List Int) (h : slices_insertionSortCmpFunc_int_impl_walkFrom_1 n x1 k2 i3 i4 x5 k6 = some x318) : FOk EE 106 [.one (.e (.sl 0 0 k2)), I i3, I i4, .one (.fn 90 [.p 1 0])] [.row .int x1 true, .cells [.sl 2 0 k6], .row .nod x5 false] (.tup []) [.row .int x318 true, .cells [.sl 2 0 k6], .row .nod x5 false] := by
  unfold slices_insertionSortCmpFunc_int_impl_walkFrom_1 at h
  refine FOk_of_W 53 3 Try.func106 rfl rfl (Nat.le_of_ble_eq_true rfl) rfl (fun w X θ => ?_)
  refine W_seq ?_
  refine W_region ?_
  refine WO_step 3 [0, 1, 2] [0, 1, 2, 3, 8] (True ∧ True) ⟨[(0, .one (.e (.sl 0 0 k2))), (1, I i3), (2, I i4), (3, .one (.fn 90 [.p 1 0])), (8, I (w64 (i3 + 1)))], [.row .int x1 true, .cells [.sl 2 0 k6], .row .nod x5 false]⟩ (by kernel_rfl) ⟨trivial, trivial⟩ ?_
  refine WO_nil rfl ?_
  refine thenS_n ?_
  refine W_block ?_
  refine W_loop ?_
  refine bindO_e h (fun x517 hx517 h => ?_)
  refine WL_cut (slices_insertionSortCmpFunc_int_impl_walkFrom_1_L1_ok w X θ k2 i3 i4 k6 x5 x517 n x1 (w64 (i3 + 1)) hx517) ?_
  rintro _ _ ⟨rfl, rfl⟩
  refine blockS_y ?_
  cases h
  exact ⟨[0, 1, 2], True, by kernel_rfl, trivial⟩

/- slices.pdqsortCmpFunc[int] -/
def slices_pdqsortCmpFunc_int_impl_walkFrom_1_L1 (k2 : Nat) (i3 : Int) (i4 : Int) (i5 : Int) (x1 : List Int) (k7 : Nat) (x6 : List Nod) : Nat → Option ((List Int))
| 0 => none
| n + 1 =>
 iteO (decide ((w64 (i4 - i3)) ≤ 12))
 (bindO (slices_insertionSortCmpFunc_int_impl_walkFrom_1 n x1 k2 i3 i4 x6 k7) fun x112 =>
 guardO (x1.length = x112.length) <|
 some x112)
 (iteO (decide (i5 = 0))
 (none)
 (none))

theorem slices_pdqsortCmpFunc_int_impl_walkFrom_1_L1_ok (w : World) (X : Nat → Prop) (θ : List Loc) (k2 : Nat) (i3 : Int) (i4 : Int) (i5 : Int) (x1 : List Int) (k7 : Nat) (x6 : List Nod) (x95 : (List Int)) : ∀ (n : Nat) , slices_pdqsortCmpFunc_int_impl_walkFrom_1_L1 k2 i3 i4 i5 x1 k7 x6 n  = some x95 → WL EE ⟨w, X, θ, 148, 3⟩ (subC [1, 1, 4, 4] (bodyC Try.f100)) (fun (e : Exit) (s : St) => e = .ret ∧ s = ⟨[], [.row .int x95 true, .cells [.sl 2 0 k7], .row .nod x6 false]⟩) ⟨[(0, .one (.e (.sl 0 0 k2))), (1, I i3), (2, I i4), (3, I i5), (4, .one (.fn 90 [.p 1 0])), (10, B true), (11, B true)], [.row .int x1 true, .cells [.sl 2 0 k7], .row .nod x6 false]⟩ := by
  intro n
  induction n with
  | zero => intro  h; exact none_e h
  | succ n ih =>
    intro  h
    rw [slices_pdqsortCmpFunc_int_impl_walkFrom_1_L1] at h
    refine WL_round ?_
    refine W_block ?_
    refine W_seq ?_
    refine W_region ?_
    refine WO_step 4 [0, 1, 2] [0, 1, 2, 3, 4, 10, 11, 12] (True ∧ True) ⟨[(0, .one (.e (.sl 0 0 k2))), (1, I i3), (2, I i4), (3, I i5), (4, .one (.fn 90 [.p 1 0])), (10, B true), (11, B true), (12, I (w64 (i4 - i3)))], [.row .int x1 true, .cells [.sl 2 0 k7], .row .nod x6 false]⟩ (by kernel_rfl) ⟨trivial, trivial⟩ ?_
    refine WO_nil rfl ?_
    refine thenS_n ?_
    refine W_seq ?_
    refine W_seq ?_
    refine W_region ?_
    refine WO_step 2 [0, 1, 2] [0, 1, 2, 3, 4, 10, 11, 12, 25] (True ∧ True) ⟨[(0, .one (.e (.sl 0 0 k2))), (1, I i3), (2, I i4), (3, I i5), (4, .one (.fn 90 [.p 1 0])), (10, B true), (11, B true), (12, I (w64 (i4 - i3))), (25, B (decide ((w64 (i4 - i3)) ≤ 12)))], [.row .int x1 true, .cells [.sl 2 0 k7], .row .nod x6 false]⟩ (by kernel_rfl) ⟨trivial, trivial⟩ ?_
    refine WO_nil rfl ?_
    refine thenS_n ?_
    refine iteO_e h (fun hb111 h => W_true rfl hb111 ?_) (fun hb111 h => W_false rfl hb111 ?_)
    · refine W_seq ?_
      refine W_region ?_
      refine WO_step 4 [0, 1, 2] [26, 27, 28, 29] True ⟨[(26, .one (.e (.sl 0 0 k2))), (27, I i3), (28, I i4), (29, .one (.fn 90 [.p 1 0]))], [.row .int x1 true, .cells [.sl 2 0 k7], .row .nod x6 false]⟩ (by kernel_rfl) trivial ?_
      refine bindO_e h (fun x112 hc113 h => ?_)
      refine guardO_e h (fun hl114 h => ?_)
      refine WO_call [.own 0, .own 1, .ro 2] Try.f106 rfl rfl rfl (by kernel_rfl) Try.func106 rfl (by kernel_rfl) (slices_insertionSortCmpFunc_int_impl_walkFrom_1_ok n x1 k2 i3 i4 x6 k7 x112 hc113) (And.intro (And.intro rfl (And.intro rfl hl114)) (And.intro (trivial) (And.intro (And.intro rfl rfl) (trivial)))) rfl ?_
      refine WO_sub [0, 1, 2] [] (st' := ⟨[], [.row .int x112 true, .cells [.sl 2 0 k7], .row .nod x6 false]⟩) (by kernel_rfl) ?_
      refine WO_nil rfl ?_
      refine thenS_n ?_
      refine W_ret ?_
      refine thenS_r ?_
      refine blockS_r ?_
      refine thenS_r ?_
      cases h
      exact And.intro rfl rfl
    · refine W_sub [0, 1, 2] [0, 1, 2, 3, 4, 10, 11, 12] (st' := ⟨[(0, .one (.e (.sl 0 0 k2))), (1, I i3), (2, I i4), (3, I i5), (4, .one (.fn 90 [.p 1 0])), (10, B true), (11, B true), (12, I (w64 (i4 - i3)))], [.row .int x1 true, .cells [.sl 2 0 k7], .row .nod x6 false]⟩) (by kernel_rfl) ?_
      refine W_skip ?_
      refine thenS_n ?_
      refine W_seq ?_
      refine W_seq ?_
      refine W_region ?_
      refine WO_step 2 [0, 1, 2] [0, 1, 2, 3, 4, 10, 11, 12, 32] (True ∧ True) ⟨[(0, .one (.e (.sl 0 0 k2))), (1, I i3), (2, I i4), (3, I i5), (4, .one (.fn 90 [.p 1 0])), (10, B true), (11, B true), (12, I (w64 (i4 - i3))), (32, B (decide (i5 = 0)))], [.row .int x1 true, .cells [.sl 2 0 k7], .row .nod x6 false]⟩ (by kernel_rfl) ⟨trivial, trivial⟩ ?_
      refine WO_nil rfl ?_
      refine thenS_n ?_
      refine iteO_e h (fun hb116 h => W_true rfl hb116 ?_) (fun hb116 h => W_false rfl hb116 ?_)
      · exact none_e h
      · refine W_sub [0, 1, 2] [0, 1, 2, 3, 4, 10, 11, 12] (st' := ⟨[(0, .one (.e (.sl 0 0 k2))), (1, I i3), (2, I i4), (3, I i5), (4, .one (.fn 90 [.p 1 0])), (10, B true), (11, B true), (12, I (w64 (i4 - i3)))], [.row .int x1 true, .cells [.sl 2 0 k7], .row .nod x6 false]⟩) (by kernel_rfl) ?_
        refine W_skip ?_
        refine thenS_n ?_
        refine W_seq ?_
        refine W_seq ?_
        refine W_region ?_
        refine WO_step 2 [0, 1, 2] [0, 1, 2, 3, 4, 10, 11, 12, 39] True ⟨[(0, .one (.e (.sl 0 0 k2))), (1, I i3), (2, I i4), (3, I i5), (4, .one (.fn 90 [.p 1 0])), (10, B true), (11, B true), (12, I (w64 (i4 - i3))), (39, B false)], [.row .int x1 true, .cells [.sl 2 0 k7], .row .nod x6 false]⟩ (by kernel_rfl) trivial ?_
        refine WO_nil rfl ?_
        refine thenS_n ?_
        refine W_false rfl rfl ?_
        refine W_sub [0, 1, 2] [0, 1, 2, 3, 4, 10, 11, 12] (st' := ⟨[(0, .one (.e (.sl 0 0 k2))), (1, I i3), (2, I i4), (3, I i5), (4, .one (.fn 90 [.p 1 0])), (10, B true), (11, B true), (12, I (w64 (i4 - i3)))], [.row .int x1 true, .cells [.sl 2 0 k7], .row .nod x6 false]⟩) (by kernel_rfl) ?_
        refine W_skip ?_
        refine thenS_n ?_
        refine W_seq ?_
        exact none_e h

def slices_pdqsortCmpFunc_int_impl_walkFrom_1 (n : Nat) (x1 : List Int) (k2 : Nat) (i3 : Int) (i4 : Int) (i5 : Int) (x6 : List Nod) (k7 : Nat) : Option ((List Int)) :=
 bindO (slices_pdqsortCmpFunc_int_impl_walkFrom_1_L1 k2 i3 i4 i5 x1 k7 x6 n ) fun x95 =>
 some x95

theorem slices_pdqsortCmpFunc_int_impl_walkFrom_1_ok (n : Nat) (x1 : List Int) (k2 : Nat) (i3 : Int) (i4 : Int) (i5 : Int) (x6 : List Nod) (k7 : Nat) (x52 : List Int) (h : slices_pdqsortCmpFunc_int_impl_walkFrom_1 n x1 k2 i3 i4 i5 x6 k7 = some x52) : FOk EE 100 [.one (.e (.sl 0 0 k2)), I i3, I i4, I i5, .one (.fn 90 [.p 1 0])] [.row .int x1 true, .cells [.sl 2 0 k7], .row .nod x6 false] (.tup []) [.row .int x52 true, .cells [.sl 2 0 k7], .row .nod x6 false] := by
  unfold slices_pdqsortCmpFunc_int_impl_walkFrom_1 at h
  refine FOk_of_W 148 3 Try.func100 rfl rfl (Nat.le_of_ble_eq_true rfl) rfl (fun w X θ => ?_)
  refine W_seq ?_
  refine W_region ?_
  refine WO_step 1 [0, 1, 2] [0, 1, 2, 3, 4, 10] True ⟨[(0, .one (.e (.sl 0 0 k2))), (1, I i3), (2, I i4), (3, I i5), (4, .one (.fn 90 [.p 1 0])), (10, B true)], [.row .int x1 true, .cells [.sl 2 0 k7], .row .nod x6 false]⟩ (by kernel_rfl) trivial ?_
  refine WO_nil rfl ?_
  refine thenS_n ?_
  refine W_seq ?_
  refine W_region ?_
  refine WO_step 1 [0, 1, 2] [0, 1, 2, 3, 4, 10, 11] True ⟨[(0, .one (.e (.sl 0 0 k2))), (1, I i3), (2, I i4), (3, I i5), (4, .one (.fn 90 [.p 1 0])), (10, B true), (11, B true)], [.row .int x1 true, .cells [.sl 2 0 k7], .row .nod x6 false]⟩ (by kernel_rfl) trivial ?_
  refine WO_nil rfl ?_
  refine thenS_n ?_
  refine W_block ?_
  refine W_loop ?_
  refine bindO_e h (fun x95 hx95 h => ?_)
  refine WL_cut (slices_pdqsortCmpFunc_int_impl_walkFrom_1_L1_ok w X θ k2 i3 i4 i5 x1 k7 x6 x95 n  hx95) ?_
  rintro _ _ ⟨rfl, rfl⟩
  refine blockS_r ?_
  cases h
  exact ⟨[0, 1, 2], True, by kernel_rfl, trivial⟩

/- slices.SortFunc[[]int,int] -/
def slices_SortFunc_int_int_impl_walkFrom_1 (n : Nat) (x1 : List Int) (k2 : Nat) (x3 : List Nod) (k4 : Nat) : Option ((List Int)) :=
 bindO (bits_Len (IntKind.u64.wrap ((k2 : Nat) : Int))) fun i11 =>
 bindO (slices_pdqsortCmpFunc_int_impl_walkFrom_1 n x1 k2 0 ((k2 : Nat) : Int) i11 x3 k4) fun x13 =>
 guardO (x1.length = x13.length) <|
 some x13

theorem slices_SortFunc_int_int_impl_walkFrom_1_ok (n : Nat) (x1 : List Int) (k2 : Nat) (x3 : List Nod) (k4 : Nat) (x10 : List Int) (h : slices_SortFunc_int_int_impl_walkFrom_1 n x1 k2 x3 k4 = some x10) : FOk EE 89 [.one (.e (.sl 0 0 k2)), .one (.fn 90 [.p 1 0])] [.row .int x1 true, .cells [.sl 2 0 k4], .row .nod x3 false] (.tup []) [.row .int x10 true, .cells [.sl 2 0 k4], .row .nod x3 false] := by
  unfold slices_SortFunc_int_int_impl_walkFrom_1 at h
  refine FOk_of_W 14 3 Try.func89 rfl rfl (Nat.le_of_ble_eq_true rfl) rfl (fun w X θ => ?_)
  refine W_seq ?_
  refine W_region ?_
  refine WO_step 3 [0, 1, 2] [0, 1, 4] (True ∧ True) ⟨[(0, .one (.e (.sl 0 0 k2))), (1, .one (.fn 90 [.p 1 0])), (4, I ((k2 : Nat) : Int))], [.row .int x1 true, .cells [.sl 2 0 k4], .row .nod x3 false]⟩ (by kernel_rfl) ⟨trivial, trivial⟩ ?_
  refine WO_nil rfl ?_
  refine thenS_n ?_
  refine W_region ?_
  refine WO_step 4 [0, 1, 2] [1, 7, 8, 10] (True ∧ True) ⟨[(1, .one (.fn 90 [.p 1 0])), (7, .one (.e (.sl 0 0 k2))), (8, I ((k2 : Nat) : Int)), (10, .one (.e (.c (.int .u64 (IntKind.u64.wrap ((k2 : Nat) : Int))))))], [.row .int x1 true, .cells [.sl 2 0 k4], .row .nod x3 false]⟩ (by kernel_rfl) ⟨trivial, trivial⟩ ?_
  refine bindO_e h (fun i11 hc12 h => ?_)
  refine WO_call [] Try.f101 rfl rfl rfl (by kernel_rfl) Try.func101 rfl (by kernel_rfl) (bits_Len_ok (IntKind.u64.wrap ((k2 : Nat) : Int)) i11 hc12) (trivial) rfl ?_
  refine WO_step 1 [0, 1, 2] [7, 8, 11, 12] True ⟨[(7, .one (.e (.sl 0 0 k2))), (8, I ((k2 : Nat) : Int)), (11, I i11), (12, .one (.fn 90 [.p 1 0]))], [.row .int x1 true, .cells [.sl 2 0 k4], .row .nod x3 false]⟩ (by kernel_rfl) trivial ?_
  refine bindO_e h (fun x13 hc14 h => ?_)
  refine guardO_e h (fun hl15 h => ?_)
  refine WO_call [.own 0, .own 1, .ro 2] Try.f100 rfl rfl rfl (by kernel_rfl) Try.func100 rfl (by kernel_rfl) (slices_pdqsortCmpFunc_int_impl_walkFrom_1_ok n x1 k2 0 ((k2 : Nat) : Int) i11 x3 k4 x13 hc14) (And.intro (And.intro rfl (And.intro rfl hl15)) (And.intro (trivial) (And.intro (And.intro rfl rfl) (trivial)))) rfl ?_
  refine WO_sub [0, 1, 2] [] (st' := ⟨[], [.row .int x13 true, .cells [.sl 2 0 k4], .row .nod x3 false]⟩) (by kernel_rfl) ?_
  refine WO_nil rfl ?_
  cases h
  exact ⟨[0, 1, 2], True, by kernel_rfl, trivial⟩

/- impl.walkFrom -/
def impl_walkFrom_L1 (rec : (List Nod) → Int → (List Int) → Nat → Option ((List Int))) (i2 : Int) (x3 : List Int) (x1 : List Nod) : Nat → (List Int) → Int → Option ((List Int))
| 0, _, _ => none
| n + 1, x112, i113 =>
 iteO (decide (i113 < ((x1.length : Nat) : Int)))
 (guardO (0 ≤ i113 ∧ i113 < ((x1.length : Nat) : Int)) <|
 bindO (iteO (decide (((x1.getD i113.toNat dnod).parent) = i2))
 (guardO (0 = 0 ∧ x112.length = x112.length ∧ x112.length + (([i113].drop 0).take ([i113].length)).length ≤ 1099511627776) <|
 some (x112 ++ (([i113].drop 0).take ([i113].length))))
 (some x112)) fun x140 =>
 impl_walkFrom_L1 rec i2 x3 x1 n x140 (w64 (i113 + 1)))
 (some x112)

theorem impl_walkFrom_L1_ok (rec : (List Nod) → Int → (List Int) → Nat → Option ((List Int))) (hrec : ∀ (x1 : List Nod) (i2 : Int) (x3 : List Int) (k4 : Nat) (x5 : List Int), rec x1 i2 x3 k4 = some x5 → FOk EE 72 [.one (.e (.sl 0 0 x1.length)), I i2, .one (.e (.sl 1 0 k4))] [.row .nod x1 false, .row .int x3 true] (.one (.e (.sl 2 0 x5.length))) [.row .nod x1 false, .dead, .row .int x5 true]) (w : World) (X : Nat → Prop) (θ : List Loc) (i2 : Int) (x3 : List Int) (x1 : List Nod) (x128 : (List Int)) : ∀ (n : Nat) (x112 : List Int) (i113 : Int), impl_walkFrom_L1 rec i2 x3 x1 n x112 i113 = some x128 → WL EE ⟨w, X, θ, 47, 2⟩ (subC [1, 1, 1, 0, 1, 4, 4] (bodyC Try.f72)) (fun (e : Exit) (s : St) => e = .exit 0 ∧ s = ⟨[(2, .one (.e (.sl 2 0 ((x3 ++ (([i2].drop 0).take ([i2].length))).length)))), (3, .one (.e (.p 3 0))), (7, .one (.e (.sl 4 0 x128.length)))], [.row .nod x1 false, .dead, .row .int (x3 ++ (([i2].drop 0).take ([i2].length))) true, .cells [.sl 0 0 x1.length], .row .int x128 true]⟩) ⟨[(1, I i2), (2, .one (.e (.sl 2 0 ((x3 ++ (([i2].drop 0).take ([i2].length))).length)))), (3, .one (.e (.p 3 0))), (7, .one (.e (.sl 4 0 x112.length))), (16, .one (.e (.sl 0 0 x1.length))), (17, I ((x1.length : Nat) : Int)), (18, I i113)], [.row .nod x1 false, .dead, .row .int (x3 ++ (([i2].drop 0).take ([i2].length))) true, .cells [.sl 0 0 x1.length], .row .int x112 true]⟩ := by
  intro n
  induction n with
  | zero => intro _ _ h; exact none_e h
  | succ n ih =>
    intro x112 i113 h
    rw [impl_walkFrom_L1] at h
    refine WL_round ?_
    refine W_seq ?_
    refine W_region ?_
    refine WO_step 1 [0, 1, 2, 3, 4] [1, 2, 3, 7, 16, 17, 18, 19] (True ∧ True) ⟨[(1, I i2), (2, .one (.e (.sl 2 0 ((x3 ++ (([i2].drop 0).take ([i2].length))).length)))), (3, .one (.e (.p 3 0))), (7, .one (.e (.sl 4 0 x112.length))), (16, .one (.e (.sl 0 0 x1.length))), (17, I ((x1.length : Nat) : Int)), (18, I i113), (19, B (decide (i113 < ((x1.length : Nat) : Int))))], [.row .nod x1 false, .dead, .row .int (x3 ++ (([i2].drop 0).take ([i2].length))) true, .cells [.sl 0 0 x1.length], .row .int x112 true]⟩ (by kernel_rfl) ⟨trivial, trivial⟩ ?_
    refine WO_nil rfl ?_
    refine thenS_n ?_
    refine W_seq ?_
    refine iteO_e h (fun hb131 h => W_true rfl hb131 ?_) (fun hb131 h => W_false rfl hb131 ?_)
    · refine W_sub [0, 1, 2, 3, 4] [1, 2, 3, 7, 16, 17, 18] (st' := ⟨[(1, I i2), (2, .one (.e (.sl 2 0 ((x3 ++ (([i2].drop 0).take ([i2].length))).length)))), (3, .one (.e (.p 3 0))), (7, .one (.e (.sl 4 0 x112.length))), (16, .one (.e (.sl 0 0 x1.length))), (17, I ((x1.length : Nat) : Int)), (18, I i113)], [.row .nod x1 false, .dead, .row .int (x3 ++ (([i2].drop 0).take ([i2].length))) true, .cells [.sl 0 0 x1.length], .row .int x112 true]⟩) (by kernel_rfl) ?_
      refine W_skip ?_
      refine thenS_n ?_
      refine W_seq ?_
      refine W_block ?_
      refine W_seq ?_
      refine W_region ?_
      refine guardO_e h (fun hg137 h => ?_)
      refine WO_step 6 [0, 1, 2, 3, 4, 5] [1, 2, 3, 7, 8, 9, 16, 17, 18] ((0 ≤ i113 ∧ i113 < ((x1.length : Nat) : Int)) ∧ (True ∧ (True ∧ (True ∧ True)))) ⟨[(1, I i2), (2, .one (.e (.sl 2 0 ((x3 ++ (([i2].drop 0).take ([i2].length))).length)))), (3, .one (.e (.p 3 0))), (7, .one (.e (.sl 4 0 x112.length))), (8, I i113), (9, .one (.e (.p 5 0))), (16, .one (.e (.sl 0 0 x1.length))), (17, I ((x1.length : Nat) : Int)), (18, I i113)], [.row .nod x1 false, .dead, .row .int (x3 ++ (([i2].drop 0).take ([i2].length))) true, .cells [.sl 0 0 x1.length], .row .int x112 true, .cells [cI ((x1.getD i113.toNat dnod).parent), cS ((x1.getD i113.toNat dnod).name), cI ((x1.getD i113.toNat dnod).value)]]⟩ (by kernel_rfl) ⟨hg137, trivial, trivial, trivial, trivial⟩ ?_
      refine WO_nil rfl ?_
      refine thenS_n ?_
      refine W_seq ?_
      refine W_region ?_
      refine WO_step 4 [0, 1, 2, 3, 4] [1, 2, 3, 7, 8, 16, 17, 18, 26] (True ∧ (True ∧ True)) ⟨[(1, I i2), (2, .one (.e (.sl 2 0 ((x3 ++ (([i2].drop 0).take ([i2].length))).length)))), (3, .one (.e (.p 3 0))), (7, .one (.e (.sl 4 0 x112.length))), (8, I i113), (16, .one (.e (.sl 0 0 x1.length))), (17, I ((x1.length : Nat) : Int)), (18, I i113), (26, B (decide (((x1.getD i113.toNat dnod).parent) = i2)))], [.row .nod x1 false, .dead, .row .int (x3 ++ (([i2].drop 0).take ([i2].length))) true, .cells [.sl 0 0 x1.length], .row .int x112 true]⟩ (by kernel_rfl) ⟨trivial, trivial, trivial⟩ ?_
      refine WO_nil rfl ?_
      refine thenS_n ?_
      refine bindO_e h (fun x140 hx140 h => ?_)
      refine W_cut (Q' := fun (e : Exit) (s : St) => e = .normal ∧ s = ⟨[(1, I i2), (2, .one (.e (.sl 2 0 ((x3 ++ (([i2].drop 0).take ([i2].length))).length)))), (3, .one (.e (.p 3 0))), (7, .one (.e (.sl 4 0 x140.length))), (16, .one (.e (.sl 0 0 x1.length))), (17, I ((x1.length : Nat) : Int)), (18, I i113)], [.row .nod x1 false, .dead, .row .int (x3 ++ (([i2].drop 0).take ([i2].length))) true, .cells [.sl 0 0 x1.length], .row .int x140 true]⟩) ?_ ?_
      · refine iteO_e hx140 (fun hb142 hx140 => W_true rfl hb142 ?_) (fun hb142 hx140 => W_false rfl hb142 ?_)
        · refine W_region ?_
          refine guardO_e hx140 (fun hg143 hx140 => ?_)
          refine WO_step 5 [0, 1, 2, 3, 6] [1, 2, 3, 7, 16, 17, 18] ((0 = 0 ∧ x112.length = x112.length ∧ x112.length + (([i113].drop 0).take ([i113].length)).length ≤ 1099511627776) ∧ True) ⟨[(1, I i2), (2, .one (.e (.sl 2 0 ((x3 ++ (([i2].drop 0).take ([i2].length))).length)))), (3, .one (.e (.p 3 0))), (7, .one (.e (.sl 4 0 ((x112 ++ (([i113].drop 0).take ([i113].length))).length)))), (16, .one (.e (.sl 0 0 x1.length))), (17, I ((x1.length : Nat) : Int)), (18, I i113)], [.row .nod x1 false, .dead, .row .int (x3 ++ (([i2].drop 0).take ([i2].length))) true, .cells [.sl 0 0 x1.length], .row .int (x112 ++ (([i113].drop 0).take ([i113].length))) true]⟩ (by kernel_rfl) ⟨hg143, trivial⟩ ?_
          refine WO_nil rfl ?_
          cases hx140
          exact And.intro rfl rfl
        · refine W_sub [0, 1, 2, 3, 4] [1, 2, 3, 7, 16, 17, 18] (st' := ⟨[(1, I i2), (2, .one (.e (.sl 2 0 ((x3 ++ (([i2].drop 0).take ([i2].length))).length)))), (3, .one (.e (.p 3 0))), (7, .one (.e (.sl 4 0 x112.length))), (16, .one (.e (.sl 0 0 x1.length))), (17, I ((x1.length : Nat) : Int)), (18, I i113)], [.row .nod x1 false, .dead, .row .int (x3 ++ (([i2].drop 0).take ([i2].length))) true, .cells [.sl 0 0 x1.length], .row .int x112 true]⟩) (by kernel_rfl) ?_
          refine W_skip ?_
          cases hx140
          exact And.intro rfl rfl
      · rintro _ _ ⟨rfl, rfl⟩
        refine blockS_n ?_
        refine thenS_n ?_
        refine W_region ?_
        refine WO_step 2 [0, 1, 2, 3, 4] [1, 2, 3, 7, 16, 17, 18] (True ∧ True) ⟨[(1, I i2), (2, .one (.e (.sl 2 0 ((x3 ++ (([i2].drop 0).take ([i2].length))).length)))), (3, .one (.e (.p 3 0))), (7, .one (.e (.sl 4 0 x140.length))), (16, .one (.e (.sl 0 0 x1.length))), (17, I ((x1.length : Nat) : Int)), (18, I (w64 (i113 + 1)))], [.row .nod x1 false, .dead, .row .int (x3 ++ (([i2].drop 0).take ([i2].length))) true, .cells [.sl 0 0 x1.length], .row .int x140 true]⟩ (by kernel_rfl) ⟨trivial, trivial⟩ ?_
        refine WO_nil rfl ?_
        refine thenS_n ?_
        exact ih _ _ h
    · refine W_sub [0, 1, 2, 3, 4] [2, 3, 7] (st' := ⟨[(2, .one (.e (.sl 2 0 ((x3 ++ (([i2].drop 0).take ([i2].length))).length)))), (3, .one (.e (.p 3 0))), (7, .one (.e (.sl 4 0 x112.length)))], [.row .nod x1 false, .dead, .row .int (x3 ++ (([i2].drop 0).take ([i2].length))) true, .cells [.sl 0 0 x1.length], .row .int x112 true]⟩) (by kernel_rfl) ?_
      refine W_exit ?_
      refine thenS_e ?_
      refine thenS_e ?_
      cases h
      exact And.intro rfl rfl

def impl_walkFrom_L2 (rec : (List Nod) → Int → (List Int) → Nat → Option ((List Int))) (x145 : List Int) (x1 : List Nod) : Nat → (List Int) → Int → Option ((List Int))
| 0, _, _ => none
| n + 1, x162, i163 =>
 iteO (decide (i163 < ((x145.length : Nat) : Int)))
 (guardO (0 ≤ i163 ∧ i163 < ((x145.length : Nat) : Int)) <|
 bindO (rec ((x1.drop 0).take x1.length) (x145.getD i163.toNat 0) x162 x162.length) fun x182 =>
 impl_walkFrom_L2 rec x145 x1 n x182 (w64 (i163 + 1)))
 (some x162)

theorem impl_walkFrom_L2_ok (rec : (List Nod) → Int → (List Int) → Nat → Option ((List Int))) (hrec : ∀ (x1 : List Nod) (i2 : Int) (x3 : List Int) (k4 : Nat) (x5 : List Int), rec x1 i2 x3 k4 = some x5 → FOk EE 72 [.one (.e (.sl 0 0 x1.length)), I i2, .one (.e (.sl 1 0 k4))] [.row .nod x1 false, .row .int x3 true] (.one (.e (.sl 2 0 x5.length))) [.row .nod x1 false, .dead, .row .int x5 true]) (w : World) (X : Nat → Prop) (θ : List Loc) (x145 : List Int) (x1 : List Nod) (x174 : (List Int)) : ∀ (n : Nat) (x162 : List Int) (i163 : Int), impl_walkFrom_L2 rec x145 x1 n x162 i163 = some x174 → WL EE ⟨w, X, θ, 47, 2⟩ (subC [1, 1, 1, 1, 1, 0, 1, 4, 4] (bodyC Try.f72)) (fun (e : Exit) (s : St) => e = .exit 2 ∧ s = ⟨[(2, .one (.e (.sl 2 0 x174.length)))], [.row .nod x1 false, .dead, .row .int x174 true]⟩) ⟨[(2, .one (.e (.sl 2 0 x162.length))), (3, .one (.e (.p 3 0))), (35, .one (.e (.sl 4 0 x145.length))), (36, I ((x145.length : Nat) : Int)), (37, I i163)], [.row .nod x1 false, .dead, .row .int x162 true, .cells [.sl 0 0 x1.length], .row .int x145 true]⟩ := by
  intro n
  induction n with
  | zero => intro _ _ h; exact none_e h
  | succ n ih =>
    intro x162 i163 h
    rw [impl_walkFrom_L2] at h
    refine WL_round ?_
    refine W_seq ?_
    refine W_region ?_
    refine WO_step 1 [0, 1, 2, 3, 4] [2, 3, 35, 36, 37, 38] (True ∧ True) ⟨[(2, .one (.e (.sl 2 0 x162.length))), (3, .one (.e (.p 3 0))), (35, .one (.e (.sl 4 0 x145.length))), (36, I ((x145.length : Nat) : Int)), (37, I i163), (38, B (decide (i163 < ((x145.length : Nat) : Int))))], [.row .nod x1 false, .dead, .row .int x162 true, .cells [.sl 0 0 x1.length], .row .int x145 true]⟩ (by kernel_rfl) ⟨trivial, trivial⟩ ?_
    refine WO_nil rfl ?_
    refine thenS_n ?_
    refine W_seq ?_
    refine iteO_e h (fun hb177 h => W_true rfl hb177 ?_) (fun hb177 h => W_false rfl hb177 ?_)
    · refine W_sub [0, 1, 2, 3, 4] [2, 3, 35, 36, 37] (st' := ⟨[(2, .one (.e (.sl 2 0 x162.length))), (3, .one (.e (.p 3 0))), (35, .one (.e (.sl 4 0 x145.length))), (36, I ((x145.length : Nat) : Int)), (37, I i163)], [.row .nod x1 false, .dead, .row .int x162 true, .cells [.sl 0 0 x1.length], .row .int x145 true]⟩) (by kernel_rfl) ?_
      refine W_skip ?_
      refine thenS_n ?_
      refine W_seq ?_
      refine W_block ?_
      refine W_seq ?_
      refine W_region ?_
      refine guardO_e h (fun hg181 h => ?_)
      refine WO_step 3 [0, 1, 2, 3, 4] [2, 3, 11, 35, 36, 37] ((0 ≤ i163 ∧ i163 < ((x145.length : Nat) : Int)) ∧ (True ∧ True)) ⟨[(2, .one (.e (.sl 2 0 x162.length))), (3, .one (.e (.p 3 0))), (11, I (x145.getD i163.toNat 0)), (35, .one (.e (.sl 4 0 x145.length))), (36, I ((x145.length : Nat) : Int)), (37, I i163)], [.row .nod x1 false, .dead, .row .int x162 true, .cells [.sl 0 0 x1.length], .row .int x145 true]⟩ (by kernel_rfl) ⟨hg181, trivial, trivial⟩ ?_
      refine WO_nil rfl ?_
      refine thenS_n ?_
      refine W_region ?_
      refine WO_step 3 [0, 1, 3, 4, 2] [3, 35, 36, 37, 41, 42, 43] (True ∧ True) ⟨[(3, .one (.e (.p 2 0))), (35, .one (.e (.sl 3 0 x145.length))), (36, I ((x145.length : Nat) : Int)), (37, I i163), (41, .one (.e (.sl 0 0 x1.length))), (42, I (x145.getD i163.toNat 0)), (43, .one (.e (.sl 4 0 x162.length)))], [.row .nod x1 false, .dead, .cells [.sl 0 0 x1.length], .row .int x145 true, .row .int x162 true]⟩ (by kernel_rfl) ⟨trivial, trivial⟩ ?_
      refine bindO_e h (fun x182 hc183 h => ?_)
      refine WO_call [.view 0, .own 4] Try.f72 rfl rfl rfl (by kernel_rfl) Try.func72 rfl (by kernel_rfl) (hrec ((x1.drop 0).take x1.length) (x145.getD i163.toNat 0) x162 x162.length x182 hc183) (And.intro (trivial) (trivial)) rfl ?_
      refine WO_step 1 [0, 1, 5, 2, 3] [2, 3, 35, 36, 37] True ⟨[(2, .one (.e (.sl 2 0 x182.length))), (3, .one (.e (.p 3 0))), (35, .one (.e (.sl 4 0 x145.length))), (36, I ((x145.length : Nat) : Int)), (37, I i163)], [.row .nod x1 false, .dead, .row .int x182 true, .cells [.sl 0 0 x1.length], .row .int x145 true]⟩ (by kernel_rfl) trivial ?_
      refine WO_nil rfl ?_
      refine blockS_n ?_
      refine thenS_n ?_
      refine W_region ?_
      refine WO_step 2 [0, 1, 2, 3, 4] [2, 3, 35, 36, 37] (True ∧ True) ⟨[(2, .one (.e (.sl 2 0 x182.length))), (3, .one (.e (.p 3 0))), (35, .one (.e (.sl 4 0 x145.length))), (36, I ((x145.length : Nat) : Int)), (37, I (w64 (i163 + 1)))], [.row .nod x1 false, .dead, .row .int x182 true, .cells [.sl 0 0 x1.length], .row .int x145 true]⟩ (by kernel_rfl) ⟨trivial, trivial⟩ ?_
      refine WO_nil rfl ?_
      refine thenS_n ?_
      exact ih _ _ h
    · refine W_sub [0, 1, 2] [2] (st' := ⟨[(2, .one (.e (.sl 2 0 x162.length)))], [.row .nod x1 false, .dead, .row .int x162 true]⟩) (by kernel_rfl) ?_
      refine W_exit ?_
      refine thenS_e ?_
      refine thenS_e ?_
      cases h
      exact And.intro rfl rfl

def impl_walkFrom_B (rec : (List Nod) → Int → (List Int) → Nat → Option ((List Int))) (n : Nat) (x1 : List Nod) (i2 : Int) (x3 : List Int) (k4 : Nat) : Option ((List Int)) :=
 guardO (0 = 0 ∧ k4 = x3.length ∧ x3.length + (([i2].drop 0).take ([i2].length)).length ≤ 1099511627776) <|
 bindO (impl_walkFrom_L1 rec i2 x3 x1 n ([] : List Int) 0) fun x128 =>
 bindO (slices_SortFunc_int_int_impl_walkFrom_1 n x128 x128.length x1 x1.length) fun x145 =>
 guardO (x128.length = x145.length) <|
 bindO (impl_walkFrom_L2 rec x145 x1 n (x3 ++ (([i2].drop 0).take ([i2].length))) 0) fun x174 =>
 some x174

theorem impl_walkFrom_B_ok (rec : (List Nod) → Int → (List Int) → Nat → Option ((List Int))) (hrec : ∀ (x1 : List Nod) (i2 : Int) (x3 : List Int) (k4 : Nat) (x5 : List Int), rec x1 i2 x3 k4 = some x5 → FOk EE 72 [.one (.e (.sl 0 0 x1.length)), I i2, .one (.e (.sl 1 0 k4))] [.row .nod x1 false, .row .int x3 true] (.one (.e (.sl 2 0 x5.length))) [.row .nod x1 false, .dead, .row .int x5 true]) (n : Nat) (x1 : List Nod) (i2 : Int) (x3 : List Int) (k4 : Nat) (x92 : List Int) (h : impl_walkFrom_B rec n x1 i2 x3 k4 = some x92) : FOk EE 72 [.one (.e (.sl 0 0 x1.length)), I i2, .one (.e (.sl 1 0 k4))] [.row .nod x1 false, .row .int x3 true] (.one (.e (.sl 2 0 x92.length))) [.row .nod x1 false, .dead, .row .int x92 true] := by
  unfold impl_walkFrom_B at h
  refine FOk_of_W 47 2 Try.func72 rfl rfl (Nat.le_of_ble_eq_true rfl) rfl (fun w X θ => ?_)
  refine W_seq ?_
  refine W_region ?_
  refine WO_step 2 [0, 1, 2] [1, 2, 3] (True ∧ True) ⟨[(1, I i2), (2, .one (.e (.sl 1 0 k4))), (3, .one (.e (.p 2 0)))], [.row .nod x1 false, .row .int x3 true, .cells [.sl 0 0 x1.length]]⟩ (by kernel_rfl) ⟨trivial, trivial⟩ ?_
  refine WO_nil rfl ?_
  refine thenS_n ?_
  refine W_seq ?_
  refine W_region ?_
  refine guardO_e h (fun hg93 h => ?_)
  refine WO_step 5 [0, 1, 4, 2] [1, 2, 3] ((0 = 0 ∧ k4 = x3.length ∧ x3.length + (([i2].drop 0).take ([i2].length)).length ≤ 1099511627776) ∧ True) ⟨[(1, I i2), (2, .one (.e (.sl 2 0 ((x3 ++ (([i2].drop 0).take ([i2].length))).length)))), (3, .one (.e (.p 3 0)))], [.row .nod x1 false, .dead, .row .int (x3 ++ (([i2].drop 0).take ([i2].length))) true, .cells [.sl 0 0 x1.length]]⟩ (by kernel_rfl) ⟨hg93, trivial⟩ ?_
  refine WO_nil rfl ?_
  refine thenS_n ?_
  refine W_seq ?_
  refine W_region ?_
  refine WO_step 1 [0, 1, 2, 3] [1, 2, 3, 7] True ⟨[(1, I i2), (2, .one (.e (.sl 2 0 ((x3 ++ (([i2].drop 0).take ([i2].length))).length)))), (3, .one (.e (.p 3 0))), (7, .one (.e (.nsl)))], [.row .nod x1 false, .dead, .row .int (x3 ++ (([i2].drop 0).take ([i2].length))) true, .cells [.sl 0 0 x1.length]]⟩ (by kernel_rfl) trivial ?_
  refine WO_nilrow 7 .int rfl ?_
  refine WO_sub [0, 1, 2, 3, 4] [1, 2, 3, 7] (st' := ⟨[(1, I i2), (2, .one (.e (.sl 2 0 ((x3 ++ (([i2].drop 0).take ([i2].length))).length)))), (3, .one (.e (.p 3 0))), (7, .one (.e (.sl 4 0 (([] : List Int).length))))], [.row .nod x1 false, .dead, .row .int (x3 ++ (([i2].drop 0).take ([i2].length))) true, .cells [.sl 0 0 x1.length], .row .int ([] : List Int) true]⟩) (by kernel_rfl) ?_
  refine WO_nil rfl ?_
  refine thenS_n ?_
  refine W_seq ?_
  refine W_seq ?_
  refine W_region ?_
  refine WO_step 3 [0, 1, 2, 3, 4] [1, 2, 3, 7, 16, 17, 18] (True ∧ (True ∧ True)) ⟨[(1, I i2), (2, .one (.e (.sl 2 0 ((x3 ++ (([i2].drop 0).take ([i2].length))).length)))), (3, .one (.e (.p 3 0))), (7, .one (.e (.sl 4 0 (([] : List Int).length)))), (16, .one (.e (.sl 0 0 x1.length))), (17, I ((x1.length : Nat) : Int)), (18, I 0)], [.row .nod x1 false, .dead, .row .int (x3 ++ (([i2].drop 0).take ([i2].length))) true, .cells [.sl 0 0 x1.length], .row .int ([] : List Int) true]⟩ (by kernel_rfl) ⟨trivial, trivial, trivial⟩ ?_
  refine WO_nil rfl ?_
  refine thenS_n ?_
  refine W_block ?_
  refine W_loop ?_
  refine bindO_e h (fun x128 hx128 h => ?_)
  refine WL_cut (impl_walkFrom_L1_ok rec hrec w X θ i2 x3 x1 x128 n ([] : List Int) 0 hx128) ?_
  rintro _ _ ⟨rfl, rfl⟩
  refine blockS_y ?_
  refine thenS_n ?_
  refine W_seq ?_
  refine W_region ?_
  refine WO_step 2 [0, 1, 2, 3, 4] [2, 3, 7, 32, 33] (True ∧ True) ⟨[(2, .one (.e (.sl 2 0 ((x3 ++ (([i2].drop 0).take ([i2].length))).length)))), (3, .one (.e (.p 3 0))), (7, .one (.e (.sl 4 0 x128.length))), (32, .one (.e (.sl 4 0 x128.length))), (33, .one (.fn 90 [.p 3 0]))], [.row .nod x1 false, .dead, .row .int (x3 ++ (([i2].drop 0).take ([i2].length))) true, .cells [.sl 0 0 x1.length], .row .int x128 true]⟩ (by kernel_rfl) ⟨trivial, trivial⟩ ?_
  refine bindO_e h (fun x145 hc146 h => ?_)
  refine guardO_e h (fun hl147 h => ?_)
  refine WO_call [.own 4, .own 3, .ro 0] Try.f89 rfl rfl rfl (by kernel_rfl) Try.func89 rfl (by kernel_rfl) (slices_SortFunc_int_int_impl_walkFrom_1_ok n x128 x128.length x1 x1.length x145 hc146) (And.intro (And.intro rfl (And.intro rfl hl147)) (And.intro (trivial) (And.intro (And.intro rfl rfl) (trivial)))) rfl ?_
  refine WO_sub [0, 1, 2, 3, 4] [2, 3, 7, 32, 33] (st' := ⟨[(2, .one (.e (.sl 2 0 ((x3 ++ (([i2].drop 0).take ([i2].length))).length)))), (3, .one (.e (.p 3 0))), (7, .one (.e (.sl 4 0 x128.length))), (32, .one (.e (.sl 4 0 x128.length))), (33, .one (.fn 90 [.p 3 0]))], [.row .nod x1 false, .dead, .row .int (x3 ++ (([i2].drop 0).take ([i2].length))) true, .cells [.sl 0 0 x1.length], .row .int x145 true]⟩) (by kernel_rfl) ?_
  refine WO_eq (st' := ⟨[(2, .one (.e (.sl 2 0 ((x3 ++ (([i2].drop 0).take ([i2].length))).length)))), (3, .one (.e (.p 3 0))), (7, .one (.e (.sl 4 0 x145.length))), (32, .one (.e (.sl 4 0 x145.length))), (33, .one (.fn 90 [.p 3 0]))], [.row .nod x1 false, .dead, .row .int (x3 ++ (([i2].drop 0).take ([i2].length))) true, .cells [.sl 0 0 x1.length], .row .int x145 true]⟩) (by simp only [hl147]) ?_
  refine WO_sub [0, 1, 2, 3, 4] [2, 3, 7] (st' := ⟨[(2, .one (.e (.sl 2 0 ((x3 ++ (([i2].drop 0).take ([i2].length))).length)))), (3, .one (.e (.p 3 0))), (7, .one (.e (.sl 4 0 x145.length)))], [.row .nod x1 false, .dead, .row .int (x3 ++ (([i2].drop 0).take ([i2].length))) true, .cells [.sl 0 0 x1.length], .row .int x145 true]⟩) (by kernel_rfl) ?_
  refine WO_nil rfl ?_
  refine thenS_n ?_
  refine W_seq ?_
  refine W_seq ?_
  refine W_region ?_
  refine WO_step 3 [0, 1, 2, 3, 4] [2, 3, 35, 36, 37] (True ∧ True) ⟨[(2, .one (.e (.sl 2 0 ((x3 ++ (([i2].drop 0).take ([i2].length))).length)))), (3, .one (.e (.p 3 0))), (35, .one (.e (.sl 4 0 x145.length))), (36, I ((x145.length : Nat) : Int)), (37, I 0)], [.row .nod x1 false, .dead, .row .int (x3 ++ (([i2].drop 0).take ([i2].length))) true, .cells [.sl 0 0 x1.length], .row .int x145 true]⟩ (by kernel_rfl) ⟨trivial, trivial⟩ ?_
  refine WO_nil rfl ?_
  refine thenS_n ?_
  refine W_block ?_
  refine W_loop ?_
  refine bindO_e h (fun x174 hx174 h => ?_)
  refine WL_cut (impl_walkFrom_L2_ok rec hrec w X θ x145 x1 x174 n (x3 ++ (([i2].drop 0).take ([i2].length))) 0 hx174) ?_
  rintro _ _ ⟨rfl, rfl⟩
  refine blockS_y ?_
  refine thenS_n ?_
  refine W_seq ?_
  refine W_region ?_
  refine WO_step 2 [0, 1, 2] [6] True ⟨[(6, .one (.e (.sl 2 0 x174.length)))], [.row .nod x1 false, .dead, .row .int x174 true]⟩ (by kernel_rfl) trivial ?_
  refine WO_nil rfl ?_
  refine thenS_n ?_
  refine W_ret ?_
  cases h
  exact ⟨[0, 1, 2], True, by kernel_rfl, trivial⟩

def impl_walkFrom : Nat → (List Nod) → Int → (List Int) → Nat → Option ((List Int))
| 0, _, _, _, _ => none
| n + 1, x1, i2, x3, k4 => impl_walkFrom_B (impl_walkFrom n) n x1 i2 x3 k4

theorem impl_walkFrom_ok : ∀ (n : Nat) (x1 : List Nod) (i2 : Int) (x3 : List Int) (k4 : Nat) (x92 : List Int), impl_walkFrom n x1 i2 x3 k4 = some x92 → FOk EE 72 [.one (.e (.sl 0 0 x1.length)), I i2, .one (.e (.sl 1 0 k4))] [.row .nod x1 false, .row .int x3 true] (.one (.e (.sl 2 0 x92.length))) [.row .nod x1 false, .dead, .row .int x92 true] := by
  intro n
  induction n with
  | zero => intro _ _ _ _ _ h; exact none_e h
  | succ n ih => intro x1 i2 x3 k4 x92 h; exact impl_walkFrom_B_ok (impl_walkFrom n) ih n x1 i2 x3 k4 x92 h

/- impl.WalkNodes -/
def impl_WalkNodes (n : Nat) (x1 : List Nod) (i2 : Int) : Option ((List Int)) :=
 bindO (impl_isNode n x1 i2) fun b10 =>
 iteO (!b10)
 (some ([] : List Int))
 (bindO (impl_walkFrom n x1 i2 ([] : List Int) (([] : List Int).length)) fun x14 =>
 some x14)

theorem impl_WalkNodes_ok (n : Nat) (x1 : List Nod) (i2 : Int) (x9 : List Int) (h : impl_WalkNodes n x1 i2 = some x9) : FOk EE 52 [.one (.e (.sl 0 0 x1.length)), I i2] [.row .nod x1 false] (.one (.e (.sl 1 0 x9.length))) [.row .nod x1 false, .row .int x9 true] := by
  unfold impl_WalkNodes at h
  refine FOk_of_W 12 1 Try.func52 rfl rfl (Nat.le_of_ble_eq_true rfl) rfl (fun w X θ => ?_)
  refine W_seq ?_
  refine W_region ?_
  refine WO_step 1 [0] [0, 1] True ⟨[(0, .one (.e (.sl 0 0 x1.length))), (1, I i2)], [.row .nod x1 false]⟩ (by kernel_rfl) trivial ?_
  refine WO_nil rfl ?_
  refine thenS_n ?_
  refine W_seq ?_
  refine W_seq ?_
  refine W_region ?_
  refine WO_step 2 [0] [0, 1, 5, 6] True ⟨[(0, .one (.e (.sl 0 0 x1.length))), (1, I i2), (5, .one (.e (.sl 0 0 x1.length))), (6, I i2)], [.row .nod x1 false]⟩ (by kernel_rfl) trivial ?_
  refine bindO_e h (fun b10 hc11 h => ?_)
  refine WO_call [.ro 0] Try.f71 rfl rfl rfl (by kernel_rfl) Try.func71 rfl (by kernel_rfl) (impl_isNode_ok n x1 i2 b10 hc11) (And.intro (And.intro rfl rfl) (trivial)) rfl ?_
  refine WO_step 1 [0] [0, 1, 8] True ⟨[(0, .one (.e (.sl 0 0 x1.length))), (1, I i2), (8, B (!b10))], [.row .nod x1 false]⟩ (by kernel_rfl) trivial ?_
  refine WO_nil rfl ?_
  refine thenS_n ?_
  refine iteO_e h (fun hb13 h => W_true rfl hb13 ?_) (fun hb13 h => W_false rfl hb13 ?_)
  · refine W_seq ?_
    refine W_region ?_
    refine WO_step 1 [0] [4] True ⟨[(4, .one (.e (.nsl)))], [.row .nod x1 false]⟩ (by kernel_rfl) trivial ?_
    refine WO_nilrow 4 .int rfl ?_
    refine WO_sub [0, 1] [4] (st' := ⟨[(4, .one (.e (.sl 1 0 (([] : List Int).length))))], [.row .nod x1 false, .row .int ([] : List Int) true]⟩) (by kernel_rfl) ?_
    refine WO_nil rfl ?_
    refine thenS_n ?_
    refine W_ret ?_
    refine thenS_r ?_
    cases h
    exact ⟨[0, 1], True, by kernel_rfl, trivial⟩
  · refine W_sub [0] [0, 1] (st' := ⟨[(0, .one (.e (.sl 0 0 x1.length))), (1, I i2)], [.row .nod x1 false]⟩) (by kernel_rfl) ?_
    refine W_skip ?_
    refine thenS_n ?_
    refine W_seq ?_
    refine W_region ?_
    refine WO_step 2 [0] [9, 10] True ⟨[(9, .one (.e (.sl 0 0 x1.length))), (10, I i2)], [.row .nod x1 false]⟩ (by kernel_rfl) trivial ?_
    refine bindO_e h (fun x14 hc15 h => ?_)
    refine WO_callN [(2, .int)] (H1 := [.row .nod x1 false, .row .int ([] : List Int) true]) [.ro 0, .own 1] Try.f72 rfl rfl rfl (by kernel_rfl) Try.func72 rfl (by kernel_rfl) (impl_walkFrom_ok n x1 i2 ([] : List Int) (([] : List Int).length) x14 hc15) (And.intro (And.intro rfl rfl) (And.intro (trivial) (trivial))) rfl ?_
    refine WO_step 1 [0, 2] [4] True ⟨[(4, .one (.e (.sl 1 0 x14.length)))], [.row .nod x1 false, .row .int x14 true]⟩ (by kernel_rfl) trivial ?_
    refine WO_nil rfl ?_
    refine thenS_n ?_
    refine W_ret ?_
    cases h
    exact ⟨[0, 1], True, by kernel_rfl, trivial⟩

/- slices.Reverse[[]int,int] -/
def slices_Reverse_int_int_L1 (k2 : Nat) : Nat → (List Int) → Int → Int → Option ((List Int))
| 0, _, _, _ => none
| n + 1, x68, i69, i70 =>
 iteO (decide (i69 < i70))
 (guardO (0 ≤ i70 ∧ i70 < ((k2 : Nat) : Int)) <|
 guardO (0 ≤ i69 ∧ i69 < ((k2 : Nat) : Int)) <|
 guardO (0 ≤ i69 ∧ i69 < ((k2 : Nat) : Int)) <|
 guardO (0 ≤ i70 ∧ i70 < ((k2 : Nat) : Int)) <|
 slices_Reverse_int_int_L1 k2 n ((x68.set i69.toNat (x68.getD i70.toNat 0)).set i70.toNat (x68.getD i69.toNat 0)) (w64 (i69 + 1)) (w64 (i70 - 1)))
 (some x68)

theorem slices_Reverse_int_int_L1_ok (w : World) (X : Nat → Prop) (θ : List Loc) (k2 : Nat) (x84 : (List Int)) : ∀ (n : Nat) (x68 : List Int) (i69 : Int) (i70 : Int), slices_Reverse_int_int_L1 k2 n x68 i69 i70 = some x84 → WL EE ⟨w, X, θ, 28, 1⟩ (subC [1, 4, 4] (bodyC Try.f92)) (fun (e : Exit) (s : St) => e = .exit 0 ∧ s = ⟨[], [.row .int x84 true]⟩) ⟨[(0, .one (.e (.sl 0 0 k2))), (2, I i69), (3, I i70)], [.row .int x68 true]⟩ := by
  intro n
  induction n with
  | zero => intro _ _ _ h; exact none_e h
  | succ n ih =>
    intro x68 i69 i70 h
    rw [slices_Reverse_int_int_L1] at h
    refine WL_round ?_
    refine W_seq ?_
    refine W_seq ?_
    refine W_region ?_
    refine WO_step 3 [0] [0, 2, 3, 9] (True ∧ True) ⟨[(0, .one (.e (.sl 0 0 k2))), (2, I i69), (3, I i70), (9, B (decide (i69 < i70)))], [.row .int x68 true]⟩ (by kernel_rfl) ⟨trivial, trivial⟩ ?_
    refine WO_nil rfl ?_
    refine thenS_n ?_
    refine iteO_e h (fun hb87 h => W_true rfl hb87 ?_) (fun hb87 h => W_false rfl hb87 ?_)
    · refine W_sub [0] [0, 2, 3] (st' := ⟨[(0, .one (.e (.sl 0 0 k2))), (2, I i69), (3, I i70)], [.row .int x68 true]⟩) (by kernel_rfl) ?_
      refine W_skip ?_
      refine thenS_n ?_
      refine W_seq ?_
      refine W_block ?_
      refine guardO_e h (fun hg92 h => ?_)
      refine guardO_e h (fun hg93 h => ?_)
      refine guardO_e h (fun hg94 h => ?_)
      refine guardO_e h (fun hg95 h => ?_)
      refine W_cut (Q' := fun (e : Exit) (s : St) => e = .normal ∧ s = ⟨[(0, .one (.e (.sl 0 0 k2))), (2, I i69), (3, I i70)], [.row .int ((x68.set i69.toNat (x68.getD i70.toNat 0)).set i70.toNat (x68.getD i69.toNat 0)) true]⟩) ?_ ?_
      · refine W_draw [0] false (by kernel_rfl) (by kernel_rfl) ?_
        refine WD_takeK [0, 1, 2, 3, 4, 5, 8, 9] [0, 2, 3, 14, 15, 16, 17, 18, 19, 22, 23] [0, 2, 3, 14, 15, 16, 17, 18, 19, 22, 23] (φ := True) (ls' := #[true, true, true, true, true, true, false, false, true, true, false, false, false, false, false, false]) (Ts' := [(0, .one (.e (.sl 0 0 k2))), (2, I i69), (3, I i70), (14, .one (.e (.sl 0 0 k2))), (15, I i69), (16, .one (.e (.sl 0 0 k2))), (17, I i70), (18, .one (.e (.sl 0 0 k2))), (19, I i70), (22, .one (.e (.sl 0 0 k2))), (23, I i69)]) (st' := ⟨[(0, .one (.e (.sl 0 0 k2))), (2, I i69), (3, I i70), (14, .one (.e (.sl 0 0 k2))), (15, I i69), (16, .one (.e (.sl 0 0 k2))), (17, I i70), (18, .one (.e (.sl 0 0 k2))), (19, I i70), (22, .one (.e (.sl 0 0 k2))), (23, I i69)], [.row .int x68 true]⟩) (n2 := 8) (by kernel_rfl) trivial rfl ?_
        refine WD_all [6, 10] (n := 7) (by kernel_rfl) rfl (And.intro ?_ (?_))
        · refine WM_op (φ := 0 ≤ i70 ∧ i70 < ((k2 : Nat) : Int)) (v := .one (.e (.rp 0 i70.toNat 0))) (H' := [.row .int x68 true]) rfl rfl (by kernel_rfl) hg92 rfl (trivial) ?_
          refine WD_all [7, 10] (n := 6) (by kernel_rfl) rfl (And.intro ?_ (?_))
          · refine WM_op (φ := True) (v := I (x68.getD i70.toNat 0)) (H' := [.row .int x68 true]) rfl rfl (by kernel_rfl) trivial rfl (trivial) ?_
            refine WD_all [10] (n := 5) (by kernel_rfl) rfl ?_
            refine WM_op (φ := 0 ≤ i69 ∧ i69 < ((k2 : Nat) : Int)) (v := .one (.e (.rp 0 i69.toNat 0))) (H' := [.row .int x68 true]) rfl rfl (by kernel_rfl) hg93 rfl (trivial) ?_
            refine WD_all [11] (n := 4) (by kernel_rfl) rfl ?_
            refine WM_op (φ := True) (v := I (x68.getD i69.toNat 0)) (H' := [.row .int x68 true]) rfl rfl (by kernel_rfl) trivial rfl (trivial) ?_
            refine WD_all [12] (n := 3) (by kernel_rfl) rfl ?_
            refine WM_op (φ := 0 ≤ i69 ∧ i69 < ((k2 : Nat) : Int)) (v := .one (.e (.rp 0 i69.toNat 0))) (H' := [.row .int x68 true]) rfl rfl (by kernel_rfl) hg94 rfl (trivial) ?_
            refine WD_all [13] (n := 2) (by kernel_rfl) rfl ?_
            refine WM_store (u := .one (.e (.rp 0 i69.toNat 0))) (v := I (x68.getD i70.toNat 0)) (φ := True) (H' := [.row .int (x68.set i69.toNat (x68.getD i70.toNat 0)) true]) rfl rfl rfl rfl rfl (by kernel_rfl) trivial rfl (trivial) ?_
            refine WD_all [14] (n := 1) (by kernel_rfl) rfl ?_
            refine WM_op (φ := 0 ≤ i70 ∧ i70 < ((k2 : Nat) : Int)) (v := .one (.e (.rp 0 i70.toNat 0))) (H' := [.row .int (x68.set i69.toNat (x68.getD i70.toNat 0)) true]) rfl rfl (by kernel_rfl) hg95 rfl (trivial) ?_
            refine WD_all [15] (n := 0) (by kernel_rfl) rfl ?_
            refine WM_store (u := .one (.e (.rp 0 i70.toNat 0))) (v := I (x68.getD i69.toNat 0)) (φ := True) (H' := [.row .int ((x68.set i69.toNat (x68.getD i70.toNat 0)).set i70.toNat (x68.getD i69.toNat 0)) true]) rfl rfl rfl rfl rfl (by kernel_rfl) trivial rfl (trivial) ?_
            exact WD_done [0] [0, 2, 3] (st' := ⟨[(0, .one (.e (.sl 0 0 k2))), (2, I i69), (3, I i70)], [.row .int ((x68.set i69.toNat (x68.getD i70.toNat 0)).set i70.toNat (x68.getD i69.toNat 0)) true]⟩) (by kernel_rfl) (by kernel_rfl) (And.intro rfl rfl)
          · refine WM_op (φ := 0 ≤ i69 ∧ i69 < ((k2 : Nat) : Int)) (v := .one (.e (.rp 0 i69.toNat 0))) (H' := [.row .int x68 true]) rfl rfl (by kernel_rfl) hg93 rfl (trivial) ?_
            refine WD_all [7, 11] (n := 5) (by kernel_rfl) rfl (And.intro ?_ (?_))
            · refine WM_op (φ := True) (v := I (x68.getD i70.toNat 0)) (H' := [.row .int x68 true]) rfl rfl (by kernel_rfl) trivial rfl (trivial) ?_
              refine WD_all [11] (n := 4) (by kernel_rfl) rfl ?_
              refine WM_op (φ := True) (v := I (x68.getD i69.toNat 0)) (H' := [.row .int x68 true]) rfl rfl (by kernel_rfl) trivial rfl (trivial) ?_
              refine WD_all [12] (n := 3) (by kernel_rfl) rfl ?_
              refine WM_op (φ := 0 ≤ i69 ∧ i69 < ((k2 : Nat) : Int)) (v := .one (.e (.rp 0 i69.toNat 0))) (H' := [.row .int x68 true]) rfl rfl (by kernel_rfl) hg94 rfl (trivial) ?_
              refine WD_all [13] (n := 2) (by kernel_rfl) rfl ?_
              refine WM_store (u := .one (.e (.rp 0 i69.toNat 0))) (v := I (x68.getD i70.toNat 0)) (φ := True) (H' := [.row .int (x68.set i69.toNat (x68.getD i70.toNat 0)) true]) rfl rfl rfl rfl rfl (by kernel_rfl) trivial rfl (trivial) ?_
              refine WD_all [14] (n := 1) (by kernel_rfl) rfl ?_
              refine WM_op (φ := 0 ≤ i70 ∧ i70 < ((k2 : Nat) : Int)) (v := .one (.e (.rp 0 i70.toNat 0))) (H' := [.row .int (x68.set i69.toNat (x68.getD i70.toNat 0)) true]) rfl rfl (by kernel_rfl) hg95 rfl (trivial) ?_
              refine WD_all [15] (n := 0) (by kernel_rfl) rfl ?_
              refine WM_store (u := .one (.e (.rp 0 i70.toNat 0))) (v := I (x68.getD i69.toNat 0)) (φ := True) (H' := [.row .int ((x68.set i69.toNat (x68.getD i70.toNat 0)).set i70.toNat (x68.getD i69.toNat 0)) true]) rfl rfl rfl rfl rfl (by kernel_rfl) trivial rfl (trivial) ?_
              exact WD_done [0] [0, 2, 3] (st' := ⟨[(0, .one (.e (.sl 0 0 k2))), (2, I i69), (3, I i70)], [.row .int ((x68.set i69.toNat (x68.getD i70.toNat 0)).set i70.toNat (x68.getD i69.toNat 0)) true]⟩) (by kernel_rfl) (by kernel_rfl) (And.intro rfl rfl)
            · refine WM_op (φ := True) (v := I (x68.getD i69.toNat 0)) (H' := [.row .int x68 true]) rfl rfl (by kernel_rfl) trivial rfl (trivial) ?_
              refine WD_all [7] (n := 4) (by kernel_rfl) rfl ?_
              refine WM_op (φ := True) (v := I (x68.getD i70.toNat 0)) (H' := [.row .int x68 true]) rfl rfl (by kernel_rfl) trivial rfl (trivial) ?_
              refine WD_all [12] (n := 3) (by kernel_rfl) rfl ?_
              refine WM_op (φ := 0 ≤ i69 ∧ i69 < ((k2 : Nat) : Int)) (v := .one (.e (.rp 0 i69.toNat 0))) (H' := [.row .int x68 true]) rfl rfl (by kernel_rfl) hg94 rfl (trivial) ?_
              refine WD_all [13] (n := 2) (by kernel_rfl) rfl ?_
              refine WM_store (u := .one (.e (.rp 0 i69.toNat 0))) (v := I (x68.getD i70.toNat 0)) (φ := True) (H' := [.row .int (x68.set i69.toNat (x68.getD i70.toNat 0)) true]) rfl rfl rfl rfl rfl (by kernel_rfl) trivial rfl (trivial) ?_
              refine WD_all [14] (n := 1) (by kernel_rfl) rfl ?_
              refine WM_op (φ := 0 ≤ i70 ∧ i70 < ((k2 : Nat) : Int)) (v := .one (.e (.rp 0 i70.toNat 0))) (H' := [.row .int (x68.set i69.toNat (x68.getD i70.toNat 0)) true]) rfl rfl (by kernel_rfl) hg95 rfl (trivial) ?_
              refine WD_all [15] (n := 0) (by kernel_rfl) rfl ?_
              refine WM_store (u := .one (.e (.rp 0 i70.toNat 0))) (v := I (x68.getD i69.toNat 0)) (φ := True) (H' := [.row .int ((x68.set i69.toNat (x68.getD i70.toNat 0)).set i70.toNat (x68.getD i69.toNat 0)) true]) rfl rfl rfl rfl rfl (by kernel_rfl) trivial rfl (trivial) ?_
              exact WD_done [0] [0, 2, 3] (st' := ⟨[(0, .one (.e (.sl 0 0 k2))), (2, I i69), (3, I i70)], [.row .int ((x68.set i69.toNat (x68.getD i70.toNat 0)).set i70.toNat (x68.getD i69.toNat 0)) true]⟩) (by kernel_rfl) (by kernel_rfl) (And.intro rfl rfl)
        · refine WM_op (φ := 0 ≤ i69 ∧ i69 < ((k2 : Nat) : Int)) (v := .one (.e (.rp 0 i69.toNat 0))) (H' := [.row .int x68 true]) rfl rfl (by kernel_rfl) hg93 rfl (trivial) ?_
          refine WD_all [6, 11] (n := 6) (by kernel_rfl) rfl (And.intro ?_ (?_))
          · refine WM_op (φ := 0 ≤ i70 ∧ i70 < ((k2 : Nat) : Int)) (v := .one (.e (.rp 0 i70.toNat 0))) (H' := [.row .int x68 true]) rfl rfl (by kernel_rfl) hg92 rfl (trivial) ?_
            refine WD_all [7, 11] (n := 5) (by kernel_rfl) rfl (And.intro ?_ (?_))
            · refine WM_op (φ := True) (v := I (x68.getD i70.toNat 0)) (H' := [.row .int x68 true]) rfl rfl (by kernel_rfl) trivial rfl (trivial) ?_
              refine WD_all [11] (n := 4) (by kernel_rfl) rfl ?_
              refine WM_op (φ := True) (v := I (x68.getD i69.toNat 0)) (H' := [.row .int x68 true]) rfl rfl (by kernel_rfl) trivial rfl (trivial) ?_
              refine WD_all [12] (n := 3) (by kernel_rfl) rfl ?_
              refine WM_op (φ := 0 ≤ i69 ∧ i69 < ((k2 : Nat) : Int)) (v := .one (.e (.rp 0 i69.toNat 0))) (H' := [.row .int x68 true]) rfl rfl (by kernel_rfl) hg94 rfl (trivial) ?_
              refine WD_all [13] (n := 2) (by kernel_rfl) rfl ?_
              refine WM_store (u := .one (.e (.rp 0 i69.toNat 0))) (v := I (x68.getD i70.toNat 0)) (φ := True) (H' := [.row .int (x68.set i69.toNat (x68.getD i70.toNat 0)) true]) rfl rfl rfl rfl rfl (by kernel_rfl) trivial rfl (trivial) ?_
              refine WD_all [14] (n := 1) (by kernel_rfl) rfl ?_
              refine WM_op (φ := 0 ≤ i70 ∧ i70 < ((k2 : Nat) : Int)) (v := .one (.e (.rp 0 i70.toNat 0))) (H' := [.row .int (x68.set i69.toNat (x68.getD i70.toNat 0)) true]) rfl rfl (by kernel_rfl) hg95 rfl (trivial) ?_
              refine WD_all [15] (n := 0) (by kernel_rfl) rfl ?_
              refine WM_store (u := .one (.e (.rp 0 i70.toNat 0))) (v := I (x68.getD i69.toNat 0)) (φ := True) (H' := [.row .int ((x68.set i69.toNat (x68.getD i70.toNat 0)).set i70.toNat (x68.getD i69.toNat 0)) true]) rfl rfl rfl rfl rfl (by kernel_rfl) trivial rfl (trivial) ?_
              exact WD_done [0] [0, 2, 3] (st' := ⟨[(0, .one (.e (.sl 0 0 k2))), (2, I i69), (3, I i70)], [.row .int ((x68.set i69.toNat (x68.getD i70.toNat 0)).set i70.toNat (x68.getD i69.toNat 0)) true]⟩) (by kernel_rfl) (by kernel_rfl) (And.intro rfl rfl)
            · refine WM_op (φ := True) (v := I (x68.getD i69.toNat 0)) (H' := [.row .int x68 true]) rfl rfl (by kernel_rfl) trivial rfl (trivial) ?_
              refine WD_all [7] (n := 4) (by kernel_rfl) rfl ?_
              refine WM_op (φ := True) (v := I (x68.getD i70.toNat 0)) (H' := [.row .int x68 true]) rfl rfl (by kernel_rfl) trivial rfl (trivial) ?_
              refine WD_all [12] (n := 3) (by kernel_rfl) rfl ?_
              refine WM_op (φ := 0 ≤ i69 ∧ i69 < ((k2 : Nat) : Int)) (v := .one (.e (.rp 0 i69.toNat 0))) (H' := [.row .int x68 true]) rfl rfl (by kernel_rfl) hg94 rfl (trivial) ?_
              refine WD_all [13] (n := 2) (by kernel_rfl) rfl ?_
              refine WM_store (u := .one (.e (.rp 0 i69.toNat 0))) (v := I (x68.getD i70.toNat 0)) (φ := True) (H' := [.row .int (x68.set i69.toNat (x68.getD i70.toNat 0)) true]) rfl rfl rfl rfl rfl (by kernel_rfl) trivial rfl (trivial) ?_
              refine WD_all [14] (n := 1) (by kernel_rfl) rfl ?_
              refine WM_op (φ := 0 ≤ i70 ∧ i70 < ((k2 : Nat) : Int)) (v := .one (.e (.rp 0 i70.toNat 0))) (H' := [.row .int (x68.set i69.toNat (x68.getD i70.toNat 0)) true]) rfl rfl (by kernel_rfl) hg95 rfl (trivial) ?_
              refine WD_all [15] (n := 0) (by kernel_rfl) rfl ?_
              refine WM_store (u := .one (.e (.rp 0 i70.toNat 0))) (v := I (x68.getD i69.toNat 0)) (φ := True) (H' := [.row .int ((x68.set i69.toNat (x68.getD i70.toNat 0)).set i70.toNat (x68.getD i69.toNat 0)) true]) rfl rfl rfl rfl rfl (by kernel_rfl) trivial rfl (trivial) ?_
              exact WD_done [0] [0, 2, 3] (st' := ⟨[(0, .one (.e (.sl 0 0 k2))), (2, I i69), (3, I i70)], [.row .int ((x68.set i69.toNat (x68.getD i70.toNat 0)).set i70.toNat (x68.getD i69.toNat 0)) true]⟩) (by kernel_rfl) (by kernel_rfl) (And.intro rfl rfl)
          · refine WM_op (φ := True) (v := I (x68.getD i69.toNat 0)) (H' := [.row .int x68 true]) rfl rfl (by kernel_rfl) trivial rfl (trivial) ?_
            refine WD_all [6] (n := 5) (by kernel_rfl) rfl ?_
            refine WM_op (φ := 0 ≤ i70 ∧ i70 < ((k2 : Nat) : Int)) (v := .one (.e (.rp 0 i70.toNat 0))) (H' := [.row .int x68 true]) rfl rfl (by kernel_rfl) hg92 rfl (trivial) ?_
            refine WD_all [7] (n := 4) (by kernel_rfl) rfl ?_
            refine WM_op (φ := True) (v := I (x68.getD i70.toNat 0)) (H' := [.row .int x68 true]) rfl rfl (by kernel_rfl) trivial rfl (trivial) ?_
            refine WD_all [12] (n := 3) (by kernel_rfl) rfl ?_
            refine WM_op (φ := 0 ≤ i69 ∧ i69 < ((k2 : Nat) : Int)) (v := .one (.e (.rp 0 i69.toNat 0))) (H' := [.row .int x68 true]) rfl rfl (by kernel_rfl) hg94 rfl (trivial) ?_
            refine WD_all [13] (n := 2) (by kernel_rfl) rfl ?_
            refine WM_store (u := .one (.e (.rp 0 i69.toNat 0))) (v := I (x68.getD i70.toNat 0)) (φ := True) (H' := [.row .int (x68.set i69.toNat (x68.getD i70.toNat 0)) true]) rfl rfl rfl rfl rfl (by kernel_rfl) trivial rfl (trivial) ?_
            refine WD_all [14] (n := 1) (by kernel_rfl) rfl ?_
            refine WM_op (φ := 0 ≤ i70 ∧ i70 < ((k2 : Nat) : Int)) (v := .one (.e (.rp 0 i70.toNat 0))) (H' := [.row .int (x68.set i69.toNat (x68.getD i70.toNat 0)) true]) rfl rfl (by kernel_rfl) hg95 rfl (trivial) ?_
            refine WD_all [15] (n := 0) (by kernel_rfl) rfl ?_
            refine WM_store (u := .one (.e (.rp 0 i70.toNat 0))) (v := I (x68.getD i69.toNat 0)) (φ := True) (H' := [.row .int ((x68.set i69.toNat (x68.getD i70.toNat 0)).set i70.toNat (x68.getD i69.toNat 0)) true]) rfl rfl rfl rfl rfl (by kernel_rfl) trivial rfl (trivial) ?_
            exact WD_done [0] [0, 2, 3] (st' := ⟨[(0, .one (.e (.sl 0 0 k2))), (2, I i69), (3, I i70)], [.row .int ((x68.set i69.toNat (x68.getD i70.toNat 0)).set i70.toNat (x68.getD i69.toNat 0)) true]⟩) (by kernel_rfl) (by kernel_rfl) (And.intro rfl rfl)
      · rintro _ _ ⟨rfl, rfl⟩
        refine blockS_n ?_
        refine thenS_n ?_
        refine W_region ?_
        refine WO_step 6 [0] [0, 2, 3] (True ∧ (True ∧ True)) ⟨[(0, .one (.e (.sl 0 0 k2))), (2, I (w64 (i69 + 1))), (3, I (w64 (i70 - 1)))], [.row .int ((x68.set i69.toNat (x68.getD i70.toNat 0)).set i70.toNat (x68.getD i69.toNat 0)) true]⟩ (by kernel_rfl) ⟨trivial, trivial, trivial⟩ ?_
        refine WO_nil rfl ?_
        refine thenS_n ?_
        exact ih _ _ _ h
    · refine W_sub [0] [] (st' := ⟨[], [.row .int x68 true]⟩) (by kernel_rfl) ?_
      refine W_exit ?_
      refine thenS_e ?_
      refine thenS_e ?_
      cases h
      exact And.intro rfl rfl

def slices_Reverse_int_int (n : Nat) (x1 : List Int) (k2 : Nat) : Option ((List Int)) :=
 bindO (slices_Reverse_int_int_L1 k2 n x1 0 (w64 (((k2 : Nat) : Int) - 1))) fun x84 =>
 some x84

theorem slices_Reverse_int_int_ok (n : Nat) (x1 : List Int) (k2 : Nat) (x49 : List Int) (h : slices_Reverse_int_int n x1 k2 = some x49) : FOk EE 92 [.one (.e (.sl 0 0 k2))] [.row .int x1 true] (.tup []) [.row .int x49 true] := by
  unfold slices_Reverse_int_int at h
  refine FOk_of_W 28 1 Try.func92 rfl rfl (Nat.le_of_ble_eq_true rfl) rfl (fun w X θ => ?_)
  refine W_seq ?_
  refine W_region ?_
  refine WO_step 5 [0] [0, 2, 3] (True ∧ (True ∧ True)) ⟨[(0, .one (.e (.sl 0 0 k2))), (2, I 0), (3, I (w64 (((k2 : Nat) : Int) - 1)))], [.row .int x1 true]⟩ (by kernel_rfl) ⟨trivial, trivial, trivial⟩ ?_
  refine WO_nil rfl ?_
  refine thenS_n ?_
  refine W_block ?_
  refine W_loop ?_
  refine bindO_e h (fun x84 hx84 h => ?_)
  refine WL_cut (slices_Reverse_int_int_L1_ok w X θ k2 x84 n x1 0 (w64 (((k2 : Nat) : Int) - 1)) hx84) ?_
  rintro _ _ ⟨rfl, rfl⟩
  refine blockS_y ?_
  cases h
  exact ⟨[0], True, by kernel_rfl, trivial⟩

/- impl.PathTo -/
def impl_PathTo_L1 (x1 : List Nod) : Nat → (List Int) → Int → Option ((List Int))
| 0, _, _ => none
| n + 1, x53, i54 =>
 iteO (decide (0 ≤ i54))
 (guardO (0 = 0 ∧ x53.length = x53.length ∧ x53.length + (([i54].drop 0).take ([i54].length)).length ≤ 1099511627776) <|
 guardO (0 ≤ i54 ∧ i54 < ((x1.length : Nat) : Int)) <|
 impl_PathTo_L1 x1 n (x53 ++ (([i54].drop 0).take ([i54].length))) ((x1.getD i54.toNat dnod).parent))
 (some x53)

theorem impl_PathTo_L1_ok (w : World) (X : Nat → Prop) (θ : List Loc) (x1 : List Nod) (x62 : (List Int)) : ∀ (n : Nat) (x53 : List Int) (i54 : Int), impl_PathTo_L1 x1 n x53 i54 = some x62 → WL EE ⟨w, X, θ, 26, 1⟩ (subC [1, 1, 1, 0, 1, 4, 4] (bodyC Try.f73)) (fun (e : Exit) (s : St) => e = .exit 0 ∧ s = ⟨[(5, .one (.e (.sl 1 0 x62.length)))], [.row .nod x1 false, .row .int x62 true]⟩) ⟨[(0, .one (.e (.sl 0 0 x1.length))), (5, .one (.e (.sl 1 0 x53.length))), (6, I i54)], [.row .nod x1 false, .row .int x53 true]⟩ := by
  intro n
  induction n with
  | zero => intro _ _ h; exact none_e h
  | succ n ih =>
    intro x53 i54 h
    rw [impl_PathTo_L1] at h
    refine WL_round ?_
    refine W_seq ?_
    refine W_seq ?_
    refine W_region ?_
    refine WO_step 2 [0, 1] [0, 5, 6, 13] (True ∧ True) ⟨[(0, .one (.e (.sl 0 0 x1.length))), (5, .one (.e (.sl 1 0 x53.length))), (6, I i54), (13, B (decide (0 ≤ i54)))], [.row .nod x1 false, .row .int x53 true]⟩ (by kernel_rfl) ⟨trivial, trivial⟩ ?_
    refine WO_nil rfl ?_
    refine thenS_n ?_
    refine iteO_e h (fun hb65 h => W_true rfl hb65 ?_) (fun hb65 h => W_false rfl hb65 ?_)
    · refine W_sub [0, 1] [0, 5, 6] (st' := ⟨[(0, .one (.e (.sl 0 0 x1.length))), (5, .one (.e (.sl 1 0 x53.length))), (6, I i54)], [.row .nod x1 false, .row .int x53 true]⟩) (by kernel_rfl) ?_
      refine W_skip ?_
      refine thenS_n ?_
      refine W_seq ?_
      refine W_block ?_
      refine W_region ?_
      refine guardO_e h (fun hg67 h => ?_)
      refine WO_step 5 [0, 3] [0, 5, 6] ((0 = 0 ∧ x53.length = x53.length ∧ x53.length + (([i54].drop 0).take ([i54].length)).length ≤ 1099511627776) ∧ True) ⟨[(0, .one (.e (.sl 0 0 x1.length))), (5, .one (.e (.sl 1 0 ((x53 ++ (([i54].drop 0).take ([i54].length))).length)))), (6, I i54)], [.row .nod x1 false, .row .int (x53 ++ (([i54].drop 0).take ([i54].length))) true]⟩ (by kernel_rfl) ⟨hg67, trivial⟩ ?_
      refine WO_nil rfl ?_
      refine blockS_n ?_
      refine thenS_n ?_
      refine W_region ?_
      refine guardO_e h (fun hg68 h => ?_)
      refine WO_step 6 [0, 1] [0, 5, 6] ((0 ≤ i54 ∧ i54 < ((x1.length : Nat) : Int)) ∧ (True ∧ True)) ⟨[(0, .one (.e (.sl 0 0 x1.length))), (5, .one (.e (.sl 1 0 ((x53 ++ (([i54].drop 0).take ([i54].length))).length)))), (6, I ((x1.getD i54.toNat dnod).parent))], [.row .nod x1 false, .row .int (x53 ++ (([i54].drop 0).take ([i54].length))) true]⟩ (by kernel_rfl) ⟨hg68, trivial, trivial⟩ ?_
      refine WO_nil rfl ?_
      refine thenS_n ?_
      exact ih _ _ h
    · refine W_sub [0, 1] [5] (st' := ⟨[(5, .one (.e (.sl 1 0 x53.length)))], [.row .nod x1 false, .row .int x53 true]⟩) (by kernel_rfl) ?_
      refine W_exit ?_
      refine thenS_e ?_
      refine thenS_e ?_
      cases h
      exact And.intro rfl rfl

def impl_PathTo (n : Nat) (x1 : List Nod) (i2 : Int) : Option ((List Int)) :=
 bindO (impl_isNode n x1 i2) fun b38 =>
 iteO (!b38)
 (some ([] : List Int))
 (bindO (impl_PathTo_L1 x1 n ([] : List Int) i2) fun x62 =>
 bindO (slices_Reverse_int_int n x62 x62.length) fun x70 =>
 guardO (x62.length = x70.length) <|
 some x70)

theorem impl_PathTo_ok (n : Nat) (x1 : List Nod) (i2 : Int) (x37 : List Int) (h : impl_PathTo n x1 i2 = some x37) : FOk EE 73 [.one (.e (.sl 0 0 x1.length)), I i2] [.row .nod x1 false] (.one (.e (.sl 1 0 x37.length))) [.row .nod x1 false, .row .int x37 true] := by
  unfold impl_PathTo at h
  refine FOk_of_W 26 1 Try.func73 rfl rfl (Nat.le_of_ble_eq_true rfl) rfl (fun w X θ => ?_)
  refine W_seq ?_
  refine W_region ?_
  refine WO_step 1 [0] [0, 1] True ⟨[(0, .one (.e (.sl 0 0 x1.length))), (1, I i2)], [.row .nod x1 false]⟩ (by kernel_rfl) trivial ?_
  refine WO_nil rfl ?_
  refine thenS_n ?_
  refine W_seq ?_
  refine W_seq ?_
  refine W_region ?_
  refine WO_step 2 [0] [0, 1, 7, 8] True ⟨[(0, .one (.e (.sl 0 0 x1.length))), (1, I i2), (7, .one (.e (.sl 0 0 x1.length))), (8, I i2)], [.row .nod x1 false]⟩ (by kernel_rfl) trivial ?_
  refine bindO_e h (fun b38 hc39 h => ?_)
  refine WO_call [.ro 0] Try.f71 rfl rfl rfl (by kernel_rfl) Try.func71 rfl (by kernel_rfl) (impl_isNode_ok n x1 i2 b38 hc39) (And.intro (And.intro rfl rfl) (trivial)) rfl ?_
  refine WO_step 1 [0] [0, 1, 10] True ⟨[(0, .one (.e (.sl 0 0 x1.length))), (1, I i2), (10, B (!b38))], [.row .nod x1 false]⟩ (by kernel_rfl) trivial ?_
  refine WO_nil rfl ?_
  refine thenS_n ?_
  refine iteO_e h (fun hb41 h => W_true rfl hb41 ?_) (fun hb41 h => W_false rfl hb41 ?_)
  · refine W_seq ?_
    refine W_region ?_
    refine WO_step 1 [0] [4] True ⟨[(4, .one (.e (.nsl)))], [.row .nod x1 false]⟩ (by kernel_rfl) trivial ?_
    refine WO_nilrow 4 .int rfl ?_
    refine WO_sub [0, 1] [4] (st' := ⟨[(4, .one (.e (.sl 1 0 (([] : List Int).length))))], [.row .nod x1 false, .row .int ([] : List Int) true]⟩) (by kernel_rfl) ?_
    refine WO_nil rfl ?_
    refine thenS_n ?_
    refine W_ret ?_
    refine thenS_r ?_
    cases h
    exact ⟨[0, 1], True, by kernel_rfl, trivial⟩
  · refine W_sub [0] [0, 1] (st' := ⟨[(0, .one (.e (.sl 0 0 x1.length))), (1, I i2)], [.row .nod x1 false]⟩) (by kernel_rfl) ?_
    refine W_skip ?_
    refine thenS_n ?_
    refine W_seq ?_
    refine W_region ?_
    refine WO_step 1 [0] [0, 1, 5] True ⟨[(0, .one (.e (.sl 0 0 x1.length))), (1, I i2), (5, .one (.e (.nsl)))], [.row .nod x1 false]⟩ (by kernel_rfl) trivial ?_
    refine WO_nilrow 5 .int rfl ?_
    refine WO_sub [0, 1] [0, 1, 5] (st' := ⟨[(0, .one (.e (.sl 0 0 x1.length))), (1, I i2), (5, .one (.e (.sl 1 0 (([] : List Int).length))))], [.row .nod x1 false, .row .int ([] : List Int) true]⟩) (by kernel_rfl) ?_
    refine WO_nil rfl ?_
    refine thenS_n ?_
    refine W_seq ?_
    refine W_seq ?_
    refine W_region ?_
    refine WO_step 2 [0, 1] [0, 5, 6] True ⟨[(0, .one (.e (.sl 0 0 x1.length))), (5, .one (.e (.sl 1 0 (([] : List Int).length)))), (6, I i2)], [.row .nod x1 false, .row .int ([] : List Int) true]⟩ (by kernel_rfl) trivial ?_
    refine WO_nil rfl ?_
    refine thenS_n ?_
    refine W_block ?_
    refine W_loop ?_
    refine bindO_e h (fun x62 hx62 h => ?_)
    refine WL_cut (impl_PathTo_L1_ok w X θ x1 x62 n ([] : List Int) i2 hx62) ?_
    rintro _ _ ⟨rfl, rfl⟩
    refine blockS_y ?_
    refine thenS_n ?_
    refine W_seq ?_
    refine W_region ?_
    refine WO_step 1 [0, 1] [5, 23] True ⟨[(5, .one (.e (.sl 1 0 x62.length))), (23, .one (.e (.sl 1 0 x62.length)))], [.row .nod x1 false, .row .int x62 true]⟩ (by kernel_rfl) trivial ?_
    refine bindO_e h (fun x70 hc71 h => ?_)
    refine guardO_e h (fun hl72 h => ?_)
    refine WO_call [.own 1] Try.f92 rfl rfl rfl (by kernel_rfl) Try.func92 rfl (by kernel_rfl) (slices_Reverse_int_int_ok n x62 x62.length x70 hc71) (And.intro (And.intro rfl (And.intro rfl hl72)) (trivial)) rfl ?_
    refine WO_sub [0, 1] [5, 23] (st' := ⟨[(5, .one (.e (.sl 1 0 x62.length))), (23, .one (.e (.sl 1 0 x62.length)))], [.row .nod x1 false, .row .int x70 true]⟩) (by kernel_rfl) ?_
    refine WO_eq (st' := ⟨[(5, .one (.e (.sl 1 0 x70.length))), (23, .one (.e (.sl 1 0 x70.length)))], [.row .nod x1 false, .row .int x70 true]⟩) (by simp only [hl72]) ?_
    refine WO_sub [0, 1] [5] (st' := ⟨[(5, .one (.e (.sl 1 0 x70.length)))], [.row .nod x1 false, .row .int x70 true]⟩) (by kernel_rfl) ?_
    refine WO_nil rfl ?_
    refine thenS_n ?_
    refine W_seq ?_
    refine W_region ?_
    refine WO_step 2 [0, 1] [4] True ⟨[(4, .one (.e (.sl 1 0 x70.length)))], [.row .nod x1 false, .row .int x70 true]⟩ (by kernel_rfl) trivial ?_
    refine WO_nil rfl ?_
    refine thenS_n ?_
    refine W_ret ?_
    cases h
    exact ⟨[0, 1], True, by kernel_rfl, trivial⟩

/- (*strings.Builder).copyCheck -/
def lays240R : Shelf.Ren := ⟨fun n => match n with | 240 => 93 | 276 => 103 | _ => 0, fun n => match n with | 0 => 0 | 4 => 4 | 9 => 9 | 20 => 20 | 70 => 93 | 72 => 95 | 164 => 114 | 37 => 22 | 5 => 5 | _ => 0, fun n => n⟩
set_option maxRecDepth 100000 in
theorem lays240 : Lays.n240 Try.prog lays240R := {
  mixed := by kernel_rfl
  f240 := by kernel_rfl
  f276 := by kernel_rfl
  t0 := Try.underlying0
  a0 := Try.isAgg0
  z0 := Try.sizeOf0
  v0 := Try.zeroValue0
  t4 := Try.underlying4
  a4 := Try.isAgg4
  z4 := Try.sizeOf4
  v4 := Try.zeroValue4
  t9 := Try.underlying9
  a9 := Try.isAgg9
  z9 := Try.sizeOf9
  v9 := Try.zeroValue9
  t20 := Try.underlying20
  a20 := Try.isAgg20
  z20 := Try.sizeOf20
  v20 := Try.zeroValue20
  t70 := Try.underlying93
  a70 := Try.isAgg93
  z70 := Try.sizeOf93
  v70 := Try.zeroValue93
  t72 := Try.underlying95
  a72 := Try.isAgg95
  z72 := Try.sizeOf95
  v72 := Try.zeroValue95
  t164 := Try.underlying114
  a164 := Try.isAgg114
  z164 := Try.sizeOf114
  v164 := Try.zeroValue114 }
theorem x72 : Builder.X72 Try.prog lays240R := {
  sizeBuilder := by kernel_rfl
  liesBuilder := by kernel_rfl }
theorem copyCheck_ok (x1 : List Int) : FOk EE 93 [.one (.e (.p 0 0))] [.cells [.sp 0 95, .bsl 1 x1.length], .row .u8 x1 true] (.tup []) [.cells [.sp 0 95, .bsl 1 x1.length], .row .u8 x1 true] := by
  refine FOk_copy (fun b w h0 h1 h2 => ?_) (fun b w h0 => ?_) x1.length x1
  · exact Any.Builder_copyCheck_fresh lays240 x72 b w h0 h1 h2
  · exact Any.Builder_copyCheck_used lays240 x72 b w h0

/- (*strings.Builder).WriteByte -/
def strings_Builder_WriteByte (x1 : List Int) (i2 : Int) : Option ((List Int)) :=
 guardO (0 = 0 ∧ x1.length = x1.length ∧ x1.length + (([i2].drop 0).take ([i2].length)).length ≤ 1099511627776) <|
 some (x1 ++ (([i2].drop 0).take ([i2].length)))

theorem strings_Builder_WriteByte_ok (x1 : List Int) (i2 : Int) (x4 : List Int) (h : strings_Builder_WriteByte x1 i2 = some x4) : FOk EE 74 [.one (.e (.p 0 0)), U i2] [.cells [.sp 0 95, .bsl 1 x1.length], .row .u8 x1 true] (.one (.e (.nif))) [.cells [.sp 0 95, .bsl 2 x4.length], .dead, .row .u8 x4 true] := by
  unfold strings_Builder_WriteByte at h
  refine FOk_of_W 17 2 Try.func74 rfl rfl (Nat.le_of_ble_eq_true rfl) rfl (fun w X θ => ?_)
  refine W_seq ?_
  refine W_region ?_
  refine WO_step 1 [0, 1] [0, 1] True ⟨[(0, .one (.e (.p 0 0))), (1, U i2)], [.cells [.sp 0 95, .bsl 1 x1.length], .row .u8 x1 true]⟩ (by kernel_rfl) trivial ?_
  refine WO_nil rfl ?_
  refine thenS_n ?_
  refine W_seq ?_
  refine W_region ?_
  refine WO_step 1 [0, 1] [0, 1, 5] True ⟨[(0, .one (.e (.p 0 0))), (1, U i2), (5, .one (.e (.p 0 0)))], [.cells [.sp 0 95, .bsl 1 x1.length], .row .u8 x1 true]⟩ (by kernel_rfl) trivial ?_
  refine WO_call [.own 0, .own 1] Try.f93 rfl rfl rfl (by kernel_rfl) Try.func93 rfl (by kernel_rfl) (copyCheck_ok x1) (And.intro (trivial) (And.intro (And.intro rfl (And.intro rfl rfl)) (trivial))) rfl ?_
  refine WO_sub [0, 1] [0, 1] (st' := ⟨[(0, .one (.e (.p 0 0))), (1, U i2)], [.cells [.sp 0 95, .bsl 1 x1.length], .row .u8 x1 true]⟩) (by kernel_rfl) ?_
  refine WO_nil rfl ?_
  refine thenS_n ?_
  refine W_seq ?_
  refine W_region ?_
  refine guardO_e h (fun hg5 h => ?_)
  refine WO_step 11 [0, 1, 3] [] (True ∧ ((0 = 0 ∧ x1.length = x1.length ∧ x1.length + (([i2].drop 0).take ([i2].length)).length ≤ 1099511627776) ∧ (True ∧ True))) ⟨[], [.cells [.sp 0 95, .bsl 2 ((x1 ++ (([i2].drop 0).take ([i2].length))).length)], .dead, .row .u8 (x1 ++ (([i2].drop 0).take ([i2].length))) true]⟩ (by kernel_rfl) ⟨trivial, hg5, trivial, trivial⟩ ?_
  refine WO_nil rfl ?_
  refine thenS_n ?_
  refine W_seq ?_
  refine W_region ?_
  refine WO_step 1 [0, 1, 2] [4] True ⟨[(4, .one (.e (.nif)))], [.cells [.sp 0 95, .bsl 2 ((x1 ++ (([i2].drop 0).take ([i2].length))).length)], .dead, .row .u8 (x1 ++ (([i2].drop 0).take ([i2].length))) true]⟩ (by kernel_rfl) trivial ?_
  refine WO_nil rfl ?_
  refine thenS_n ?_
  refine W_ret ?_
  cases h
  exact ⟨[0, 1, 2], True, by kernel_rfl, trivial⟩

/- (*strings.Builder).WriteString -/
def strings_Builder_WriteString (x1 : List Int) (s2 : Str) : Option ((List Int) × Int) :=
 guardO (0 = 0 ∧ x1.length = x1.length ∧ x1.length + ((s2 : Str).map fun b => ((b.toNat : Nat) : Int)).length ≤ 1099511627776) <|
 some ((x1 ++ ((s2 : Str).map fun b => ((b.toNat : Nat) : Int))), ((s2.length : Nat) : Int))

theorem strings_Builder_WriteString_ok (x1 : List Int) (s2 : Str) (x4 : List Int) (i5 : Int) (h : strings_Builder_WriteString x1 s2 = some (x4, i5)) : FOk EE 75 [.one (.e (.p 0 0)), S s2] [.cells [.sp 0 95, .bsl 1 x1.length], .row .u8 x1 true] (.tup [.e (cI i5), .e (.nif)]) [.cells [.sp 0 95, .bsl 2 x4.length], .dead, .row .u8 x4 true] := by
  unfold strings_Builder_WriteString at h
  refine FOk_of_W 19 2 Try.func75 rfl rfl (Nat.le_of_ble_eq_true rfl) rfl (fun w X θ => ?_)
  refine W_seq ?_
  refine W_region ?_
  refine WO_step 2 [0, 1] [0, 1] True ⟨[(0, .one (.e (.p 0 0))), (1, S s2)], [.cells [.sp 0 95, .bsl 1 x1.length], .row .u8 x1 true]⟩ (by kernel_rfl) trivial ?_
  refine WO_nil rfl ?_
  refine thenS_n ?_
  refine W_seq ?_
  refine W_region ?_
  refine WO_step 1 [0, 1] [0, 1, 6] True ⟨[(0, .one (.e (.p 0 0))), (1, S s2), (6, .one (.e (.p 0 0)))], [.cells [.sp 0 95, .bsl 1 x1.length], .row .u8 x1 true]⟩ (by kernel_rfl) trivial ?_
  refine WO_call [.own 0, .own 1] Try.f93 rfl rfl rfl (by kernel_rfl) Try.func93 rfl (by kernel_rfl) (copyCheck_ok x1) (And.intro (trivial) (And.intro (And.intro rfl (And.intro rfl rfl)) (trivial))) rfl ?_
  refine WO_sub [0, 1] [0, 1] (st' := ⟨[(0, .one (.e (.p 0 0))), (1, S s2)], [.cells [.sp 0 95, .bsl 1 x1.length], .row .u8 x1 true]⟩) (by kernel_rfl) ?_
  refine WO_nil rfl ?_
  refine thenS_n ?_
  refine W_seq ?_
  refine W_region ?_
  refine guardO_e h (fun hg6 h => ?_)
  refine WO_step 10 [0, 1, 2] [1] (True ∧ ((0 = 0 ∧ x1.length = x1.length ∧ x1.length + ((s2 : Str).map fun b => ((b.toNat : Nat) : Int)).length ≤ 1099511627776) ∧ (True ∧ True))) ⟨[(1, S s2)], [.cells [.sp 0 95, .bsl 2 ((x1 ++ ((s2 : Str).map fun b => ((b.toNat : Nat) : Int))).length)], .dead, .row .u8 (x1 ++ ((s2 : Str).map fun b => ((b.toNat : Nat) : Int))) true]⟩ (by kernel_rfl) ⟨trivial, hg6, trivial, trivial⟩ ?_
  refine WO_nil rfl ?_
  refine thenS_n ?_
  refine W_seq ?_
  refine W_region ?_
  refine WO_step 4 [0, 1, 2] [4, 5] (True ∧ True) ⟨[(4, I ((s2.length : Nat) : Int)), (5, .one (.e (.nif)))], [.cells [.sp 0 95, .bsl 2 ((x1 ++ ((s2 : Str).map fun b => ((b.toNat : Nat) : Int))).length)], .dead, .row .u8 (x1 ++ ((s2 : Str).map fun b => ((b.toNat : Nat) : Int))) true]⟩ (by kernel_rfl) ⟨trivial, trivial⟩ ?_
  refine WO_nil rfl ?_
  refine thenS_n ?_
  refine W_ret ?_
  cases h
  exact ⟨[0, 1, 2], True, by kernel_rfl, trivial⟩

/- (*strings.Builder).String -/
def strings_Builder_String (x1 : List Int) : Option (Nat × Str) :=
 guardO (((x1.length : Nat) : Int) = (x1.length : Int) ∧ ∀ x ∈ x1, 0 ≤ x ∧ x ≤ 255) <|
 some (x1.length, (bytesOf x1))

theorem strings_Builder_String_ok (x1 : List Int) (k3 : Nat) (s4 : Str) (h : strings_Builder_String x1 = some (k3, s4)) : FOk EE 76 [.one (.e (.p 0 0))] [.cells [.sp 0 95, .bsl 1 x1.length], .row .u8 x1 true] (S s4) [.cells [.sp 0 95, .bsl 1 k3], .dead] := by
  unfold strings_Builder_String at h
  refine FOk_of_W 14 2 Try.func76 rfl rfl (Nat.le_of_ble_eq_true rfl) rfl (fun w X θ => ?_)
  refine W_seq ?_
  refine W_region ?_
  refine WO_step 1 [0, 1] [0] True ⟨[(0, .one (.e (.p 0 0)))], [.cells [.sp 0 95, .bsl 1 x1.length], .row .u8 x1 true]⟩ (by kernel_rfl) trivial ?_
  refine WO_nil rfl ?_
  refine thenS_n ?_
  refine W_seq ?_
  refine guardO_e h (fun hg5 h => ?_)
  refine W_cut (Q' := fun (e : Exit) (s : St) => e = .normal ∧ s = ⟨[(2, S (bytesOf x1))], [.cells [.sp 0 95, .bsl 1 x1.length], .dead]⟩) ?_ ?_
  · refine W_draw [1] false (by kernel_rfl) (by kernel_rfl) ?_
    refine WD_takeK [0, 1, 2, 5, 6, 7] [5, 10] [5, 10] (φ := True) (ls' := #[true, true, true, false, false, true, true, true, false, false, false, false]) (Ts' := [(5, .one (.e (.p 0 1))), (10, .one (.e (.p 0 1)))]) (st' := ⟨[(5, .one (.e (.p 0 1))), (10, .one (.e (.p 0 1)))], [.cells [.sp 0 95, .bsl 1 x1.length], .row .u8 x1 true]⟩) (n2 := 6) (by kernel_rfl) trivial rfl ?_
    refine WD_all [3, 8] (n := 5) (by kernel_rfl) rfl (And.intro ?_ (?_))
    · refine WM_op (φ := True) (v := .one (.e (.bsl 1 x1.length))) (H' := [.cells [.sp 0 95, .bsl 1 x1.length], .row .u8 x1 true]) rfl rfl (by kernel_rfl) trivial rfl (And.intro (And.intro rfl rfl) (trivial)) ?_
      refine WD_all [4, 8] (n := 4) (by kernel_rfl) rfl (And.intro ?_ (?_))
      · refine WM_op (φ := True) (v := .one (.e (.sd 1))) (H' := [.cells [.sp 0 95, .bsl 1 x1.length], .row .u8 x1 true]) rfl rfl (by kernel_rfl) trivial rfl (And.intro (And.intro rfl rfl) (trivial)) ?_
        refine WD_all [8] (n := 3) (by kernel_rfl) rfl ?_
        refine WM_op (φ := True) (v := .one (.e (.bsl 1 x1.length))) (H' := [.cells [.sp 0 95, .bsl 1 x1.length], .row .u8 x1 true]) rfl rfl (by kernel_rfl) trivial rfl (And.intro (And.intro rfl rfl) (trivial)) ?_
        refine WD_all [9] (n := 2) (by kernel_rfl) rfl ?_
        refine WM_op (φ := True) (v := I ((x1.length : Nat) : Int)) (H' := [.cells [.sp 0 95, .bsl 1 x1.length], .row .u8 x1 true]) rfl rfl (by kernel_rfl) trivial rfl (And.intro (And.intro rfl rfl) (trivial)) ?_
        refine WD_all [10] (n := 1) (by kernel_rfl) rfl ?_
        refine WM_op (φ := ((x1.length : Nat) : Int) = (x1.length : Int) ∧ ∀ x ∈ x1, 0 ≤ x ∧ x ≤ 255) (v := S (bytesOf x1)) (H' := [.cells [.sp 0 95, .bsl 1 x1.length], .dead]) rfl rfl (by kernel_rfl) hg5 rfl (And.intro (And.intro rfl rfl) (trivial)) ?_
        refine WD_takeK [11] [2] [2] (φ := True) (ls' := #[true, true, true, true, true, true, true, true, true, true, true, true]) (Ts' := [(2, S (bytesOf x1))]) (st' := ⟨[(2, S (bytesOf x1))], [.cells [.sp 0 95, .bsl 1 x1.length], .dead]⟩) (n2 := 0) (by kernel_rfl) trivial rfl ?_
        exact WD_done [0, 1] [2] (st' := ⟨[(2, S (bytesOf x1))], [.cells [.sp 0 95, .bsl 1 x1.length], .dead]⟩) (by kernel_rfl) (by kernel_rfl) (And.intro rfl rfl)
      · refine WM_op (φ := True) (v := .one (.e (.bsl 1 x1.length))) (H' := [.cells [.sp 0 95, .bsl 1 x1.length], .row .u8 x1 true]) rfl rfl (by kernel_rfl) trivial rfl (And.intro (And.intro rfl rfl) (trivial)) ?_
        refine WD_all [4, 9] (n := 3) (by kernel_rfl) rfl (And.intro ?_ (?_))
        · refine WM_op (φ := True) (v := .one (.e (.sd 1))) (H' := [.cells [.sp 0 95, .bsl 1 x1.length], .row .u8 x1 true]) rfl rfl (by kernel_rfl) trivial rfl (And.intro (And.intro rfl rfl) (trivial)) ?_
          refine WD_all [9] (n := 2) (by kernel_rfl) rfl ?_
          refine WM_op (φ := True) (v := I ((x1.length : Nat) : Int)) (H' := [.cells [.sp 0 95, .bsl 1 x1.length], .row .u8 x1 true]) rfl rfl (by kernel_rfl) trivial rfl (And.intro (And.intro rfl rfl) (trivial)) ?_
          refine WD_all [10] (n := 1) (by kernel_rfl) rfl ?_
          refine WM_op (φ := ((x1.length : Nat) : Int) = (x1.length : Int) ∧ ∀ x ∈ x1, 0 ≤ x ∧ x ≤ 255) (v := S (bytesOf x1)) (H' := [.cells [.sp 0 95, .bsl 1 x1.length], .dead]) rfl rfl (by kernel_rfl) hg5 rfl (And.intro (And.intro rfl rfl) (trivial)) ?_
          refine WD_takeK [11] [2] [2] (φ := True) (ls' := #[true, true, true, true, true, true, true, true, true, true, true, true]) (Ts' := [(2, S (bytesOf x1))]) (st' := ⟨[(2, S (bytesOf x1))], [.cells [.sp 0 95, .bsl 1 x1.length], .dead]⟩) (n2 := 0) (by kernel_rfl) trivial rfl ?_
          exact WD_done [0, 1] [2] (st' := ⟨[(2, S (bytesOf x1))], [.cells [.sp 0 95, .bsl 1 x1.length], .dead]⟩) (by kernel_rfl) (by kernel_rfl) (And.intro rfl rfl)
        · refine WM_op (φ := True) (v := I ((x1.length : Nat) : Int)) (H' := [.cells [.sp 0 95, .bsl 1 x1.length], .row .u8 x1 true]) rfl rfl (by kernel_rfl) trivial rfl (And.intro (And.intro rfl rfl) (trivial)) ?_
          refine WD_all [4] (n := 2) (by kernel_rfl) rfl ?_
          refine WM_op (φ := True) (v := .one (.e (.sd 1))) (H' := [.cells [.sp 0 95, .bsl 1 x1.length], .row .u8 x1 true]) rfl rfl (by kernel_rfl) trivial rfl (And.intro (And.intro rfl rfl) (trivial)) ?_
          refine WD_all [10] (n := 1) (by kernel_rfl) rfl ?_
          refine WM_op (φ := ((x1.length : Nat) : Int) = (x1.length : Int) ∧ ∀ x ∈ x1, 0 ≤ x ∧ x ≤ 255) (v := S (bytesOf x1)) (H' := [.cells [.sp 0 95, .bsl 1 x1.length], .dead]) rfl rfl (by kernel_rfl) hg5 rfl (And.intro (And.intro rfl rfl) (trivial)) ?_
          refine WD_takeK [11] [2] [2] (φ := True) (ls' := #[true, true, true, true, true, true, true, true, true, true, true, true]) (Ts' := [(2, S (bytesOf x1))]) (st' := ⟨[(2, S (bytesOf x1))], [.cells [.sp 0 95, .bsl 1 x1.length], .dead]⟩) (n2 := 0) (by kernel_rfl) trivial rfl ?_
          exact WD_done [0, 1] [2] (st' := ⟨[(2, S (bytesOf x1))], [.cells [.sp 0 95, .bsl 1 x1.length], .dead]⟩) (by kernel_rfl) (by kernel_rfl) (And.intro rfl rfl)
    · refine WM_op (φ := True) (v := .one (.e (.bsl 1 x1.length))) (H' := [.cells [.sp 0 95, .bsl 1 x1.length], .row .u8 x1 true]) rfl rfl (by kernel_rfl) trivial rfl (And.intro (And.intro rfl rfl) (trivial)) ?_
      refine WD_all [3, 9] (n := 4) (by kernel_rfl) rfl (And.intro ?_ (?_))
      · refine WM_op (φ := True) (v := .one (.e (.bsl 1 x1.length))) (H' := [.cells [.sp 0 95, .bsl 1 x1.length], .row .u8 x1 true]) rfl rfl (by kernel_rfl) trivial rfl (And.intro (And.intro rfl rfl) (trivial)) ?_
        refine WD_all [4, 9] (n := 3) (by kernel_rfl) rfl (And.intro ?_ (?_))
        · refine WM_op (φ := True) (v := .one (.e (.sd 1))) (H' := [.cells [.sp 0 95, .bsl 1 x1.length], .row .u8 x1 true]) rfl rfl (by kernel_rfl) trivial rfl (And.intro (And.intro rfl rfl) (trivial)) ?_
          refine WD_all [9] (n := 2) (by kernel_rfl) rfl ?_
          refine WM_op (φ := True) (v := I ((x1.length : Nat) : Int)) (H' := [.cells [.sp 0 95, .bsl 1 x1.length], .row .u8 x1 true]) rfl rfl (by kernel_rfl) trivial rfl (And.intro (And.intro rfl rfl) (trivial)) ?_
          refine WD_all [10] (n := 1) (by kernel_rfl) rfl ?_
          refine WM_op (φ := ((x1.length : Nat) : Int) = (x1.length : Int) ∧ ∀ x ∈ x1, 0 ≤ x ∧ x ≤ 255) (v := S (bytesOf x1)) (H' := [.cells [.sp 0 95, .bsl 1 x1.length], .dead]) rfl rfl (by kernel_rfl) hg5 rfl (And.intro (And.intro rfl rfl) (trivial)) ?_
          refine WD_takeK [11] [2] [2] (φ := True) (ls' := #[true, true, true, true, true, true, true, true, true, true, true, true]) (Ts' := [(2, S (bytesOf x1))]) (st' := ⟨[(2, S (bytesOf x1))], [.cells [.sp 0 95, .bsl 1 x1.length], .dead]⟩) (n2 := 0) (by kernel_rfl) trivial rfl ?_
          exact WD_done [0, 1] [2] (st' := ⟨[(2, S (bytesOf x1))], [.cells [.sp 0 95, .bsl 1 x1.length], .dead]⟩) (by kernel_rfl) (by kernel_rfl) (And.intro rfl rfl)
        · refine WM_op (φ := True) (v := I ((x1.length : Nat) : Int)) (H' := [.cells [.sp 0 95, .bsl 1 x1.length], .row .u8 x1 true]) rfl rfl (by kernel_rfl) trivial rfl (And.intro (And.intro rfl rfl) (trivial)) ?_
          refine WD_all [4] (n := 2) (by kernel_rfl) rfl ?_
          refine WM_op (φ := True) (v := .one (.e (.sd 1))) (H' := [.cells [.sp 0 95, .bsl 1 x1.length], .row .u8 x1 true]) rfl rfl (by kernel_rfl) trivial rfl (And.intro (And.intro rfl rfl) (trivial)) ?_
          refine WD_all [10] (n := 1) (by kernel_rfl) rfl ?_
          refine WM_op (φ := ((x1.length : Nat) : Int) = (x1.length : Int) ∧ ∀ x ∈ x1, 0 ≤ x ∧ x ≤ 255) (v := S (bytesOf x1)) (H' := [.cells [.sp 0 95, .bsl 1 x1.length], .dead]) rfl rfl (by kernel_rfl) hg5 rfl (And.intro (And.intro rfl rfl) (trivial)) ?_
          refine WD_takeK [11] [2] [2] (φ := True) (ls' := #[true, true, true, true, true, true, true, true, true, true, true, true]) (Ts' := [(2, S (bytesOf x1))]) (st' := ⟨[(2, S (bytesOf x1))], [.cells [.sp 0 95, .bsl 1 x1.length], .dead]⟩) (n2 := 0) (by kernel_rfl) trivial rfl ?_
          exact WD_done [0, 1] [2] (st' := ⟨[(2, S (bytesOf x1))], [.cells [.sp 0 95, .bsl 1 x1.length], .dead]⟩) (by kernel_rfl) (by kernel_rfl) (And.intro rfl rfl)
      · refine WM_op (φ := True) (v := I ((x1.length : Nat) : Int)) (H' := [.cells [.sp 0 95, .bsl 1 x1.length], .row .u8 x1 true]) rfl rfl (by kernel_rfl) trivial rfl (And.intro (And.intro rfl rfl) (trivial)) ?_
        refine WD_all [3] (n := 3) (by kernel_rfl) rfl ?_
        refine WM_op (φ := True) (v := .one (.e (.bsl 1 x1.length))) (H' := [.cells [.sp 0 95, .bsl 1 x1.length], .row .u8 x1 true]) rfl rfl (by kernel_rfl) trivial rfl (And.intro (And.intro rfl rfl) (trivial)) ?_
        refine WD_all [4] (n := 2) (by kernel_rfl) rfl ?_
        refine WM_op (φ := True) (v := .one (.e (.sd 1))) (H' := [.cells [.sp 0 95, .bsl 1 x1.length], .row .u8 x1 true]) rfl rfl (by kernel_rfl) trivial rfl (And.intro (And.intro rfl rfl) (trivial)) ?_
        refine WD_all [10] (n := 1) (by kernel_rfl) rfl ?_
        refine WM_op (φ := ((x1.length : Nat) : Int) = (x1.length : Int) ∧ ∀ x ∈ x1, 0 ≤ x ∧ x ≤ 255) (v := S (bytesOf x1)) (H' := [.cells [.sp 0 95, .bsl 1 x1.length], .dead]) rfl rfl (by kernel_rfl) hg5 rfl (And.intro (And.intro rfl rfl) (trivial)) ?_
        refine WD_takeK [11] [2] [2] (φ := True) (ls' := #[true, true, true, true, true, true, true, true, true, true, true, true]) (Ts' := [(2, S (bytesOf x1))]) (st' := ⟨[(2, S (bytesOf x1))], [.cells [.sp 0 95, .bsl 1 x1.length], .dead]⟩) (n2 := 0) (by kernel_rfl) trivial rfl ?_
        exact WD_done [0, 1] [2] (st' := ⟨[(2, S (bytesOf x1))], [.cells [.sp 0 95, .bsl 1 x1.length], .dead]⟩) (by kernel_rfl) (by kernel_rfl) (And.intro rfl rfl)
  · rintro _ _ ⟨rfl, rfl⟩
    refine thenS_n ?_
    refine W_ret ?_
    cases h
    exact ⟨[0, 1], True, by kernel_rfl, trivial⟩

/- impl.PathText -/
def impl_PathText_L1 (x1 : List Nod) (x81 : List Int) : Nat → (List Int) → Int → Option ((List Int))
| 0, _, _ => none
| n + 1, x112, i113 =>
 iteO (decide (i113 < (((x81.length - 1) : Nat) : Int)))
 (guardO (0 ≤ i113 ∧ i113 < (((x81.length - 1) : Nat) : Int)) <|
 bindO (strings_Builder_WriteByte x112 47) fun x147 =>
 guardO (0 ≤ (x81.getD (1 + i113.toNat) 0) ∧ (x81.getD (1 + i113.toNat) 0) < ((x1.length : Nat) : Int)) <|
 bindO (strings_Builder_WriteString x147 ((x1.getD ((x81.getD (1 + i113.toNat) 0).toNat) dnod).name)) fun (x150, i151) =>
 impl_PathText_L1 x1 x81 n x150 (w64 (i113 + 1)))
 (some x112)

theorem impl_PathText_L1_ok (w : World) (X : Nat → Prop) (θ : List Loc) (x1 : List Nod) (x81 : List Int) (x134 : (List Int)) : ∀ (n : Nat) (x112 : List Int) (i113 : Int), impl_PathText_L1 x1 x81 n x112 i113 = some x134 → WL EE ⟨w, X, θ, 34, 1⟩ (subC [1, 1, 1, 1, 1, 0, 1, 4, 4] (bodyC Try.f53)) (fun (e : Exit) (s : St) => e = .exit 0 ∧ s = ⟨[(6, .one (.e (.p 1 0)))], [.row .nod x1 false, .cells [.sp 1 95, .bsl 2 x134.length], .row .u8 x134 true]⟩) ⟨[(0, .one (.e (.sl 0 0 x1.length))), (6, .one (.e (.p 1 0))), (19, .one (.e (.sl 2 1 (x81.length - 1)))), (20, I (((x81.length - 1) : Nat) : Int)), (21, I i113)], [.row .nod x1 false, .cells [.sp 1 95, .bsl 3 x112.length], .row .int x81 true, .row .u8 x112 true]⟩ := by
  intro n
  induction n with
  | zero => intro _ _ h; exact none_e h
  | succ n ih =>
    intro x112 i113 h
    rw [impl_PathText_L1] at h
    refine WL_round ?_
    refine W_seq ?_
    refine W_region ?_
    refine WO_step 1 [0, 1, 2, 3] [0, 6, 19, 20, 21, 22] (True ∧ True) ⟨[(0, .one (.e (.sl 0 0 x1.length))), (6, .one (.e (.p 1 0))), (19, .one (.e (.sl 2 1 (x81.length - 1)))), (20, I (((x81.length - 1) : Nat) : Int)), (21, I i113), (22, B (decide (i113 < (((x81.length - 1) : Nat) : Int))))], [.row .nod x1 false, .cells [.sp 1 95, .bsl 3 x112.length], .row .int x81 true, .row .u8 x112 true]⟩ (by kernel_rfl) ⟨trivial, trivial⟩ ?_
    refine WO_nil rfl ?_
    refine thenS_n ?_
    refine W_seq ?_
    refine iteO_e h (fun hb137 h => W_true rfl hb137 ?_) (fun hb137 h => W_false rfl hb137 ?_)
    · refine W_sub [0, 1, 2, 3] [0, 6, 19, 20, 21] (st' := ⟨[(0, .one (.e (.sl 0 0 x1.length))), (6, .one (.e (.p 1 0))), (19, .one (.e (.sl 2 1 (x81.length - 1)))), (20, I (((x81.length - 1) : Nat) : Int)), (21, I i113)], [.row .nod x1 false, .cells [.sp 1 95, .bsl 3 x112.length], .row .int x81 true, .row .u8 x112 true]⟩) (by kernel_rfl) ?_
      refine W_skip ?_
      refine thenS_n ?_
      refine W_seq ?_
      refine W_block ?_
      refine W_seq ?_
      refine W_region ?_
      refine guardO_e h (fun hg146 h => ?_)
      refine WO_step 3 [0, 1, 2, 3] [0, 6, 8, 19, 20, 21] ((0 ≤ i113 ∧ i113 < (((x81.length - 1) : Nat) : Int)) ∧ (True ∧ True)) ⟨[(0, .one (.e (.sl 0 0 x1.length))), (6, .one (.e (.p 1 0))), (8, I (x81.getD (1 + i113.toNat) 0)), (19, .one (.e (.sl 2 1 (x81.length - 1)))), (20, I (((x81.length - 1) : Nat) : Int)), (21, I i113)], [.row .nod x1 false, .cells [.sp 1 95, .bsl 3 x112.length], .row .int x81 true, .row .u8 x112 true]⟩ (by kernel_rfl) ⟨hg146, trivial, trivial⟩ ?_
      refine WO_nil rfl ?_
      refine thenS_n ?_
      refine W_seq ?_
      refine W_region ?_
      refine bindO_e h (fun x147 hc148 h => ?_)
      refine WO_call [.own 1, .own 3] Try.f74 rfl rfl rfl (by kernel_rfl) Try.func74 rfl (by kernel_rfl) (strings_Builder_WriteByte_ok x112 47 x147 hc148) (And.intro (trivial) (And.intro (trivial) (trivial))) rfl ?_
      refine WO_sub [0, 1, 2, 4] [0, 6, 8, 19, 20, 21] (st' := ⟨[(0, .one (.e (.sl 0 0 x1.length))), (6, .one (.e (.p 1 0))), (8, I (x81.getD (1 + i113.toNat) 0)), (19, .one (.e (.sl 2 1 (x81.length - 1)))), (20, I (((x81.length - 1) : Nat) : Int)), (21, I i113)], [.row .nod x1 false, .cells [.sp 1 95, .bsl 3 x147.length], .row .int x81 true, .row .u8 x147 true]⟩) (by kernel_rfl) ?_
      refine WO_nil rfl ?_
      refine thenS_n ?_
      refine W_region ?_
      refine guardO_e h (fun hg149 h => ?_)
      refine WO_step 5 [0, 1, 2, 3] [0, 6, 19, 20, 21, 30] ((0 ≤ (x81.getD (1 + i113.toNat) 0) ∧ (x81.getD (1 + i113.toNat) 0) < ((x1.length : Nat) : Int)) ∧ (True ∧ True)) ⟨[(0, .one (.e (.sl 0 0 x1.length))), (6, .one (.e (.p 1 0))), (19, .one (.e (.sl 2 1 (x81.length - 1)))), (20, I (((x81.length - 1) : Nat) : Int)), (21, I i113), (30, S ((x1.getD ((x81.getD (1 + i113.toNat) 0).toNat) dnod).name))], [.row .nod x1 false, .cells [.sp 1 95, .bsl 3 x147.length], .row .int x81 true, .row .u8 x147 true]⟩ (by kernel_rfl) ⟨hg149, trivial, trivial⟩ ?_
      refine bindO_e h (fun v153 hc152 h => ?_)
      obtain ⟨x150, i151⟩ := v153
      refine WO_call [.own 1, .own 3] Try.f75 rfl rfl rfl (by kernel_rfl) Try.func75 rfl (by kernel_rfl) (strings_Builder_WriteString_ok x147 ((x1.getD ((x81.getD (1 + i113.toNat) 0).toNat) dnod).name) x150 i151 hc152) (And.intro (trivial) (And.intro (trivial) (trivial))) rfl ?_
      refine WO_sub [0, 1, 2, 4] [0, 6, 19, 20, 21] (st' := ⟨[(0, .one (.e (.sl 0 0 x1.length))), (6, .one (.e (.p 1 0))), (19, .one (.e (.sl 2 1 (x81.length - 1)))), (20, I (((x81.length - 1) : Nat) : Int)), (21, I i113)], [.row .nod x1 false, .cells [.sp 1 95, .bsl 3 x150.length], .row .int x81 true, .row .u8 x150 true]⟩) (by kernel_rfl) ?_
      refine WO_nil rfl ?_
      refine blockS_n ?_
      refine thenS_n ?_
      refine W_region ?_
      refine WO_step 2 [0, 1, 2, 3] [0, 6, 19, 20, 21] (True ∧ True) ⟨[(0, .one (.e (.sl 0 0 x1.length))), (6, .one (.e (.p 1 0))), (19, .one (.e (.sl 2 1 (x81.length - 1)))), (20, I (((x81.length - 1) : Nat) : Int)), (21, I (w64 (i113 + 1)))], [.row .nod x1 false, .cells [.sp 1 95, .bsl 3 x150.length], .row .int x81 true, .row .u8 x150 true]⟩ (by kernel_rfl) ⟨trivial, trivial⟩ ?_
      refine WO_nil rfl ?_
      refine thenS_n ?_
      exact ih _ _ h
    · refine W_sub [0, 1, 3] [6] (st' := ⟨[(6, .one (.e (.p 1 0)))], [.row .nod x1 false, .cells [.sp 1 95, .bsl 2 x112.length], .row .u8 x112 true]⟩) (by kernel_rfl) ?_
      refine W_exit ?_
      refine thenS_e ?_
      refine thenS_e ?_
      cases h
      exact And.intro rfl rfl

def impl_PathText (n : Nat) (x1 : List Nod) (i2 : Int) : Option (Str) :=
 bindO (impl_PathTo n x1 i2) fun x81 =>
 iteO (decide (((x81.length : Nat) : Int) = 0))
 (some [])
 (iteO (decide (((x81.length : Nat) : Int) = 1))
 (some [47])
 (guardO (0 ≤ (1 : Int) ∧ (1 : Int) ≤ ((x81.length : Nat) : Int)) <|
 bindO (impl_PathText_L1 x1 x81 n ([] : List Int) 0) fun x134 =>
 bindO (strings_Builder_String x134) fun (k155, s156) =>
 some s156))

theorem impl_PathText_ok (n : Nat) (x1 : List Nod) (i2 : Int) (s80 : Str) (h : impl_PathText n x1 i2 = some s80) : FOk EE 53 [.one (.e (.sl 0 0 x1.length)), I i2] [.row .nod x1 false] (S s80) [.row .nod x1 false] := by
  unfold impl_PathText at h
  refine FOk_of_W 34 1 Try.func53 rfl rfl (Nat.le_of_ble_eq_true rfl) rfl (fun w X θ => ?_)
  refine W_seq ?_
  refine W_region ?_
  refine WO_step 1 [0] [0, 1] True ⟨[(0, .one (.e (.sl 0 0 x1.length))), (1, I i2)], [.row .nod x1 false]⟩ (by kernel_rfl) trivial ?_
  refine WO_nil rfl ?_
  refine thenS_n ?_
  refine W_seq ?_
  refine W_region ?_
  refine WO_step 2 [0] [0, 9, 10] True ⟨[(0, .one (.e (.sl 0 0 x1.length))), (9, .one (.e (.sl 0 0 x1.length))), (10, I i2)], [.row .nod x1 false]⟩ (by kernel_rfl) trivial ?_
  refine bindO_e h (fun x81 hc82 h => ?_)
  refine WO_call [.ro 0] Try.f73 rfl rfl rfl (by kernel_rfl) Try.func73 rfl (by kernel_rfl) (impl_PathTo_ok n x1 i2 x81 hc82) (And.intro (And.intro rfl rfl) (trivial)) rfl ?_
  refine WO_step 1 [0, 1] [0, 5] True ⟨[(0, .one (.e (.sl 0 0 x1.length))), (5, .one (.e (.sl 1 0 x81.length)))], [.row .nod x1 false, .row .int x81 true]⟩ (by kernel_rfl) trivial ?_
  refine WO_nil rfl ?_
  refine thenS_n ?_
  refine W_seq ?_
  refine W_seq ?_
  refine W_region ?_
  refine WO_step 3 [0, 1] [0, 5, 14] (True ∧ (True ∧ True)) ⟨[(0, .one (.e (.sl 0 0 x1.length))), (5, .one (.e (.sl 1 0 x81.length))), (14, B (decide (((x81.length : Nat) : Int) = 0)))], [.row .nod x1 false, .row .int x81 true]⟩ (by kernel_rfl) ⟨trivial, trivial, trivial⟩ ?_
  refine WO_nil rfl ?_
  refine thenS_n ?_
  refine iteO_e h (fun hb84 h => W_true rfl hb84 ?_) (fun hb84 h => W_false rfl hb84 ?_)
  · refine W_seq ?_
    refine W_region ?_
    refine WO_step 1 [0] [4] True ⟨[(4, S [])], [.row .nod x1 false]⟩ (by kernel_rfl) trivial ?_
    refine WO_nil rfl ?_
    refine thenS_n ?_
    refine W_ret ?_
    refine thenS_r ?_
    cases h
    exact ⟨[0], True, by kernel_rfl, trivial⟩
  · refine W_sub [0, 1] [0, 5] (st' := ⟨[(0, .one (.e (.sl 0 0 x1.length))), (5, .one (.e (.sl 1 0 x81.length)))], [.row .nod x1 false, .row .int x81 true]⟩) (by kernel_rfl) ?_
    refine W_skip ?_
    refine thenS_n ?_
    refine W_seq ?_
    refine W_seq ?_
    refine W_region ?_
    refine WO_step 3 [0, 1] [0, 5, 17] (True ∧ (True ∧ True)) ⟨[(0, .one (.e (.sl 0 0 x1.length))), (5, .one (.e (.sl 1 0 x81.length))), (17, B (decide (((x81.length : Nat) : Int) = 1)))], [.row .nod x1 false, .row .int x81 true]⟩ (by kernel_rfl) ⟨trivial, trivial, trivial⟩ ?_
    refine WO_nil rfl ?_
    refine thenS_n ?_
    refine iteO_e h (fun hb86 h => W_true rfl hb86 ?_) (fun hb86 h => W_false rfl hb86 ?_)
    · refine W_seq ?_
      refine W_region ?_
      refine WO_step 1 [0] [4] True ⟨[(4, S [47])], [.row .nod x1 false]⟩ (by kernel_rfl) trivial ?_
      refine WO_nil rfl ?_
      refine thenS_n ?_
      refine W_ret ?_
      refine thenS_r ?_
      cases h
      exact ⟨[0], True, by kernel_rfl, trivial⟩
    · refine W_sub [0, 1] [0, 5] (st' := ⟨[(0, .one (.e (.sl 0 0 x1.length))), (5, .one (.e (.sl 1 0 x81.length)))], [.row .nod x1 false, .row .int x81 true]⟩) (by kernel_rfl) ?_
      refine W_skip ?_
      refine thenS_n ?_
      refine W_seq ?_
      refine W_region ?_
      refine WO_step 1 [0, 1, 2] [0, 5, 6] (True ∧ True) ⟨[(0, .one (.e (.sl 0 0 x1.length))), (5, .one (.e (.sl 1 0 x81.length))), (6, .one (.e (.p 2 0)))], [.row .nod x1 false, .row .int x81 true, .cells [.sp 2 95, .nsl]]⟩ (by kernel_rfl) ⟨trivial, trivial⟩ ?_
      refine WO_bld 2 rfl ?_
      refine WO_nil rfl ?_
      refine thenS_n ?_
      refine W_seq ?_
      refine W_seq ?_
      refine W_region ?_
      refine guardO_e h (fun hg87 h => ?_)
      refine WO_step 4 [0, 2, 1, 3] [0, 6, 19, 20, 21] ((0 ≤ (1 : Int) ∧ (1 : Int) ≤ ((x81.length : Nat) : Int)) ∧ (True ∧ True)) ⟨[(0, .one (.e (.sl 0 0 x1.length))), (6, .one (.e (.p 1 0))), (19, .one (.e (.sl 2 1 (x81.length - 1)))), (20, I (((x81.length - 1) : Nat) : Int)), (21, I 0)], [.row .nod x1 false, .cells [.sp 1 95, .bsl 3 (([] : List Int).length)], .row .int x81 true, .row .u8 ([] : List Int) true]⟩ (by kernel_rfl) ⟨hg87, trivial, trivial⟩ ?_
      refine WO_nil rfl ?_
      refine thenS_n ?_
      refine W_block ?_
      refine W_loop ?_
      refine bindO_e h (fun x134 hx134 h => ?_)
      refine WL_cut (impl_PathText_L1_ok w X θ x1 x81 x134 n ([] : List Int) 0 hx134) ?_
      rintro _ _ ⟨rfl, rfl⟩
      refine blockS_y ?_
      refine thenS_n ?_
      refine W_seq ?_
      refine W_region ?_
      refine bindO_e h (fun v158 hc157 h => ?_)
      obtain ⟨k155, s156⟩ := v158
      refine WO_call [.own 1, .own 2] Try.f76 rfl rfl rfl (by kernel_rfl) Try.func76 rfl (by kernel_rfl) (strings_Builder_String_ok x134 k155 s156 hc157) (And.intro (trivial) (And.intro (trivial) (trivial))) rfl ?_
      refine WO_step 1 [0] [4] True ⟨[(4, S s156)], [.row .nod x1 false]⟩ (by kernel_rfl) trivial ?_
      refine WO_nil rfl ?_
      refine thenS_n ?_
      refine W_ret ?_
      cases h
      exact ⟨[0], True, by kernel_rfl, trivial⟩

/- stringslite.HasPrefix -/
def stringslite_HasPrefix (s1 : Str) (s2 : Str) : Option (Bool) :=
 bindO (iteO (decide (((s2.length : Nat) : Int) ≤ ((s1.length : Nat) : Int)))
 (guardO (0 ≤ ((s2.length : Nat) : Int) ∧ ((s2.length : Nat) : Int) ≤ ((s1.length : Nat) : Int)) <|
 some (decide ((s1.take (((s2.length : Nat) : Int).toNat)) = s2)))
 (some false)) fun b12 =>
 some b12

theorem stringslite_HasPrefix_ok (s1 : Str) (s2 : Str) (b9 : Bool) (h : stringslite_HasPrefix s1 s2 = some b9) : FOk EE 87 [S s1, S s2] [] (B b9) [] := by
  unfold stringslite_HasPrefix at h
  refine FOk_of_W 18 0 Try.func87 rfl rfl (Nat.le_of_ble_eq_true rfl) rfl (fun w X θ => ?_)
  refine W_seq ?_
  refine W_region ?_
  refine WO_step 1 [] [0, 1] True ⟨[(0, S s1), (1, S s2)], []⟩ (by kernel_rfl) trivial ?_
  refine WO_nil rfl ?_
  refine thenS_n ?_
  refine W_seq ?_
  refine W_region ?_
  refine WO_step 6 [] [0, 1, 10] (True ∧ (True ∧ (True ∧ True))) ⟨[(0, S s1), (1, S s2), (10, B (decide (((s2.length : Nat) : Int) ≤ ((s1.length : Nat) : Int))))], []⟩ (by kernel_rfl) ⟨trivial, trivial, trivial, trivial⟩ ?_
  refine bindO_e h (fun b12 hv13 h => ?_)
  refine WO_thru ⟨[(4, B b12)], []⟩ ?_ ?_
  · refine iteO_e hv13 (fun hb14 hv13 => WO_known 10 true rfl hb14 ?_) (fun hb14 hv13 => WO_known 10 false rfl hb14 ?_)
    · refine guardO_e hv13 (fun hg15 hv13 => ?_)
      refine WO_step 8 [] [4] (True ∧ ((0 ≤ ((s2.length : Nat) : Int) ∧ ((s2.length : Nat) : Int) ≤ ((s1.length : Nat) : Int)) ∧ (True ∧ True))) ⟨[(4, B (decide ((s1.take (((s2.length : Nat) : Int).toNat)) = s2)))], []⟩ (by kernel_rfl) ⟨trivial, hg15, trivial, trivial⟩ ?_
      cases hv13
      exact WO_nil rfl ⟨rfl, rfl⟩
    · refine WO_step 8 [] [4] True ⟨[(4, B false)], []⟩ (by kernel_rfl) trivial ?_
      cases hv13
      exact WO_nil rfl ⟨rfl, rfl⟩
  · refine thenS_n ?_
    refine W_ret ?_
    cases h
    exact ⟨[], True, by kernel_rfl, trivial⟩

/- stringslite.CutPrefix -/
def stringslite_CutPrefix (s1 : Str) (s2 : Str) : Option (Str × Bool) :=
 bindO (stringslite_HasPrefix s1 s2) fun b10 =>
 iteO (!b10)
 (some (s1, false))
 (guardO (0 ≤ ((s2.length : Nat) : Int) ∧ ((s2.length : Nat) : Int) ≤ ((s1.length : Nat) : Int)) <|
 some ((s1.drop (((s2.length : Nat) : Int).toNat)), true))

theorem stringslite_CutPrefix_ok (s1 : Str) (s2 : Str) (s8 : Str) (b9 : Bool) (h : stringslite_CutPrefix s1 s2 = some (s8, b9)) : FOk EE 69 [S s1, S s2] [] (.tup [.e (cS s8), .e (cB b9)]) [] := by
  unfold stringslite_CutPrefix at h
  refine FOk_of_W 15 0 Try.func69 rfl rfl (Nat.le_of_ble_eq_true rfl) rfl (fun w X θ => ?_)
  refine W_seq ?_
  refine W_region ?_
  refine WO_step 2 [] [0, 1] True ⟨[(0, S s1), (1, S s2)], []⟩ (by kernel_rfl) trivial ?_
  refine WO_nil rfl ?_
  refine thenS_n ?_
  refine W_seq ?_
  refine W_seq ?_
  refine W_region ?_
  refine WO_step 2 [] [0, 1, 6, 7] True ⟨[(0, S s1), (1, S s2), (6, S s1), (7, S s2)], []⟩ (by kernel_rfl) trivial ?_
  refine bindO_e h (fun b10 hc11 h => ?_)
  refine WO_call [] Try.f87 rfl rfl rfl (by kernel_rfl) Try.func87 rfl (by kernel_rfl) (stringslite_HasPrefix_ok s1 s2 b10 hc11) (trivial) rfl ?_
  refine WO_step 1 [] [0, 1, 9] True ⟨[(0, S s1), (1, S s2), (9, B (!b10))], []⟩ (by kernel_rfl) trivial ?_
  refine WO_nil rfl ?_
  refine thenS_n ?_
  refine iteO_e h (fun hb13 h => W_true rfl hb13 ?_) (fun hb13 h => W_false rfl hb13 ?_)
  · refine W_seq ?_
    refine W_region ?_
    refine WO_step 3 [] [4, 5] True ⟨[(4, S s1), (5, B false)], []⟩ (by kernel_rfl) trivial ?_
    refine WO_nil rfl ?_
    refine thenS_n ?_
    refine W_ret ?_
    refine thenS_r ?_
    cases h
    exact ⟨[], True, by kernel_rfl, trivial⟩
  · refine W_sub [] [0, 1] (st' := ⟨[(0, S s1), (1, S s2)], []⟩) (by kernel_rfl) ?_
    refine W_skip ?_
    refine thenS_n ?_
    refine W_seq ?_
    refine W_region ?_
    refine guardO_e h (fun hg14 h => ?_)
    refine WO_step 6 [] [4, 5] (True ∧ ((0 ≤ ((s2.length : Nat) : Int) ∧ ((s2.length : Nat) : Int) ≤ ((s1.length : Nat) : Int)) ∧ True)) ⟨[(4, S (s1.drop (((s2.length : Nat) : Int).toNat))), (5, B true)], []⟩ (by kernel_rfl) ⟨trivial, hg14, trivial⟩ ?_
    refine WO_nil rfl ?_
    refine thenS_n ?_
    refine W_ret ?_
    cases h
    exact ⟨[], True, by kernel_rfl, trivial⟩

/- strings.CutPrefix -/
def strings_CutPrefix (s1 : Str) (s2 : Str) : Option (Str × Bool) :=
 bindO (stringslite_CutPrefix s1 s2) fun (s9, b10) =>
 some (s9, b10)

theorem strings_CutPrefix_ok (s1 : Str) (s2 : Str) (s7 : Str) (b8 : Bool) (h : strings_CutPrefix s1 s2 = some (s7, b8)) : FOk EE 42 [S s1, S s2] [] (.tup [.e (cS s7), .e (cB b8)]) [] := by
  unfold strings_CutPrefix at h
  refine FOk_of_W 11 0 Try.func42 rfl rfl (Nat.le_of_ble_eq_true rfl) rfl (fun w X θ => ?_)
  refine W_seq ?_
  refine W_region ?_
  refine WO_step 2 [] [0, 1] True ⟨[(0, S s1), (1, S s2)], []⟩ (by kernel_rfl) trivial ?_
  refine WO_nil rfl ?_
  refine thenS_n ?_
  refine W_seq ?_
  refine W_region ?_
  refine WO_step 2 [] [6, 7] True ⟨[(6, S s1), (7, S s2)], []⟩ (by kernel_rfl) trivial ?_
  refine bindO_e h (fun v12 hc11 h => ?_)
  obtain ⟨s9, b10⟩ := v12
  refine WO_call [] Try.f69 rfl rfl rfl (by kernel_rfl) Try.func69 rfl (by kernel_rfl) (stringslite_CutPrefix_ok s1 s2 s9 b10 hc11) (trivial) rfl ?_
  refine WO_step 4 [] [4, 5] True ⟨[(4, S s9), (5, B b10)], []⟩ (by kernel_rfl) trivial ?_
  refine WO_nil rfl ?_
  refine thenS_n ?_
  refine W_ret ?_
  cases h
  exact ⟨[], True, by kernel_rfl, trivial⟩

/- stringslite.IndexByte -/
def lays217R : Shelf.Ren := ⟨fun n => match n with | 217 => 96 | 266 => 104 | _ => 0, fun n => match n with | 3 => 3 | 5 => 5 | 9 => 9 | _ => 0, fun n => n⟩
set_option maxRecDepth 100000 in
theorem lays217 : Lays.n217 Try.prog lays217R := {
  mixed := by kernel_rfl
  f217 := by kernel_rfl
  f266 := by kernel_rfl
  t3 := Try.underlying3
  a3 := Try.isAgg3
  z3 := Try.sizeOf3
  v3 := Try.zeroValue3
  t5 := Try.underlying5
  a5 := Try.isAgg5
  z5 := Try.sizeOf5
  v5 := Try.zeroValue5
  t9 := Try.underlying9
  a9 := Try.isAgg9
  z9 := Try.sizeOf9
  v9 := Try.zeroValue9 }
def stringslite_IndexByte (s1 : Str) (i2 : Int) : Int := Lib.indexByte s1 (UInt8.ofNat i2.toNat)
theorem stringslite_IndexByte_ok (s1 : Str) (i2 : Int) : FOk EE 96 [S s1, U i2] [] (I (stringslite_IndexByte s1 i2)) [] :=
  FOk_pure (args := [.str s1, .int .u8 i2]) (r := .int .i64 (Lib.indexByte s1 (UInt8.ofNat i2.toNat))) (fun w => Any.stringslite_IndexByte lays217 ⟨⟨s1⟩⟩ i2 w)

/- stringslite.Index -/
def stringslite_Index (s1 : Str) (s2 : Str) : Option (Int) :=
 iteO ((decide (((s2.length : Nat) : Int) = 0)) || (decide (s2 = s1)))
 (some 0)
 (iteO (decide (((s2.length : Nat) : Int) = 1))
 (guardO (0 ≤ (0 : Int) ∧ (0 : Int) < ((s2.length : Nat) : Int)) <|
 some (stringslite_IndexByte s1 ((s2.getD ((0 : Int).toNat) 0).toNat : Int)))
 (iteO (decide (((s1.length : Nat) : Int) ≤ ((s2.length : Nat) : Int)))
 (some (-1))
 (none)))

theorem stringslite_Index_ok (s1 : Str) (s2 : Str) (i45 : Int) (h : stringslite_Index s1 s2 = some i45) : FOk EE 88 [S s1, S s2] [] (I i45) [] := by
  unfold stringslite_Index at h
  refine FOk_of_W 143 0 Try.func88 rfl rfl (Nat.le_of_ble_eq_true rfl) rfl (fun w X θ => ?_)
  refine W_seq ?_
  refine W_region ?_
  refine WO_step 1 [] [0, 1] True ⟨[(0, S s1), (1, S s2)], []⟩ (by kernel_rfl) trivial ?_
  refine WO_nil rfl ?_
  refine thenS_n ?_
  refine W_seq ?_
  refine W_region ?_
  refine WO_step 3 [] [0, 1, 5] (True ∧ True) ⟨[(0, S s1), (1, S s2), (5, I ((s2.length : Nat) : Int))], []⟩ (by kernel_rfl) ⟨trivial, trivial⟩ ?_
  refine WO_nil rfl ?_
  refine thenS_n ?_
  refine W_seq ?_
  refine W_block ?_
  refine W_seq ?_
  refine W_region ?_
  refine WO_step 3 [] [0, 1, 5, 19] (True ∧ True) ⟨[(0, S s1), (1, S s2), (5, I ((s2.length : Nat) : Int)), (19, B (decide (((s2.length : Nat) : Int) = 0)))], []⟩ (by kernel_rfl) ⟨trivial, trivial⟩ ?_
  refine WO_thru ⟨[(0, S s1), (1, S s2), (5, I ((s2.length : Nat) : Int)), (16, B ((decide (((s2.length : Nat) : Int) = 0)) || (decide (s2 = s1))))], []⟩ ?_ ?_
  · refine WO_if 19 rfl (fun hb69 => ?_) (fun hb69 => ?_)
    · refine WO_step 5 [] [0, 1, 5, 16] True ⟨[(0, S s1), (1, S s2), (5, I ((s2.length : Nat) : Int)), (16, B true)], []⟩ (by kernel_rfl) trivial ?_
      exact WO_nil rfl ⟨rfl, by first | rfl | (rw [hb69]; first | done | rfl)⟩
    · refine WO_step 5 [] [0, 1, 5, 16] (True ∧ True) ⟨[(0, S s1), (1, S s2), (5, I ((s2.length : Nat) : Int)), (16, B (decide (s2 = s1)))], []⟩ (by kernel_rfl) ⟨trivial, trivial⟩ ?_
      exact WO_nil rfl ⟨rfl, by first | rfl | (rw [hb69]; first | done | rfl)⟩
  · refine thenS_n ?_
    refine iteO_e h (fun hb79 h => W_true rfl hb79 ?_) (fun hb79 h => W_false rfl hb79 ?_)
    · refine W_seq ?_
      refine W_region ?_
      refine WO_step 1 [] [4] True ⟨[(4, I 0)], []⟩ (by kernel_rfl) trivial ?_
      refine WO_nil rfl ?_
      refine thenS_n ?_
      refine W_ret ?_
      refine blockS_r ?_
      refine thenS_r ?_
      cases h
      exact ⟨[], True, by kernel_rfl, trivial⟩
    · refine W_seq ?_
      refine W_region ?_
      refine WO_step 3 [] [0, 1, 5, 24] (True ∧ True) ⟨[(0, S s1), (1, S s2), (5, I ((s2.length : Nat) : Int)), (24, B (decide (((s2.length : Nat) : Int) = 1)))], []⟩ (by kernel_rfl) ⟨trivial, trivial⟩ ?_
      refine WO_nil rfl ?_
      refine thenS_n ?_
      refine iteO_e h (fun hb84 h => W_true rfl hb84 ?_) (fun hb84 h => W_false rfl hb84 ?_)
      · refine W_seq ?_
        refine W_region ?_
        refine guardO_e h (fun hg85 h => ?_)
        refine WO_step 3 [] [27, 29] ((0 ≤ (0 : Int) ∧ (0 : Int) < ((s2.length : Nat) : Int)) ∧ True) ⟨[(27, S s1), (29, U ((s2.getD ((0 : Int).toNat) 0).toNat : Int))], []⟩ (by kernel_rfl) ⟨hg85, trivial⟩ ?_
        refine WO_call [] Try.f96 rfl rfl rfl (by kernel_rfl) Try.func96 rfl (by kernel_rfl) (stringslite_IndexByte_ok s1 ((s2.getD ((0 : Int).toNat) 0).toNat : Int)) (trivial) rfl ?_
        refine WO_step 1 [] [4] True ⟨[(4, I (stringslite_IndexByte s1 ((s2.getD ((0 : Int).toNat) 0).toNat : Int)))], []⟩ (by kernel_rfl) trivial ?_
        refine WO_nil rfl ?_
        refine thenS_n ?_
        refine W_ret ?_
        refine blockS_r ?_
        refine thenS_r ?_
        cases h
        exact ⟨[], True, by kernel_rfl, trivial⟩
      · refine W_seq ?_
        refine W_region ?_
        refine WO_step 5 [] [0, 1, 5, 31] (True ∧ (True ∧ True)) ⟨[(0, S s1), (1, S s2), (5, I ((s2.length : Nat) : Int)), (31, B (decide (((s1.length : Nat) : Int) ≤ ((s2.length : Nat) : Int))))], []⟩ (by kernel_rfl) ⟨trivial, trivial, trivial⟩ ?_
        refine WO_nil rfl ?_
        refine thenS_n ?_
        refine iteO_e h (fun hb87 h => W_true rfl hb87 ?_) (fun hb87 h => W_false rfl hb87 ?_)
        · refine W_seq ?_
          refine W_region ?_
          refine WO_step 1 [] [4] True ⟨[(4, I (-1))], []⟩ (by kernel_rfl) trivial ?_
          refine WO_nil rfl ?_
          refine thenS_n ?_
          refine W_ret ?_
          refine blockS_r ?_
          refine thenS_r ?_
          cases h
          exact ⟨[], True, by kernel_rfl, trivial⟩
        · exact none_e h

end Go.Proofs.Ythlfcfcfipahiaa
