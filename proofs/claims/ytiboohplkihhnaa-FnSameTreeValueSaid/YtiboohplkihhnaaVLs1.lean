/- Plain facts: the laws FnSameTree, FnSameTreePaths, FnSameTreeValue. Conditions: none. -/
import Derived.Test.YtiboohplkihhnaaVD1
namespace Go.Proofs.Ytiboohplkihhnaa
open Go
set_option linter.unusedVariables false
theorem law_FnSameTree (x0 : List Int) (h0 : x0.length ≤ 9223372036854775807 ∧ ∀ x ∈ x0, RC.wf .u8 x) : ∃ n, laws_FnSameTree n x0 = some true := by
  refine Ex.get ?_
  unfold laws_FnSameTree
  refine Ex.code rfl (fun hl => ?_)
  refine Ex.bind (drawSame_ex (u8_wf h0.2) hl) ?_
  rintro ⟨x, y, k1, k2, k3, k4⟩ ⟨g1, g2⟩
  simp only at g1 g2 ⊢
  have l1 := g1.len
  have l2 := g2.len
  have hk2 : k2 = ((x.drop k1).take k2).length := by have := g1.vw; simp; omega
  have hk4 : k4 = ((y.drop k3).take k4).length := by have := g2.vw; simp; omega
  have n1 := g1.nl
  have n2 := g2.nl
  generalize hA : (x.drop k1).take k2 = a at *
  generalize hB : (y.drop k3).take k4 = b at *
  have sp : ∀ {g : Nat → Bool → Option Bool} {Q : Bool → Prop}, Ex (fun n => g n (sameT a b)) Q → Ex (fun n => bindO (spec_SameTree n a b) (g n)) Q := fun k => Ex.be (specSame_ex n1 n2 (by omega) (by omega)) k
  refine Ex.be (implSame_ex (by omega)) (sp (Ex.be (Ex.no (by simp) (Ex.be (implTree_ex a) (Ex.ret rfl))) ?_))
  refine Ex.ite (fun _ => sp (Ex.ret (by simp))) (fun hv => ?_)
  have ha := validT_iff.1 (notF hv)
  refine Ex.be (implSame_ex (by omega)) ?_
  rw [sameT_iff.2 ⟨ha, ha, fun _ => rfl⟩]
  refine Ex.be (a := true) (Ex.yes rfl (Ex.be (implSame_ex (by omega)) ?_)) (Ex.ret rfl)
  rw [sameT_comm b a]
  refine Ex.yes (by simp) (Ex.ite (fun _ => Ex.ret rfl) (fun hs => Ex.ret ?_))
  obtain ⟨va, vb, hm⟩ := sameT_iff.1 (notF hs)
  have := ((sameP_M va vb).2 hm).1
  exact decide_eq_true (by omega)

theorem law_FnSameTreePaths (x0 : List Int) (h0 : x0.length ≤ 9223372036854775807 ∧ ∀ x ∈ x0, RC.wf .u8 x) : ∃ n, laws_FnSameTreePaths n x0 = some true := by
  refine Ex.get ?_
  unfold laws_FnSameTreePaths
  refine Ex.code rfl (fun hl => ?_)
  refine Ex.bind (drawSame_ex (u8_wf h0.2) hl) ?_
  rintro ⟨x, y, k1, k2, k3, k4⟩ ⟨g1, g2⟩
  simp only at g1 g2 ⊢
  have l1 := g1.len
  have l2 := g2.len
  have hk2 : k2 = ((x.drop k1).take k2).length := by have := g1.vw; simp; omega
  have hk4 : k4 = ((y.drop k3).take k4).length := by have := g2.vw; simp; omega
  have n1 := g1.nl
  have n2 := g2.nl
  have atA : ∀ j, j < k2 → x.getD (k1 + j) dnod = ((x.drop k1).take k2).getD j dnod := fun j hj => by
    rw [List.getD_eq_getElem?_getD, List.getD_eq_getElem?_getD, List.getElem?_take_of_lt hj, List.getElem?_drop]
  have atB : ∀ j, j < k4 → y.getD (k3 + j) dnod = ((y.drop k3).take k4).getD j dnod := fun j hj => by
    rw [List.getD_eq_getElem?_getD, List.getD_eq_getElem?_getD, List.getElem?_take_of_lt hj, List.getElem?_drop]
  refine Ex.be (implSame_ex (by omega)) (Ex.be (specSame_ex n1 n2 (by omega) (by omega)) ?_)
  refine Ex.ite (fun _ => Ex.be (specSame_ex n1 n2 (by omega) (by omega)) (Ex.ret (by simp))) (fun hs => ?_)
  have hs : sameT ((x.drop k1).take k2) ((y.drop k3).take k4) = true := by simpa using hs
  obtain ⟨va', vb', hm⟩ := sameT_iff.1 hs
  refine Ex.be (a := .inr ()) ?_ ?_
  rotate_left
  · exact Ex.ret rfl
  refine upU k2 (fun _ => True) ?_ ?_ 0 (Nat.zero_le _) trivial
  · intro k hk _ next
    simp only [laws_FnSameTreePaths_L1]
    have hk' : k < ((x.drop k1).take k2).length := by omega
    have e1 := implPathText_ex (t := (x.drop k1).take k2) (by omega) (k : Int)
    rw [pathT_of va' hk'] at e1
    have hp := ptx_len va' hk'
    have e2 := implRes_ex (t := (y.drop k3).take k4) (s := ptx (np ((x.drop k1).take k2) k)) (by omega)
    rw [if_pos (validT_iff.2 vb'), res_np va' vb' hk'] at e2
    have hv := M_va va' hk'
    rw [hm] at hv
    obtain ⟨j, j1, j2, j3⟩ := (M_some vb').1 hv
    rw [(loo_iff vb').2 ⟨j1, j2⟩] at e2
    refine Ex.yes (decide_eq_true (by omega)) (Ex.be e1 (Ex.be e2 (Ex.be (a := false) ?_ ?_)))
    · have hE : (y.getD (addN k3 (oi (some j)).toNat) dnod).value = (x.getD (addN k1 ((k : Int)).toNat) dnod).value := by
        rw [addN_eq, addN_eq, Int.toNat_natCast, atA k hk]
        show (y.getD (k3 + ((j : Int)).toNat) dnod).value = _
        rw [Int.toNat_natCast, atB j (by omega)]
        exact j3
      have ho : oi (some j) = (j : Int) := rfl
      refine Ex.no (decide_eq_false (by omega)) (Ex.no (decide_eq_false (by omega)) (Ex.guard (by omega) (Ex.guard (by omega) (Ex.ret ?_))))
      rw [decide_eq_true hE]; rfl
    · rw [w64_succ (by omega)]
      exact Ex.no rfl (next trivial)
  · intro _
    simp only [laws_FnSameTreePaths_L1]
    exact Ex.no (decide_eq_false (by omega)) (Ex.ret rfl)

theorem law_FnSameTreeValue (x0 : List Int) (h0 : x0.length ≤ 9223372036854775807 ∧ ∀ x ∈ x0, RC.wf .u8 x) : ∃ n, laws_FnSameTreeValue n x0 = some true := by
  refine Ex.get ?_
  unfold laws_FnSameTreeValue
  refine Ex.code rfl (fun hl => ?_)
  refine Ex.bind (drawSame_ex (u8_wf h0.2) hl) ?_
  rintro ⟨x, y, k1, k2, k3, k4⟩ ⟨g1, g2⟩
  simp only [List.nil_append] at g1 g2 ⊢
  have l1 := g1.len
  have l2 := g2.len
  have n1 := g1.nl
  have n2 := g2.nl
  generalize hA : (x.drop k1).take k2 = a at *
  generalize hB : (y.drop k3).take k4 = b at *
  have sp : ∀ {g : Nat → Bool → Option Bool} {Q : Bool → Prop}, Ex (fun n => g n (sameT a b)) Q → Ex (fun n => bindO (spec_SameTree n a b) (g n)) Q := fun k => Ex.be (specSame_ex n1 n2 (by omega) (by omega)) k
  refine Ex.be (implSame_ex (by omega)) (sp (Ex.be (Ex.no (by simp) (Ex.be (implTree_ex a) (Ex.ret rfl))) ?_))
  refine Ex.ite (fun _ => sp (Ex.ret (by simp))) (fun hv => ?_)
  have ha := validT_iff.1 (notF hv)
  have hlo := ha.lo
  obtain ⟨k, hk, hkl⟩ : ∃ k : Nat, ((x0.length : Nat) : Int).tmod ((a.length : Nat) : Int) = (k : Int) ∧ k < a.length := ⟨x0.length % a.length, tmod_nat, Nat.mod_lt _ hlo⟩
  simp only [hk, Int.toNat_natCast]
  have hval := ha.val k hkl
  have fin : ∀ v, -1000 ≤ v ∧ v ≤ 1000 → v ≠ va a k → sameT a (setT a k v) = false := by
    intro v hv hne
    rw [Bool.eq_false_iff]
    intro hs
    obtain ⟨_, _, hm⟩ := sameT_iff.1 hs
    have h1 := M_va ha hkl
    rw [hm, setT_M ha hkl hv, if_pos rfl] at h1
    exact hne (Option.some.inj h1)
  refine Ex.guard ⟨trivial, trivial, by simp; omega⟩ (Ex.guard (by omega) (Ex.guard (by omega) ?_))
  have hva : (a.getD k dnod).value = va a k := rfl
  refine Ex.bind (P := fun c => ∃ v, (-1000 ≤ v ∧ v ≤ 1000) ∧ v ≠ va a k ∧ c = setT a k v) ?_ ?_
  · rw [hva]
    refine Ex.ite (fun hb => ?_) (fun hb => ?_)
    · have := of_decide_eq_true hb
      refine Ex.guard (by omega) (Ex.guard (by omega) (Ex.ret ⟨va a k - 1, by omega, by omega, ?_⟩))
      rw [w64_id (by omega) (by omega)]; rfl
    · have := of_decide_eq_false hb
      refine Ex.guard (by omega) (Ex.guard (by omega) (Ex.ret ⟨va a k + 1, by omega, by omega, ?_⟩))
      rw [w64_id (by omega) (by omega)]; rfl
  · rintro c ⟨v, v1, v2, rfl⟩
    refine Ex.be (implSame_ex (by omega)) (Ex.ret ?_)
    rw [fin v v1 v2]; rfl
end Go.Proofs.Ytiboohplkihhnaa
