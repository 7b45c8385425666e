/- Plain facts: rows of records are measured, copied, compared, marked. Conditions: none. -/
import Derived.Test.YtdkmgkeaebcobaaLA
namespace Go.Proofs.Ytdkmgkeaebcobaa
open Go

theorem szRec_ex {xs : List Rcd} (hl : xs.length ≤ 9223372036854775807) {b : Int} (h0 : 0 ≤ b) (h1 : b ≤ 1048576) : Ex (fun _ => laws_szRecordS xs b) (fun r => r = -1 ∨ (0 ≤ r ∧ r ≤ b ∧ (xs.length : Int) ≤ b)) := by
  unfold laws_szRecordS
  refine Ex.ite (fun _ => Ex.ret (.inl rfl)) (fun hb => Ex.ret (.inr ?_))
  have hb := of_decide_eq_false hb
  rw [w64_id (by omega) (by omega)] at hb ⊢
  omega
theorem Ex.szR {f : Nat → Int → Option Bool} {xs : List Rcd} {b : Int} {P : Bool → Prop} (ht : P true) (h : xs.length ≤ 9223372036854775807) (h0 : 0 ≤ b) (h1 : b ≤ 1048576)
    (k : ∀ r, 0 ≤ r → r ≤ b → xs.length ≤ 1048576 → Ex (fun n => f n r) P) :
    Ex (fun n => bindO (laws_szRecordS xs b) fun i => iteO (decide (i < 0)) (some true) (f n i)) P := by
  refine Ex.bind (szRec_ex h h0 h1) ?_
  rintro r (rfl | ⟨h2, h3, h4⟩)
  · exact Ex.yes (by decide) (Ex.ret ht)
  · exact Ex.no (decide_eq_false (by omega)) (k r h2 h3 (by omega))

theorem toRec_ex {xs : List Rcd} (h : xs.length ≤ 10000000) : Ex (fun n => laws_toRecordS n xs) (· = xs) := by
  unfold laws_toRecordS
  refine Ex.guard (by omega) ?_
  refine Ex.bind (P := fun x => x = xs) ?_ (fun r hr => Ex.ret hr)
  refine copy_ex xs drcd (f := fun n ys i => laws_toRecordS_L1 xs n ys i) ?_ ?_ _ (by simp)
  · intro k ys hk hy Q hQ
    simp only [laws_toRecordS_L1, Int.toNat_natCast]
    refine Ex.yes (decide_eq_true (by omega)) (Ex.guard (by omega) ?_)
    have e : laws_toRecord (xs.getD k drcd) = some ((xs.getD k drcd).who, (xs.getD k drcd).node, (xs.getD k drcd).value, (xs.getD k drcd).fin) := rfl
    rw [e, w64_succ (by omega)]
    exact Ex.guard (by omega) hQ
  · intro ys
    simp only [laws_toRecordS_L1]
    exact Ex.no (decide_eq_false (by omega)) (Ex.ret rfl)

theorem eqRec_ex {xs : List Rcd} (h : xs.length ≤ 10000000) : Ex (fun n => laws_eqRecordS n xs xs) (· = true) := by
  unfold laws_eqRecordS
  refine Ex.no (by simp) (Ex.be (a := .inr ()) ?_ ?_)
  rotate_left
  · exact Ex.ret rfl
  refine skip_loop xs.length (f := fun n i => laws_eqRecordS_L1 xs xs n i) ?_ ?_
  · intro k hk r hr
    simp only [laws_eqRecordS_L1, Int.toNat_natCast]
    have e : laws_eqRecord (xs.getD k drcd) (xs.getD k drcd) = some true := by simp [laws_eqRecord, iteO_eq]
    rw [e, w64_succ (by omega)]
    exact Ex.yes (decide_eq_true (by omega)) (Ex.guard (by omega) (Ex.guard (by omega) (Ex.bc rfl (Ex.no rfl hr))))
  · simp only [laws_eqRecordS_L1]
    exact Ex.no (decide_eq_false (by omega)) (Ex.ret rfl)

theorem getD_rset {α : Type} {xs : List α} {i : Nat} {x d : α} (h : i < xs.length) (j : Nat) : (xs.set i x).getD j d = if i = j then x else xs.getD j d := getD_set' h j

def mkR (k : Int) (j : Nat) : Rcd := ⟨k + 4 * j, k + 4 * j + 1, k + 4 * j + 2, decide ((k + 4 * (j : Int) + 3).tmod 3 = 0)⟩
def MarkedR (xs : List Rcd) (k : Int) : Prop := ∀ j, j < xs.length → xs.getD j drcd = mkR k j

theorem markRec_ex {xs : List Rcd} (hl : xs.length ≤ 10000000) {k : Int} (hk : 0 ≤ k) (hk2 : k ≤ 100000000) : Ex (fun n => laws_markRecordS n xs xs.length k) (fun r => r.1.length = xs.length ∧ r.2 = k + 4 * xs.length ∧ MarkedR r.1 k) := by
  unfold laws_markRecordS
  refine Ex.bind (P := fun r => r.1.length = xs.length ∧ r.2 = k + 4 * xs.length ∧ MarkedR r.1 k) ?_ ?_
  · refine up xs.length (fun i (s : List Rcd × Int) => s.1.length = xs.length ∧ s.2 = k + 4 * i ∧ ∀ j, j < i → s.1.getD j drcd = mkR k j) (f := fun n s i => laws_markRecordS_L1 xs.length n s.1 s.2 i) ?_ ?_ 0 (xs, k) (Nat.zero_le _) ⟨rfl, by simp, fun j hj => by omega⟩
    · rintro i ⟨ys, c⟩ hi ⟨h1, h2, h3⟩ next
      simp only at h1 h2 h3
      subst h2
      have g1 : w64 (k + 4 * (i : Int) + 1) = k + 4 * (i : Int) + 1 := w64_id (by omega) (by omega)
      have g2 : w64 (k + 4 * (i : Int) + 1 + 1) = k + 4 * (i : Int) + 2 := by rw [w64_id (by omega) (by omega)]; omega
      have g3 : w64 (k + 4 * (i : Int) + 2 + 1) = k + 4 * (i : Int) + 3 := by rw [w64_id (by omega) (by omega)]; omega
      have g4 : w64 (k + 4 * (i : Int) + 3 + 1) = k + 4 * ((i + 1 : Nat) : Int) := by rw [w64_id (by omega) (by omega)]; omega
      have g5 : w64 ((i : Int) + 1) = ((i + 1 : Nat) : Int) := w64_succ (by omega)
      simp only [laws_markRecordS_L1, Int.toNat_natCast, List.set_set, getD_rset (show i < ys.length by omega), if_true, g1, g2, g3, g4, g5]
      refine Ex.yes (decide_eq_true (by omega)) (Ex.guard (by omega) (Ex.guard (by omega) (Ex.guard (by omega) (Ex.guard (by omega) ?_))))
      refine next (_, _) ⟨by simpa using h1, rfl, fun j hj => ?_⟩
      simp only
      rw [getD_rset (by omega)]
      split
      · rename_i e
        subst e
        rfl
      · exact h3 j (by omega)
    · rintro ⟨ys, c⟩ ⟨h1, h2, h3⟩
      simp only at h1 h2 h3
      simp only [laws_markRecordS_L1]
      exact Ex.no (decide_eq_false (by omega)) (Ex.ret ⟨h1, h2, fun j hj => h3 j (by simp only at hj; omega)⟩)
  · rintro ⟨ys, c⟩ h
    exact Ex.ret h
end Go.Proofs.Ytdkmgkeaebcobaa
