/- Plain facts: paths as the program and the specification make them. Conditions: none. -/
import Derived.Test.YthlfcfcfipahiaaV3
import Derived.Test.YthlfcfcfipahiaaLA
namespace Go.Proofs.Ythlfcfcfipahiaa
open Go
set_option linter.unusedVariables false

def nix (t : List Nod) (i : Nat) : List Int := (ix t i).map fun (k : Nat) => (k : Int)
theorem nix_len {t : List Nod} (i : Nat) : (nix t i).length = dp t i + 1 := by rw [nix, List.length_map, (np_ix i).2]
theorem ix_lt {t : List Nod} (h : VT t) : ∀ i, i < t.length → ∀ k ∈ ix t i, k < t.length := by
  intro i
  induction i using Nat.strongRecOn with
  | ind i ih =>
    intro hi k hk
    rcases Nat.eq_zero_or_pos i with rfl | h0
    · rw [ix, dif_neg (by omega)] at hk
      rw [List.mem_singleton.1 hk]; exact hi
    · rw [ix_pos h h0 hi] at hk
      have p := h.par i h0 hi
      rcases List.mem_append.1 hk with h1 | h1
      · exact ih _ p.2 (by omega) k h1
      · rw [List.mem_singleton.1 h1]; exact hi
theorem ix_names {t : List Nod} (i : Nat) : ((ix t i).drop 1).map (nmo t) = np t i := by
  rw [List.map_drop, (np_ix i).1]; rfl

theorem specPathTo_ex {t : List Nod} (h : VT t) {i : Nat} (hi : i < t.length) : Ex (fun n => spec_pathTo n t (i : Int)) (· = nix t i) := by
  have key : ∀ i, i < t.length → ∀ r : List Int, r.length + i ≤ 100 → Ex (fun n => spec_pathTo_L1 t n ((i : Int) :: r) (i : Int)) (· = nix t i ++ r) := by
    intro i
    induction i using Nat.strongRecOn with
    | ind i ih =>
      intro hi r hr
      refine Ex.succ ?_
      simp only [spec_pathTo_L1]
      rcases Nat.eq_zero_or_pos i with rfl | h0
      · refine Ex.no (decide_eq_false (by omega)) (Ex.ret ?_)
        rw [nix, ix, dif_neg (by omega)]; rfl
      · have p := h.par i h0 hi
        refine Ex.yes (decide_eq_true (by omega)) (Ex.guard (by omega) (Ex.guard (by simp; omega) ?_))
        rw [view_all, Int.toNat_natCast]
        have e : (t.getD i dnod).parent = (((pa t i).toNat : Nat) : Int) := by rw [Int.toNat_of_nonneg p.1]; rfl
        rw [e]
        have := ih _ p.2 (by omega) ((i : Int) :: r) (by simp; omega)
        refine Ex.mono this ?_
        rintro x rfl
        rw [nix, nix, ix_pos h h0 hi]; simp
  unfold spec_pathTo
  refine Ex.be (a := nix t i) ?_ (Ex.ret rfl)
  have := key i hi [] (by have := h.hi; simp; omega)
  rwa [List.append_nil] at this

theorem name_len {s : Str} (h : nameOk s = true) : s.length ≤ 4 := by
  simp only [nameOk, Bool.and_eq_true, decide_eq_true_eq] at h; exact h.1.2
theorem fm_len {c : UInt8} : ∀ {l : List Str}, (∀ s ∈ l, nameOk s = true) → (fm c l).length ≤ 5 * l.length
  | [], _ => by simp [fm_nil]
  | s :: l, h => by
    have := name_len (h s (by simp))
    have := fm_len (c := c) (l := l) (fun x hx => h x (by simp [hx]))
    rw [fm_cons]; simp only [List.length_cons, List.length_append]; omega
theorem np_le {t : List Nod} (h : VT t) {i : Nat} (hi : i < t.length) : (np t i).length ≤ 4 := by rw [np_len]; exact h.dep i hi
theorem ptx_len {t : List Nod} (h : VT t) {i : Nat} (hi : i < t.length) : (ptx (np t i)).length ≤ 20 := by
  have := np_le h hi
  rw [ptx]
  split
  · simp
  · have := fm_len (c := 47) (np_names h i hi); omega
theorem np_nil {t : List Nod} (h : VT t) {i : Nat} (hi : i < t.length) : np t i = [] ↔ i = 0 := by
  constructor
  · intro e
    rcases Nat.eq_zero_or_pos i with rfl | h0
    · rfl
    · rw [np_pos h h0 hi] at e; simp at e
  · rintro rfl; exact np_zero h

theorem nix_at {t : List Nod} (h : VT t) {i : Nat} (hi : i < t.length) {k : Nat} (hk : k < (ix t i).length) : (nix t i).getD k 0 = (((ix t i).getD k 0 : Nat) : Int) ∧ (ix t i).getD k 0 < t.length := by
  refine ⟨?_, ix_lt h i hi _ (getD_mem hk)⟩
  rw [nix, List.getD_eq_getElem?_getD, List.getElem?_map, List.getD_eq_getElem?_getD, List.getElem?_eq_getElem hk]; rfl

theorem specPathText_ex {t : List Nod} (h : VT t) {i : Nat} (hi : i < t.length) : Ex (fun n => spec_pathText n t (i : Int)) (· = ptx (np t i)) := by
  unfold spec_pathText
  refine Ex.be (specPathTo_ex h hi) (Ex.be (a := fm 47 (np t i)) ?_ ?_)
  · have hlen : (ix t i).length = (nix t i).length := by simp [nix]
    have hd := np_le h hi
    have hl2 := (np_ix (t := t) i).2
    rw [np_len] at hd
    refine up (nix t i).length (fun k (s : Str) => s ++ fm 47 (((ix t i).drop k).map (nmo t)) = fm 47 (np t i) ∧ s.length ≤ 5 * k) (f := fun n s i' => spec_pathText_L1 t i (nix t i) n s i') ?_ ?_ 1 [] (by omega) ⟨by rw [ix_names]; rfl, by simp⟩
    · rintro k s hk ⟨h1, h2⟩ next
      obtain ⟨a1, a2⟩ := nix_at h hi (k := k) (by omega)
      have hnm : (nmo t ((ix t i).getD k 0)).length ≤ 4 := by
        rcases Nat.eq_zero_or_pos ((ix t i).getD k 0) with e | e
        · rw [e, h.rn]; simp
        · exact name_len (h.nam _ e a2)
      simp only [spec_pathText_L1, Int.toNat_natCast, a1]
      rw [nmo] at hnm
      refine Ex.yes (decide_eq_true (by omega)) (Ex.guard (by simp; omega) (Ex.guard (by omega) (Ex.guard (by omega) (Ex.guard (by simp only [List.length_append, List.length_singleton]; omega) ?_))))
      rw [w64_succ (by omega)]
      refine next _ ⟨?_, by simp only [List.length_append, List.length_singleton]; omega⟩
      rw [← h1, drop_at 0 (show k < (ix t i).length by omega), List.map_cons, fm_cons, nmo]
      simp
    · rintro s ⟨h1, h2⟩
      simp only [spec_pathText_L1]
      refine Ex.no (decide_eq_false (by omega)) (Ex.ret ?_)
      rw [← h1, List.drop_eq_nil_of_le (by omega)]; simp [fm_nil]
  · rw [ptx]
    refine Ex.ite (fun hb => Ex.ret ?_) (fun hb => Ex.ret ?_)
    · have := of_decide_eq_true hb
      rw [if_pos ((np_nil h hi).2 (by omega))]
    · have := of_decide_eq_false hb
      rw [if_neg (fun e => this (by rw [(np_nil h hi).1 e]; rfl))]

theorem implNode_ex {t : List Nod} (hl : t.length ≤ 1000000000000) (i : Int) : Ex (fun n => impl_isNode n t i) (· = (decide (0 ≤ i ∧ i < t.length) && validT t)) := by
  unfold impl_isNode
  rw [w64_id (by omega) (by omega)]
  refine Ex.bind (P := fun r => r = _) ?_ (fun r hr => Ex.ret hr)
  have e : impl_within i 0 ((t.length : Int) - 1) = decide (0 ≤ i ∧ i < t.length) := by
    rw [impl_within, Bool.eq_iff_iff]; simp only [Bool.and_eq_true, decide_eq_true_eq]; omega
  rw [e]
  refine Ex.ite (fun hb => ?_) (fun hb => ?_)
  · rw [hb, Bool.true_and]; exact Ex.be (implTree_ex t) (Ex.ret rfl)
  · rw [hb]; exact Ex.ret rfl

theorem reverse_ex (x : List Int) (hx : x.length ≤ 1000000) : Ex (fun n => slices_Reverse_int_int n x x.length) (· = x.reverse) := by
  have key : ∀ (m i j : Nat) (s : List Int), i + j + 1 = x.length → j ≤ m + i → s.length = x.length → (∀ k, k < x.length → s.getD k 0 = if k < i ∨ j < k then x.reverse.getD k 0 else x.getD k 0) → Ex (fun n => slices_Reverse_int_int_L1 x.length n s i j) (· = x.reverse) := by
    intro m
    induction m with
    | zero =>
      intro i j s h1 h2 h3 h4
      refine Ex.succ ?_
      simp only [slices_Reverse_int_int_L1]
      refine Ex.no (decide_eq_false (by omega)) (Ex.ret ?_)
      refine List.ext_getElem (by simpa using h3) (fun k k1 k2 => ?_)
      have := h4 k (by omega)
      rw [List.getD_eq_getElem?_getD, List.getElem?_eq_getElem k1] at this
      simp only [Option.getD_some] at this
      rw [this]
      split
      · rw [List.getD_eq_getElem?_getD, List.getElem?_eq_getElem k2]; rfl
      · have e : k = i ∧ k = j := by omega
        rw [List.getElem_reverse, List.getD_eq_getElem?_getD, List.getElem?_eq_getElem (by omega)]
        simp only [Option.getD_some]
        congr 1; omega
    | succ m ih =>
      intro i j s h1 h2 h3 h4
      rcases Nat.lt_or_ge i j with hij | hij
      · refine Ex.succ ?_
        simp only [slices_Reverse_int_int_L1, Int.toNat_natCast]
        refine Ex.yes (decide_eq_true (by omega)) (Ex.guard (by omega) (Ex.guard (by omega) (Ex.guard (by omega) (Ex.guard (by omega) ?_))))
        have e : w64 ((j : Int) - 1) = ((j - 1 : Nat) : Int) := by rw [w64_id (by omega) (by omega)]; omega
        rw [w64_succ (by omega), e]
        refine ih (i + 1) (j - 1) _ (by omega) (by omega) (by simpa using h3) (fun k hk => ?_)
        rw [getD_set' (by simp; omega), getD_set' (by omega)]
        have r : ∀ a, a < x.length → x.reverse.getD a 0 = x.getD (x.length - 1 - a) 0 := by
          intro a ha
          rw [List.getD_eq_getElem?_getD, List.getElem?_reverse ha, List.getD_eq_getElem?_getD]
        split
        · rename_i hjk
          subst hjk
          rw [if_pos (by omega), h4 i (by omega), if_neg (by omega), r j (by omega)]
          congr 1; omega
        · split
          · rename_i hik
            subst hik
            rw [if_pos (by omega), h4 j (by omega), if_neg (by omega), r i (by omega)]
            congr 1; omega
          · rw [h4 k hk]
            split
            · rw [if_pos (by omega)]
            · rw [if_neg (by omega)]
      · exact ih i j s h1 (by omega) h3 h4
  unfold slices_Reverse_int_int
  refine Ex.be (a := x.reverse) ?_ (Ex.ret rfl)
  rcases Nat.eq_zero_or_pos x.length with h0 | h0
  · have : x = [] := List.eq_nil_of_length_eq_zero h0
    subst this
    refine Ex.succ ?_
    simp only [slices_Reverse_int_int_L1]
    exact Ex.no (by decide) (Ex.ret rfl)
  · have e : w64 ((x.length : Int) - 1) = ((x.length - 1 : Nat) : Int) := by rw [w64_id (by omega) (by omega)]; omega
    rw [e]
    exact key x.length 0 (x.length - 1) x (by omega) (by omega) rfl (fun k hk => by rw [if_neg (by omega)])

theorem implPathTo_ex {t : List Nod} (hl : t.length ≤ 1000000000000) (i : Int) : Ex (fun n => impl_PathTo n t i) (· = if (decide (0 ≤ i ∧ i < t.length) && validT t) = true then nix t i.toNat else []) := by
  unfold impl_PathTo
  refine Ex.be (implNode_ex hl i) ?_
  refine Ex.ite (fun hb => Ex.ret ?_) (fun hb => ?_)
  · rw [notT hb]; rfl
  · have hb := notF hb
    rw [if_pos hb]
    simp only [Bool.and_eq_true, decide_eq_true_eq] at hb
    obtain ⟨⟨h0, h1⟩, hv⟩ := hb
    have h := validT_iff.1 hv
    have hhi := h.hi
    obtain ⟨k, rfl⟩ : ∃ k : Nat, i = (k : Int) := ⟨i.toNat, by omega⟩
    rw [Int.toNat_natCast]
    have hk : k < t.length := by omega
    have key : ∀ i, i < t.length → ∀ r : List Int, r.length + i ≤ 100 → Ex (fun n => impl_PathTo_L1 t n r (i : Int)) (· = r ++ (nix t i).reverse) := by
      intro i
      induction i using Nat.strongRecOn with
      | ind i ih =>
        intro hi r hr
        refine Ex.succ ?_
        simp only [impl_PathTo_L1, Int.toNat_natCast]
        refine Ex.yes (decide_eq_true (by omega)) (Ex.guard (by simp; omega) (Ex.guard (by omega) ?_))
        rcases Nat.eq_zero_or_pos i with rfl | h0
        · have e : (t.getD 0 dnod).parent = -1 := h.rp
          rw [e]
          refine Ex.succ ?_
          simp only [impl_PathTo_L1]
          refine Ex.no (by decide) (Ex.ret ?_)
          rw [nix, ix, dif_neg (by omega)]; simp
        · have p := h.par i h0 hi
          have e : (t.getD i dnod).parent = (((pa t i).toNat : Nat) : Int) := by rw [Int.toNat_of_nonneg p.1]; rfl
          rw [e]
          have := ih _ p.2 (by omega) (r ++ ([(i : Int)].drop 0).take [(i : Int)].length) (by simp; omega)
          refine Ex.mono this ?_
          rintro x rfl
          rw [nix, nix, ix_pos h h0 hi]; simp
    have hlen := nix_len (t := t) k
    have := h.dep k hk
    refine Ex.be (a := (nix t k).reverse) ?_ (Ex.be (reverse_ex _ (by simp; omega)) (Ex.guard (by simp) (Ex.ret (by simp))))
    have := key k hk [] (by simp; omega)
    rwa [List.nil_append] at this

def ib (s : Str) : List Int := s.map fun b => ((b.toNat : Nat) : Int)
theorem ib_app (a b : Str) : ib (a ++ b) = ib a ++ ib b := by simp [ib]
theorem bytes_ib (s : Str) : bytesOf (ib s) = s := by
  induction s with
  | nil => rfl
  | cons a s ih =>
    have : bytesOf (ib (a :: s)) = UInt8.ofNat ((a.toNat : Int)).toNat :: bytesOf (ib s) := rfl
    rw [this, ih, Int.toNat_natCast, UInt8.ofNat_toNat]
theorem ib_ok (s : Str) : ∀ x ∈ ib s, 0 ≤ x ∧ x ≤ 255 := by
  intro x hx
  obtain ⟨b, _, rfl⟩ := List.mem_map.1 hx
  have := UInt8.toNat_lt b
  omega
theorem ib_len (s : Str) : (ib s).length = s.length := by simp [ib]
theorem wByte {s : Str} (hs : s.length ≤ 1000000000000) (c : UInt8) {i : Int} (hi : i = (c.toNat : Int)) : strings_Builder_WriteByte (ib s) i = some (ib (s ++ [c])) := by
  unfold strings_Builder_WriteByte
  rw [guardO_pos ⟨rfl, rfl, by simp [ib]; omega⟩, ib_app, hi]; rfl
theorem wStr {s r : Str} (hs : s.length + r.length ≤ 1000000000000) : strings_Builder_WriteString (ib s) r = some (ib (s ++ r), (r.length : Int)) := by
  unfold strings_Builder_WriteString
  rw [guardO_pos ⟨rfl, rfl, by simp [ib]; omega⟩, ib_app]; rfl
theorem bStr (s : Str) : strings_Builder_String (ib s) = some (s.length, s) := by
  unfold strings_Builder_String
  rw [guardO_pos ⟨rfl, ib_ok s⟩, bytes_ib, ib_len]

/-- the path of a node, as a text -/
def pathT (t : List Nod) (i : Int) : Str := if (decide (0 ≤ i ∧ i < t.length) && validT t) = true then ptx (np t i.toNat) else []
theorem pathT_of {t : List Nod} (h : VT t) {i : Nat} (hi : i < t.length) : pathT t i = ptx (np t i) := by
  rw [pathT, if_pos (by rw [decide_eq_true (by omega), validT_iff.2 h]; rfl), Int.toNat_natCast]
theorem implPathText_ex {t : List Nod} (hl : t.length ≤ 1000000000000) (i : Int) : Ex (fun n => impl_PathText n t i) (· = pathT t i) := by
  unfold impl_PathText
  refine Ex.be (implPathTo_ex hl i) ?_
  rw [pathT]
  cases hb : (decide (0 ≤ i ∧ i < t.length) && validT t) with
  | false => exact Ex.yes rfl (Ex.ret rfl)
  | true =>
    rw [if_pos rfl, if_pos rfl]
    simp only [Bool.and_eq_true, decide_eq_true_eq] at hb
    obtain ⟨⟨h0, h1⟩, hv⟩ := hb
    have h := validT_iff.1 hv
    obtain ⟨k, rfl⟩ : ∃ k : Nat, i = (k : Int) := ⟨i.toNat, by omega⟩
    rw [Int.toNat_natCast]
    have hk : k < t.length := by omega
    have hlen := nix_len (t := t) k
    have hlen2 : (ix t k).length = (nix t k).length := by simp [nix]
    have hd := h.dep k hk
    refine Ex.no (decide_eq_false (by omega)) ?_
    rcases Nat.eq_zero_or_pos k with rfl | hk0
    · have : dp t 0 = 0 := by have := dp_le (t := t) 0; omega
      refine Ex.yes (decide_eq_true (by omega)) (Ex.ret ?_)
      rw [np_zero h]; rfl
    · have := dp_pos h hk0 hk
      refine Ex.no (decide_eq_false (by omega)) (Ex.guard (by omega) (Ex.be (a := ib (fm 47 (np t k))) ?_ (Ex.bc (bStr _) (Ex.ret ?_))))
      · refine up ((nix t k).length - 1) (fun j (x : List Int) => ∃ s : Str, x = ib s ∧ s ++ fm 47 (((ix t k).drop (1 + j)).map (nmo t)) = fm 47 (np t k) ∧ s.length ≤ 5 * j) (f := fun n s i' => impl_PathText_L1 t (nix t k) n s i') ?_ ?_ 0 [] (by omega) ⟨[], rfl, by rw [ix_names]; rfl, by simp⟩
        · rintro j _ hj ⟨s, rfl, h1, h2⟩ next
          obtain ⟨a1, a2⟩ := nix_at h hk (k := 1 + j) (by omega)
          have hnm : (nmo t ((ix t k).getD (1 + j) 0)).length ≤ 4 := by
            rcases Nat.eq_zero_or_pos ((ix t k).getD (1 + j) 0) with e | e
            · rw [e, h.rn]; simp
            · exact name_len (h.nam _ e a2)
          rw [nmo] at hnm
          simp only [impl_PathText_L1, Int.toNat_natCast, a1]
          refine Ex.yes (decide_eq_true (by omega)) (Ex.guard (by omega) (Ex.bc (wByte (by omega) 47 rfl) (Ex.guard (by omega) (Ex.bc (wStr (by simp only [List.length_append, List.length_singleton]; omega)) ?_))))
          rw [w64_succ (by omega)]
          refine next _ ⟨_, rfl, ?_, by simp only [List.length_append, List.length_singleton]; omega⟩
          rw [← h1, drop_at 0 (show 1 + j < (ix t k).length by omega), List.map_cons, fm_cons, nmo]
          simp [Nat.add_assoc]
        · rintro _ ⟨s, rfl, h1, h2⟩
          simp only [impl_PathText_L1]
          refine Ex.no (decide_eq_false (by omega)) (Ex.ret ?_)
          rw [← h1, List.drop_eq_nil_of_le (by omega)]; simp [fm_nil]
      · rw [ptx, if_neg (by rw [np_nil h hk]; omega)]
end Go.Proofs.Ythlfcfcfipahiaa
