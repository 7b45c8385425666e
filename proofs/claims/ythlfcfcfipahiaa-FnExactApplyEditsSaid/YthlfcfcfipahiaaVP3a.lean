/- Plain facts: what a further path asks for. Conditions: none. -/
import Derived.Test.YthlfcfcfipahiaaVPb
import Derived.Test.YthlfcfcfipahiaaV5
import Derived.Test.YthlfcfcfipahiaaLBa
namespace Go.Proofs.Ythlfcfcfipahiaa
open Go
set_option linter.unusedVariables false

theorem VT.nl {t : List Nod} (h : VT t) : NL t := by
  have hhi := h.hi
  refine ⟨by omega, fun x hx => ?_⟩
  obtain ⟨i, hi, rfl⟩ := List.mem_iff_getElem.1 hx
  have e2 : t[i].name = nmo t i := by rw [nmo, List.getD_eq_getElem?_getD, List.getElem?_eq_getElem hi]; rfl
  rw [e2]
  rcases Nat.eq_zero_or_pos i with rfl | h0
  · rw [h.rn]; simp
  · have := name_len (h.nam i h0 hi); omega
theorem VT.le {t : List Nod} (h : VT t) : t.length ≤ 400000000 := by have := h.hi; omega

theorem pre_len (t : List Nod) (k i : Nat) : (((List.range i).filter (kept t k)).map (moved t k)).length = cnt t k i := by rw [List.length_map]; rfl
def pairO (o : Option (List Nod)) : List Nod × Bool := match o with
  | some u => (u, true)
  | none => ([], false)
theorem getD_app {α : Type} {a b : List α} {d : α} (j : Nat) : (a ++ b).getD (a.length + j) d = b.getD j d := by
  rw [List.getD_eq_getElem?_getD, List.getElem?_append_right (by omega), List.getD_eq_getElem?_getD]
  congr 2; omega
theorem getD_left {α : Type} {a b : List α} {d : α} {j : Nat} (h : j < a.length) : (a ++ b).getD j d = a.getD j d := by
  rw [List.getD_eq_getElem?_getD, List.getElem?_append_left h, List.getD_eq_getElem?_getD]
theorem addT_fits {t : List Nod} (h : VT t) {x : Nod} : addT t x = if validT (t ++ [x]) = true then (t ++ [x], (t.length : Int), true) else ([], -1, false) := by
  rw [addT]
  by_cases hv : validT (t ++ [x]) = true
  · have := (validT_iff.1 hv).hi
    simp at this
    rw [if_pos ⟨validT_iff.2 h, by omega, hv⟩, if_pos hv]
  · rw [if_neg (fun h => hv h.2.2), if_neg hv]
theorem res_nohead {t : List Nod} (h : VT t) {s : Str} (hs : (47 : UInt8) ∉ s) : res t s = -1 := by
  cases s with
  | nil => rfl
  | cons c r => rw [res_desc h, if_neg (by rintro rfl; simp at hs)]
theorem pth_nohead {s : Str} (hs : (47 : UInt8) ∉ s) : pth s = none := by
  cases s with
  | nil => rfl
  | cons c r => rw [pth, if_neg (by rintro rfl; simp at hs)]
/-- the node that a further path asks for -/
theorem addP_up {t : List Nod} (h : VT t) {a b : Str} {v : Int} (hb : (47 : UInt8) ∉ b) (hn : resO t (a ++ 47 :: b) = none) :
    addP t (a ++ 47 :: b) v = if validT (t ++ [⟨if a = [] then 0 else res t a, b, v⟩]) = true ∧ 0 ≤ res (t ++ [⟨if a = [] then 0 else res t a, b, v⟩]) (a ++ 47 :: b) then some (t ++ [⟨if a = [] then 0 else res t a, b, v⟩]) else none := by
  have up : ∀ (p : Nat), p < t.length → a = fm 47 (np t p) → (if a = [] then (0 : Int) else res t a) = (p : Int) := by
    intro p hp e
    by_cases ha : a = []
    · rw [if_pos ha]
      have : np t p = [] := by
        cases hx : np t p with
        | nil => rfl
        | cons s l => rw [hx, fm_cons, ha] at e; cases e
      rw [(np_nil h hp).1 this]; rfl
    · rw [if_neg ha]
      have : a = ptx (np t p) := by rw [ptx, if_neg (fun h => ha (by rw [e, h]; rfl)), e]
      rw [this, res, resO_np h hp]; rfl
  cases e : addP t (a ++ 47 :: b) v with
  | some u =>
    obtain ⟨p, n, rfl, f, hs⟩ := (addP_iff h).1 e
    have hp : p < t.length := f.p1
    rw [ptx_snoc] at hs
    obtain ⟨rfl, rfl⟩ := last_uniq hb (name_no f.nam).1 hs
    rw [up p hp rfl]
    have h' := (fits_iff h).2 f
    have hr : resO (t ++ [⟨(p : Int), b, v⟩]) (fm 47 (np t p) ++ 47 :: b) = some t.length := by
      rw [resO_iff h']
      refine ⟨by simp, ?_⟩
      rw [app_np_last f.p0 f.p1, ← ptx_snoc]; rfl
    have hr2 : 0 ≤ res (t ++ [⟨(p : Int), b, v⟩]) (fm 47 (np t p) ++ 47 :: b) := by rw [res, hr]; simp [oi]
    rw [if_pos ⟨validT_iff.2 h', hr2⟩]
  | none =>
    rw [eq_comm, if_neg]
    rintro ⟨h1, h2⟩
    have h' := validT_iff.1 h1
    have f := (fits_iff h).1 h'
    rw [res] at h2
    cases e2 : resO (t ++ [⟨if a = [] then 0 else res t a, b, v⟩]) (a ++ 47 :: b) with
    | none => rw [e2] at h2; simp [oi] at h2
    | some k =>
      obtain ⟨k1, k2⟩ := (resO_iff h').1 e2
      have hk : k = t.length := by
        rcases Nat.lt_or_ge k t.length with h3 | h3
        · rw [app_np h3] at k2
          rw [(resO_iff h).2 ⟨h3, k2⟩] at hn; cases hn
        · simp at k1; omega
      subst hk
      rw [app_np_last f.p0 f.p1] at k2
      have hp0 := f.p0
      have := (addP_iff h (s := a ++ 47 :: b) (v := v) (u := t ++ [⟨if a = [] then 0 else res t a, b, v⟩])).2 ⟨(if a = [] then (0 : Int) else res t a).toNat, b, by rw [Int.toNat_of_nonneg hp0], by rw [Int.toNat_of_nonneg hp0]; exact f, k2.symm⟩
      rw [this] at e; cases e
end Go.Proofs.Ythlfcfcfipahiaa
