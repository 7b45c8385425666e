/- Plain facts: texts that mark. Conditions: none. -/
import Derived.Test.YthlfcfcfipahiaaP0
import Derived.Test.YthlfcfcfipahiaaTT
namespace Go.Proofs.Ythlfcfcfipahiaa
open Go

theorem markText_loop : ∀ (m : Nat) (i : Int) (s : Str), 0 ≤ i → i ≤ 9223372036854775807 → i < 10 ^ m → s.length + m ≤ 100 → Ex (fun n => laws_markText_L1 n i s) (fun r => r.length ≤ 100)
  | 0, i, s, h0, hs, h1, h2 => by
    refine Ex.succ ?_
    simp only [laws_markText_L1]
    exact Ex.no (decide_eq_false (by simp at h1; omega)) (Ex.ret (by omega))
  | m + 1, i, s, h0, hs, h1, h2 => by
    refine Ex.succ ?_
    simp only [laws_markText_L1]
    refine Ex.ite (fun hb => ?_) (fun hb => Ex.ret (by omega))
    have hl : (bytesOf (([(IntKind.u8.wrap (w64 (48 + (i.tmod 10))))].drop 0).take ([(IntKind.u8.wrap (w64 (48 + (i.tmod 10))))].length))).length = 1 := rfl
    refine Ex.guard (by rw [hl]; omega) ?_
    have hd : i.tdiv 10 = i / 10 := Int.tdiv_eq_ediv_of_nonneg h0
    have h4 : i / 10 < 10 ^ m := by
      rw [Int.pow_succ] at h1
      omega
    rw [hd, w64_id (by omega) (by omega)]
    exact markText_loop m _ _ (by omega) (by omega) h4 (by rw [List.length_append, hl]; omega)

theorem markText_ex {i : Int} (h0 : 0 ≤ i) (h1 : i ≤ 1000000000) : ∃ s : Str, Ex (fun n => laws_markText n i) (· = s) := by
  have : Ex (fun n => laws_markText n i) (fun _ => True) := by
    unfold laws_markText
    refine Ex.ite (fun _ => Ex.ret trivial) (fun _ => ?_)
    refine Ex.bind (markText_loop 11 i [] h0 (by omega) (by omega) (by simp)) (fun r hr => ?_)
    exact Ex.guard (by simp; omega) (Ex.ret trivial)
  obtain ⟨s, _, N, h⟩ := this
  exact ⟨s, s, rfl, N, h⟩
end Go.Proofs.Ythlfcfcfipahiaa
