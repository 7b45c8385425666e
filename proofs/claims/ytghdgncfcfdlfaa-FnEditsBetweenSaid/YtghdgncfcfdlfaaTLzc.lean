/- From what a function does to a law's statement: the law reads its arguments alone and answers true. Conditions: none. -/
import Derived.Test.YtghdgncfcfdlfaaTLzb
import Derived.Test.YtghdgncfcfdlfaaTLt
import Derived.OpenShut
namespace Go.Proofs.Ytghdgncfcfdlfaa
open Go Go.ChangeShapes Go.WideShapes Go.ChangeAt Go.RowKit
set_option linter.unusedVariables false

theorem law_contract {E : Env} {f : FuncId} {fn : Func} {s : ChangeSpec} {H : Type} {enc : TypeId × Value → H} (ks : List AK) (rt : TypeId)
    (hfit : AK.fitAll E.P fn.params.toList ks = true) (hrt : fn.resultTypes = #[rt]) (hbool : E.P.underlying rt = some .bool) (hs : s.vars = [])
    (hfn : ∀ ds : List (DataW H), ds.length = ks.length → s.fn H ds = { results := [.lit (.bool true)], args := ds })
    (hl : laidOutB E.P = true) (hrd : fn.params.toList.all (fun t => E.P.readableRec t && Nat.blt t E.P.types.size) = true)
    (hF : ∀ as, All2 AD.isK as ks → FOk E f (AD.avs 0 as) (AD.blks as) (B true) (AD.blks as))
    (W : World) (base : Nat) (args : Array Value) (ds gs : List (DataW H)) (before : List MemPlace)
    (hval : ∀ (j : Nat) t v, fn.params[j]? = some t → args[j]? = some v → Value.okWide E.P W .any base t v)
    (hW : DataW.Whole enc E.P fn.params.toList s.vars false W args.toList ds gs before)
    (hG : ∀ (g : Nat) (R : RC) (xs : List R.A), E.G g = some ⟨R, xs⟩ → g < W.heap.size ∧ ∀ (k : Nat) (x : R.A), xs[k]? = some x → ∀ (o : Nat) (y : CV), (R.enc x)[o]? = some y → W.cell? ⟨g, k * R.sz + o, none⟩ = some y.val) :
    Calls E.P f args W fun e W' => ∃ v, e = .returned v ∧ s.post enc E.P fn false true false false W args v W' := by
  have hW' := hW
  have hlt := fun p hp => hW.lt p hp
  obtain ⟨p, q, hA, hV, rfl, hfz, hnd⟩ := hW
  rw [hs] at hV
  obtain ⟨rfl, rfl⟩ := trodVars_none hV
  obtain ⟨as, θ, h1, h2, h3⟩ := open_all (base := base) hfit (fun j t v hj hv => hval j t v (by simpa using hj) (by simpa using hv)) hA
  have hR := hrel_rows (E := E) hG θ (AD.blks as) h2
  have ha := h3 [] [] rfl
  simp only [List.nil_append, List.length_nil] at ha
  have hlen : ds.length = ks.length := by
    have e1 : ∀ {ts : List TypeId} {vs : List Value} {ds : List (DataW H)} {ps : List MemPlace}, DataW.TrodAll enc E.P W 0 (fun _ => true) true ts vs ds ps → ds.length = ts.length := by
      intro ts
      induction ts with
      | nil => intro vs ds ps h; obtain ⟨rfl, rfl, rfl⟩ := trodAll_nil h; rfl
      | cons t ts ih =>
        intro vs ds ps h
        obtain ⟨v, vs', d, ds', a, b, rfl, rfl, rfl, _, h2⟩ := trodAll_cons h
        simp [ih h2]
    have e2 : ∀ {ts : List TypeId} {ks : List AK}, AK.fitAll E.P ts ks = true → ts.length = ks.length := by
      intro ts
      induction ts with
      | nil => intro ks h; cases ks with
        | nil => rfl
        | cons _ _ => cases h
      | cons t ts ih => intro ks h; cases ks with
        | nil => cases h
        | cons k ks =>
          simp only [AK.fitAll, Bool.and_eq_true] at h
          simp [ih h.2]
    rw [e1 hA, e2 hfit]
  refine (hF as h1 W _ θ args.toList hR ha).mono ?_
  rintro e W' ⟨v, θ', rfl, hv, hR'⟩
  refine ⟨v, rfl, ?_⟩
  have hvb : v = .bool true := hv
  subst hvb
  have hb : Below W.heap.size W W' := ⟨hR'.fr.os, hR'.fr.tape, hR'.fr.output, hR'.fr.size, fun k hk => hR'.fr.block k hk (fun h => h)⟩
  rw [List.all_eq_true] at hrd
  have hrd' : ∀ t ∈ fn.params.toList, E.P.readableRec t = true ∧ t < E.P.types.size := by
    intro t ht
    have := hrd t ht
    simp only [Bool.and_eq_true] at this
    exact ⟨this.1, Nat.le_of_ble_eq_true this.2⟩
  refine post_below (pa := p) (pv := []) hW' (fun _ _ _ => ?_) (fun sp hsp => ?_) (fun sp _ => ?_) rfl hb (ok_one hrt rfl (okWide_bool_mk hbool _))
  · rw [List.append_nil, hfn ds hlen, hrt]
    exact trodAll_cons_mk (shut_bool hbool _) trodAll_mk0
  · rw [List.append_nil, hfn ds hlen]
    exact trodAll_below hl hb hrd' hA (fun p hp => hlt p (by simpa using hp)) (fun p hp => hsp p (by simpa using hp))
  · rw [List.append_nil, hfn ds hlen, hs]
    rfl
theorem isK_int {d : AD} (h : AD.isK d .int) : ∃ n, d = .int n ∧ (-9223372036854775808 ≤ n ∧ n ≤ 9223372036854775807) := by
  cases d with
  | int n => exact ⟨n, rfl, h⟩
  | _ => exact h.elim
theorem isK_str {d : AD} (h : AD.isK d .str) : ∃ s, d = .str s ∧ s.length ≤ maxLen := by
  cases d with
  | str n => exact ⟨n, rfl, h⟩
  | _ => exact h.elim
theorem isK_agg {d : AD} {R : RC} (h : AD.isK d (.agg R)) : ∃ x : R.A, d = .agg R x ∧ R.wf x := by
  cases d with
  | agg R' x => obtain ⟨rfl, h⟩ := h; exact ⟨x, rfl, h⟩
  | _ => exact h.elim
theorem isK_sl {d : AD} {R : RC} (h : AD.isK d (.sl R)) : ∃ xs : List R.A, d = .sl R xs ∧ (xs.length ≤ maxLen ∧ ∀ x ∈ xs, R.wf x) := by
  cases d with
  | sl R' xs => obtain ⟨rfl, h⟩ := h; exact ⟨xs, rfl, h⟩
  | _ => exact h.elim
end Go.Proofs.Ytghdgncfcfdlfaa
