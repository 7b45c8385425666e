/- From what a function does to a law's statement: the law reads its arguments alone and answers true. Conditions: none. -/
import Derived.Test.YtghdgncfcfdlfaaGreatDoorTLzb
import Derived.Test.YtghdgncfcfdlfaaGreatDoorTLt
import Derived.OpenShut
import Derived.OpenVars
namespace Go.Proofs.YtghdgncfcfdlfaaGreatDoor
open Go Go.ChangeShapes Go.WideShapes Go.ChangeAt Go.RowKit
set_option linter.unusedVariables false

/-- package variables read behind a call as before it -/
theorem vars_behind {H : Type} {enc : TypeId × Value → H} {P : Program} (hl : laidOutB P = true) {W W' : World} (hb : Below W.heap.size W W') {sp : Nat → Bool} : ∀ {ns : List String} {gs : List (DataW H)} {ps : List MemPlace},
  varsRowed P ns = true → DataW.TrodVars enc P W (fun _ => true) ns gs ps → (∀ p ∈ ps, sp p.block = true) → DataW.TrodVars enc P W' sp ns gs ps := by
 intro ns
 induction ns with
 | nil =>
  intro gs ps _ h _
  cases gs with
  | nil => exact h
  | cons _ _ => exact h.elim
 | cons n ns ih =>
  intro gs ps hv h hs
  cases gs with
  | nil => exact h.elim
  | cons d ds =>
   have hlt := h.lt
   obtain ⟨g, t, cs, fuel, p, q, k1, k2, k3, k4, k5, rfl⟩ := h
   simp only [varsRowed, List.all_cons, Bool.and_eq_true] at hv
   obtain ⟨gl, hgl, rfl⟩ : ∃ gl, P.globals[g]? = some gl ∧ gl.type = t := by
    cases hg : P.globals[g]? with
    | none => rw [hg] at k2; cases k2
    | some gl => rw [hg] at k2; exact ⟨gl, rfl, Option.some.inj k2⟩
   have hr : P.readableRec gl.type = true ∧ gl.type < P.types.size := by
    have := hv.1
    rw [k1] at this
    simpa [hgl] using this
   have hg : g < W.heap.size := by
    unfold World.var? at k3
    rw [k1] at k3
    simp only [Option.bind_some] at k3
    cases hh : W.heap[g]? with
    | none => rw [hh] at k3; cases k3
    | some o => exact (Array.getElem?_eq_some_iff.1 hh).1
   have k3' : W'.var? P n = some cs := by
    unfold World.var? at k3 ⊢
    rw [k1] at k3 ⊢
    simp only [Option.bind_some] at k3 ⊢
    rw [hb.block g hg]; exact k3
   exact ⟨g, gl.type, cs, fuel, p, q, k1, k2, k3', DataW.trod_stays (Go.kids_book hl hr.1) (Go.book_sized hr.1) (fun h => by cases h) ⟨hr.2, Go.book_self _⟩ k4
    (fun x hx => hb.same (hlt x (by simp [hx]))) (fun x hx => hs x (by simp [hx])), ih (by simpa [varsRowed] using hv.2) k5 (fun x hx => hs x (by simp [hx])), rfl⟩

theorem law_contractV {E : Env} {f : FuncId} {fn : Func} {s : ChangeSpec} {H : Type} {enc : TypeId × Value → H} (ks : List AK) (rt : TypeId) (ns : List String)
  (hfit : AK.fitAll E.P fn.params.toList ks = true) (hrt : fn.resultTypes = #[rt]) (hbool : E.P.underlying rt = some .bool) (hs : s.vars = ns) (hvr : varsRowed E.P ns = true)
  (hfn : ∀ ds gs : List (DataW H), ds.length = ks.length → gs.length = ns.length → s.fn H (ds ++ gs) = { results := [.lit (.bool true)], args := ds, vars := gs })
  (hl : laidOutB E.P = true) (hrd : fn.params.toList.all (fun t => E.P.readableRec t && Nat.blt t E.P.types.size) = true)
  (hF : ∀ as, All2 AD.isK as ks → FOk E f (AD.avs 0 as) (AD.blks as) (B true) (AD.blks as))
  (W : World) (base : Nat) (args : Array Value) (ds gs : List (DataW H)) (before : List MemPlace)
  (hval : ∀ (j : Nat) t v, fn.params[j]? = some t → args[j]? = some v → Value.okWide E.P W .any base t v)
  (hW : DataW.Whole enc E.P fn.params.toList s.vars false W args.toList ds gs before)
  (hG : ∀ (g : Nat) (R : RC) (xs : List R.A), E.G g = some ⟨R, xs⟩ → g < W.heap.size ∧ ∀ (k : Nat) (x : R.A), xs[k]? = some x → ∀ (o : Nat) (y : CV), (R.enc x)[o]? = some y → W.cell? ⟨g, k * R.sz + o, none⟩ = some y.val)
  (hK : ∀ w', Frm W (fun _ => False) w' → E.K w') :
  Calls E.P f args W fun e W' => ∃ v, e = .returned v ∧ s.post enc E.P fn false true false false W args v W' := by
 have hW' := hW
 have hlt := fun p hp => hW.lt p hp
 obtain ⟨p, q, hA, hV, rfl, hfz, hnd⟩ := hW
 rw [hs] at hV
 have hgl : gs.length = ns.length := by
  have e0 : ∀ {ns : List String} {gs : List (DataW H)} {ps : List MemPlace}, DataW.TrodVars enc E.P W (fun _ => true) ns gs ps → gs.length = ns.length := by
   intro ns
   induction ns with
   | nil => intro gs ps h; cases gs with
    | nil => rfl
    | cons _ _ => exact h.elim
   | cons n ns ih => intro gs ps h; cases gs with
    | nil => exact h.elim
    | cons d ds =>
     obtain ⟨_, _, _, _, _, _, _, _, _, _, hs, _⟩ := h
     simp [ih hs]
  exact e0 hV
 obtain ⟨as, θ, h1, h2, h3⟩ := open_all (base := base) hfit (fun j t v hj hv => hval j t v (by simpa using hj) (by simpa using hv)) hA
 have hR := hrel_rows (E := E) hG hK θ (AD.blks as) h2
 have ha := h3 [] [] rfl
 simp only [List.nil_append, List.length_nil] at ha
 have hlen : ds.length = ks.length := by
  have e1 : ∀ {ts : List TypeId} {vs : List Value} {ds : List (DataW H)} {ps : List MemPlace}, DataW.TrodAll enc E.P W 0 (fun _ => true) true ts vs ds ps → ds.length = ts.length := by
   intro ts
   induction ts with
   | nil => intro vs ds ps h; obtain ⟨rfl, rfl, rfl⟩ := trodAll_nil h; rfl
   | cons t ts ih =>
    intro vs ds ps h
    obtain ⟨v, vs', d, ds', a, b, rfl, rfl, rfl, _, h2⟩ := trodAll_cons h
    simp [ih h2]
  have e2 : ∀ {ts : List TypeId} {ks : List AK}, AK.fitAll E.P ts ks = true → ts.length = ks.length := by
   intro ts
   induction ts with
   | nil => intro ks h; cases ks with
    | nil => rfl
    | cons _ _ => cases h
   | cons t ts ih => intro ks h; cases ks with
    | nil => cases h
    | cons k ks =>
     simp only [AK.fitAll, Bool.and_eq_true] at h
     simp [ih h.2]
  rw [e1 hA, e2 hfit]
 refine (hF as h1 W _ θ args.toList hR ha).mono ?_
 rintro e W' ⟨v, θ', rfl, hv, hR'⟩
 refine ⟨v, rfl, ?_⟩
 have hvb : v = .bool true := hv
 subst hvb
 have hb : Below W.heap.size W W' := ⟨hR'.fr.os, hR'.fr.tape, hR'.fr.output, hR'.fr.size, fun k hk => hR'.fr.block k hk (fun h => h)⟩
 rw [List.all_eq_true] at hrd
 have hrd' : ∀ t ∈ fn.params.toList, E.P.readableRec t = true ∧ t < E.P.types.size := by
  intro t ht
  have := hrd t ht
  simp only [Bool.and_eq_true] at this
  exact ⟨this.1, Nat.le_of_ble_eq_true this.2⟩
 refine post_below (pa := p) (pv := q) hW' (fun _ _ _ => ?_) (fun sp hsp => ?_) (fun sp hsp => ?_) rfl hb (ok_one hrt rfl (okWide_bool_mk hbool _))
 ·rw [hfn ds gs hlen hgl, hrt]
  exact trodAll_cons_mk (shut_bool hbool _) trodAll_mk0
 ·rw [hfn ds gs hlen hgl]
  exact trodAll_below hl hb hrd' hA (fun p' hp => hlt p' (by simp [hp])) (fun p' hp => hsp p' (by simp [hp]))
 ·rw [hfn ds gs hlen hgl, hs]
  exact vars_behind hl hb hvr (hs ▸ hV) (fun p' hp => hsp p' (by simp [hp]))
theorem law_contract {E : Env} {f : FuncId} {fn : Func} {s : ChangeSpec} {H : Type} {enc : TypeId × Value → H} (ks : List AK) (rt : TypeId)
  (hfit : AK.fitAll E.P fn.params.toList ks = true) (hrt : fn.resultTypes = #[rt]) (hbool : E.P.underlying rt = some .bool) (hs : s.vars = [])
  (hfn : ∀ ds : List (DataW H), ds.length = ks.length → s.fn H ds = { results := [.lit (.bool true)], args := ds })
  (hl : laidOutB E.P = true) (hrd : fn.params.toList.all (fun t => E.P.readableRec t && Nat.blt t E.P.types.size) = true)
  (hF : ∀ as, All2 AD.isK as ks → FOk E f (AD.avs 0 as) (AD.blks as) (B true) (AD.blks as))
  (W : World) (base : Nat) (args : Array Value) (ds gs : List (DataW H)) (before : List MemPlace)
  (hval : ∀ (j : Nat) t v, fn.params[j]? = some t → args[j]? = some v → Value.okWide E.P W .any base t v)
  (hW : DataW.Whole enc E.P fn.params.toList s.vars false W args.toList ds gs before)
  (hG : ∀ (g : Nat) (R : RC) (xs : List R.A), E.G g = some ⟨R, xs⟩ → g < W.heap.size ∧ ∀ (k : Nat) (x : R.A), xs[k]? = some x → ∀ (o : Nat) (y : CV), (R.enc x)[o]? = some y → W.cell? ⟨g, k * R.sz + o, none⟩ = some y.val)
  (hK : ∀ w', Frm W (fun _ => False) w' → E.K w') :
  Calls E.P f args W fun e W' => ∃ v, e = .returned v ∧ s.post enc E.P fn false true false false W args v W' :=
 law_contractV ks rt [] hfit hrt hbool hs rfl (fun ds gs h1 h2 => by
  obtain rfl : gs = [] := List.eq_nil_of_length_eq_zero (by simpa using h2)
  rw [List.append_nil, hfn ds h1]) hl hrd hF W base args ds gs before hval hW hG hK
theorem isK_int {d : AD} (h : AD.isK d .int) : ∃ n, d = .int n ∧ (-9223372036854775808 ≤ n ∧ n ≤ 9223372036854775807) := by
 cases d with
 | int n => exact ⟨n, rfl, h⟩
 | _ => exact h.elim
theorem isK_str {d : AD} (h : AD.isK d .str) : ∃ s, d = .str s ∧ s.length ≤ maxLen := by
 cases d with
 | str n => exact ⟨n, rfl, h⟩
 | _ => exact h.elim
theorem isK_agg {d : AD} {R : RC} (h : AD.isK d (.agg R)) : ∃ x : R.A, d = .agg R x ∧ R.wf x := by
 cases d with
 | agg R' x => obtain ⟨rfl, h⟩ := h; exact ⟨x, rfl, h⟩
 | _ => exact h.elim
theorem isK_sl {d : AD} {R : RC} (h : AD.isK d (.sl R)) : ∃ xs : List R.A, d = .sl R xs ∧ (xs.length ≤ maxLen ∧ ∀ x ∈ xs, R.wf x) := by
 cases d with
 | sl R' xs => obtain ⟨rfl, h⟩ := h; exact ⟨xs, rfl, h⟩
 | _ => exact h.elim
end Go.Proofs.YtghdgncfcfdlfaaGreatDoor
