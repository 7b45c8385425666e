/- The abstract step of an operation is what the model does: operations that touch no memory. Conditions: none. -/
import Derived.Test.YtiboohplkihhnaaTLc
import Derived.Laws.Build
import Derived.Laws.Slices
import Derived.Laws.Strings
import Derived.Laws.Concat
namespace Go.Proofs.Ytiboohplkihhnaa
open Go

theorem ofCE_R {θ : List Loc} {H : List Blk} : ∀ {v : Value} {x : CE}, ofCE v = some x → x.R θ H v := by
  intro v x h
  unfold ofCE at h
  split at h <;> first | (cases h; rfl) | (cases h)

theorem ofCEs_R {θ : List Loc} {H : List Blk} : ∀ {vs : List Value} {xs : List CE}, ofCEs vs = some xs → All2 (CE.R θ H) xs vs
  | [], xs, h => by cases h; trivial
  | v :: l, xs, h => by
    unfold ofCEs at h
    split at h
    · rename_i x ys h1 h2
      cases h
      exact ⟨ofCE_R h1, ofCEs_R h2⟩
    · cases h

theorem ofV_R {θ : List Loc} {H : List Blk} {v : Value} {x : AG} (h : ofV v = some x) : x.R θ H v := by
  unfold ofV at h
  split at h
  · rename_i cs
    cases hc : ofCEs cs.toList with
    | none => rw [hc] at h; cases h
    | some l => rw [hc] at h; cases h; exact ⟨cs.toList, by simp, ofCEs_R hc⟩
  · cases hc : ofCE v with
    | none => rw [hc] at h; cases h
    | some l => rw [hc] at h; cases h; exact ofCE_R (x := l) hc

theorem ev_R {E : Env} {Γ : Ctx} {θ : List Loc} {st : St} {a : Act} {w : World} (hr : Rel E Γ θ st a w) {x : Operand} {v : AV} (h : ev st x = some v) : v.R θ st.H (a.eval x) := by
  cases x with
  | tmp t => exact hr.tm t v h
  | const c =>
    simp only [ev] at h
    cases hc : ofV c with
    | none => rw [hc] at h; cases h
    | some g => rw [hc] at h; cases h; exact ofV_R hc
  | global g => cases h; rfl
  | func f => cases h; exact ⟨[], rfl, trivial⟩

theorem int_R {θ : List Loc} {H : List Blk} {k : IntKind} {n : Int} {v : Value} (h : (AV.one (.e (.c (.int k n)))).R θ H v) : v = .int k n := h
theorem str_R {θ : List Loc} {H : List Blk} {s : List UInt8} {v : Value} (h : (AV.one (.e (.c (.str s)))).R θ H v) : v = .string ⟨⟨s⟩⟩ := h
theorem bool_R {θ : List Loc} {H : List Blk} {b : Bool} {v : Value} (h : (AV.one (.e (.c (.bool b)))).R θ H v) : v = .bool b := h

theorem bytes_toList (s : List UInt8) : (⟨⟨s⟩⟩ : ByteArray).toList = s := by
  rw [ByteArray.toList_eq]

section
variable {E : Env} {θ : List Loc} {H H' : List Blk} {w : World}

theorem binI_good {op : BinOp} {k : IntKind} {t : TypeId} {xo yo : Operand} {a b : Int} {φ : Prop} {v : AV} (h : binI H op k a b = some (φ, v, H')) (hφ : φ) :
    H' = H ∧ ∃ z, (do eqGuard op t xo yo (.int k a) (.int k b); binOp op t (.int k a) (.int k b)).run E.P w = .ok z w ∧ v.R θ H z := by
  cases op <;> simp only [binI, outC, Option.some.injEq, Prod.mk.injEq, reduceCtorEq] at h <;> obtain ⟨rfl, rfl, rfl⟩ := h <;> refine ⟨rfl, _, ?_, rfl⟩ <;>
    simp_all [eqGuard, binOp, Op.intArith, Op.intCmp, Op.intDiv, Op.intBits, CV.val] <;> rfl

theorem bytes_append (x y : List UInt8) : (⟨⟨x⟩⟩ ++ ⟨⟨y⟩⟩ : ByteArray) = ⟨⟨x ++ y⟩⟩ := by
  apply ByteArray.ext
  simp

theorem beq_eq_decide_list (a b : List UInt8) : (a == b) = decide (a = b) := by
  rw [Bool.eq_iff_iff]; simp

theorem binStr_good {op : BinOp} {t : TypeId} {xo yo : Operand} {a b : List UInt8} {φ : Prop} {v : AV} (h : binStr H op a b = some (φ, v, H')) (hφ : φ) :
    H' = H ∧ ∃ z, (do eqGuard op t xo yo (.string ⟨⟨a⟩⟩) (.string ⟨⟨b⟩⟩); binOp op t (.string ⟨⟨a⟩⟩) (.string ⟨⟨b⟩⟩)).run E.P w = .ok z w ∧ v.R θ H z := by
  cases op <;> simp only [binStr, outC, Option.some.injEq, Prod.mk.injEq, reduceCtorEq] at h <;> obtain ⟨rfl, rfl, rfl⟩ := h <;> refine ⟨rfl, _, ?_, rfl⟩
  · have hs : ¬ (((⟨⟨a⟩⟩ : ByteArray).size + (⟨⟨b⟩⟩ : ByteArray).size : Nat) : Int) > IntKind.i64.max := by
      have h1 : (⟨⟨a⟩⟩ : ByteArray).size = a.length := rfl
      have h2 : (⟨⟨b⟩⟩ : ByteArray).size = b.length := rfl
      rw [h1, h2]
      simp only [IntKind.max, IntKind.signed, IntKind.bits, if_true]
      omega
    simp only [eqGuard, binOp, Op.stringOp, Sem.run_bind]
    rw [if_neg hs]
    simp [CV.val, bytes_append]
  all_goals simp [eqGuard, binOp, Op.stringOp, CV.val, beq_eq_decide_list]

theorem equalIn_bool (d : Nat) {t : TypeId} {a b : Bool} (hu : E.P.underlying t = some .bool) : (Op.equalIn (d + 1) t (.bool a) (.bool b)).run E.P w = .ok (a == b) w := by
  rw [Op.equalIn, Sem.run_bind, run_underlying hu, Result.andThen_ok]
  rfl
theorem equalIn_nil_nil (d : Nat) {t : TypeId} {ms : Array (String × TypeId)} (hu : E.P.underlying t = some (.interface ms)) : (Op.equalIn (d + 1) t .nilIface .nilIface).run E.P w = .ok true w := by
  rw [Op.equalIn, Sem.run_bind, run_underlying hu, Result.andThen_ok]
  rfl
theorem equalIn_nil_err (d : Nat) {t s : TypeId} {v : Value} {ms : Array (String × TypeId)} (hu : E.P.underlying t = some (.interface ms)) : (Op.equalIn (d + 1) t .nilIface (.iface s v)).run E.P w = .ok false w := by
  rw [Op.equalIn, Sem.run_bind, run_underlying hu, Result.andThen_ok]
  rfl
theorem equalIn_err_nil (d : Nat) {t s : TypeId} {v : Value} {ms : Array (String × TypeId)} (hu : E.P.underlying t = some (.interface ms)) : (Op.equalIn (d + 1) t (.iface s v) .nilIface).run E.P w = .ok false w := by
  rw [Op.equalIn, Sem.run_bind, run_underlying hu, Result.andThen_ok]
  rfl
theorem equal_bool {t : TypeId} {a b : Bool} (hu : E.P.underlying t = some .bool) : (Op.equal t (.bool a) (.bool b)).run E.P w = .ok (a == b) w := equalIn_bool 9999 hu
theorem equal_nil_nil {t : TypeId} {ms : Array (String × TypeId)} (hu : E.P.underlying t = some (.interface ms)) : (Op.equal t .nilIface .nilIface).run E.P w = .ok true w := equalIn_nil_nil 9999 hu
theorem equal_nil_err {t s : TypeId} {v : Value} {ms : Array (String × TypeId)} (hu : E.P.underlying t = some (.interface ms)) : (Op.equal t .nilIface (.iface s v)).run E.P w = .ok false w := equalIn_nil_err 9999 hu
theorem equal_err_nil {t s : TypeId} {v : Value} {ms : Array (String × TypeId)} (hu : E.P.underlying t = some (.interface ms)) : (Op.equal t (.iface s v) .nilIface).run E.P w = .ok false w := equalIn_err_nil 9999 hu

theorem binB_good {op : BinOp} {t : TypeId} {xo yo : Operand} {a b : Bool} {φ : Prop} {v : AV} (h : binB E H op t a b = some (φ, v, H')) (hφ : φ) :
    H' = H ∧ ∃ z, (do eqGuard op t xo yo (.bool a) (.bool b); binOp op t (.bool a) (.bool b)).run E.P w = .ok z w ∧ v.R θ H z := by
  unfold binB at h
  split at h
  all_goals first
    | (rename_i hu
       simp only [outC, Option.some.injEq, Prod.mk.injEq] at h
       obtain ⟨rfl, rfl, rfl⟩ := h
       refine ⟨rfl, _, ?_, rfl⟩
       simp [eqGuard, binOp, equal_bool hu, CV.val])
    | cases h

end

theorem CEs_cv_map : ∀ {l : List CE} {cv : List CV}, CEs.cv l = some cv → l = cv.map .c
  | [], cv, h => by cases h; rfl
  | .c x :: l, cv, h => by
    unfold CEs.cv at h
    split at h
    · rename_i xs hx
      cases h
      rw [CEs_cv_map hx]; rfl
    · cases h
  | .p _ _ :: _, cv, h => by cases h
  | .rp _ _ _ :: _, cv, h => by cases h
  | .sl _ _ _ :: _, cv, h => by cases h
  | .nsl :: _, cv, h => by cases h
  | .nilp :: _, cv, h => by cases h
  | .nif :: _, cv, h => by cases h
  | .err :: _, cv, h => by cases h
  | .gp _ _ :: _, cv, h => by cases h
  | .sp _ _ :: _, cv, h => by cases h
  | .sd _ :: _, cv, h => by cases h
  | .bsl _ _ :: _, cv, h => by cases h
  | .junk :: _, cv, h => by cases h

theorem All2_cv {θ : List Loc} {H : List Blk} : ∀ {cv : List CV} {vs : List Value}, All2 (CE.R θ H) (cv.map .c) vs → vs = cv.map CV.val
  | [], [], _ => rfl
  | _ :: cv, _ :: vs, h => by rw [List.map_cons, All2_cv h.2, h.1]
  | [], _ :: _, h => h.elim
  | _ :: _, [], h => h.elim

section
variable {E : Env} {θ : List Loc} {H H' : List Blk} {w : World}

theorem equalIn_cv (d : Nat) {t : TypeId} {x y : CV} {b : Bool} (h : eqCV E.P t x y = some b) : (Op.equalIn (d + 1) t x.val y.val).run E.P w = .ok b w := by
  unfold eqCV at h
  split at h
  · split at h
    · rename_i hu
      split at h
      · rename_i hk
        subst hk
        cases h
        rw [Op.equalIn, Sem.run_bind, run_underlying hu, Result.andThen_ok]
        simp [CV.val]
        rfl
      · cases h
    · cases h
  · split at h
    · rename_i hu
      cases h
      exact equalIn_bool d hu
    · cases h
  · split at h
    · rename_i a b _ hu
      cases h
      rw [Op.equalIn, Sem.run_bind, run_underlying hu, Result.andThen_ok]
      have e : ((⟨⟨a⟩⟩ : ByteArray) == ⟨⟨b⟩⟩) = decide (a = b) := by
        show ((⟨a⟩ : Array UInt8) == ⟨b⟩) = decide (a = b)
        rw [Bool.eq_iff_iff, beq_iff_eq, decide_eq_true_eq]
        simp
      simp [CV.val, e]
    · cases h
  · cases h

theorem part_cv {t : TypeId} {x y : CV} {b : Bool} (h : eqCV E.P t x y = some b) {xs : List Value} {o : Nat} {z : CV} (hz : xs[o]? = some z.val) : (part t ⟨xs⟩ o).run E.P w = .ok z.val w := by
  have : (isAgg t).run E.P w = .ok false w := by
    unfold eqCV at h
    split at h
    all_goals first
      | (split at h
         · rename_i hu
           simp only [isAgg, Sem.run_bind, run_underlying hu, Result.andThen_ok]; rfl
         · cases h)
      | cases h
  simp [part, Sem.run_bind, this, hz]

theorem run_fields (d : Nat) {xs ys : List CV} : ∀ (fs : List Field) (o : Nat) (l m : List CV) (b : Bool), eqFs E.P o fs l m = some b → l = xs.drop o → m = ys.drop o →
    (forIn (m := Sem) fs (none, ()) (fun (f : Field) (_ : Option Bool × Unit) => if f.name ≠ "_" then do
              let p ← part f.type { toList := List.map CV.val xs } f.offset
              let q ← part f.type { toList := List.map CV.val ys } f.offset
              let r ← Op.equalIn (d + 1) f.type p q
              if (!r) = true then pure (ForInStep.done (some false, ())) else pure (ForInStep.yield (none, ()))
            else pure (ForInStep.yield (none, ())))).run E.P w = .ok (if b = true then (none, ()) else (some false, ())) w
  | [], o, l, m, b, h, _, _ => by
    cases l <;> cases m <;> simp [eqFs] at h
    subst h
    simp
  | f :: fs, o, l, m, b, h, hl, hm => by
    cases l with
    | nil => simp [eqFs] at h
    | cons x l => cases m with
      | nil => simp [eqFs] at h
      | cons y m =>
        unfold eqFs at h
        split at h
        · rename_i hc
          simp only [Bool.and_eq_true, Nat.beq_eq, bne_iff_ne, ne_eq] at hc
          obtain ⟨h1, h2, h3⟩ := hc
          split at h
          · rename_i p q hp hq
            cases h
            have hx : (xs.map CV.val)[o]? = some x.val := by
              rw [List.getElem?_map]
              have : xs[o]? = (xs.drop o)[0]? := by simp
              rw [this, ← hl]; rfl
            have hy : (ys.map CV.val)[o]? = some y.val := by
              rw [List.getElem?_map]
              have : ys[o]? = (ys.drop o)[0]? := by simp
              rw [this, ← hm]; rfl
            have hp' : eqCV E.P f.type y x = some p := by
              unfold eqCV at hp ⊢
              cases x <;> cases y <;> simp only at hp ⊢ <;> first | cases hp | skip
              · split at hp
                · split at hp
                  · rename_i hk
                    subst hk
                    cases hp
                    simp only [if_true, Option.some.injEq, decide_eq_decide]
                    exact eq_comm
                  · cases hp
                · cases hp
              · split at hp
                · cases hp
                  simp [Bool.beq_comm]
                · cases hp
              · split at hp
                · cases hp
                  simp only [Option.some.injEq, decide_eq_decide]
                  exact eq_comm
                · cases hp
            have e1 := part_cv (E := E) (w := w) hp hx
            have e2 := part_cv (E := E) (w := w) hp' hy
            have e3 := equalIn_cv (E := E) (w := w) d hp
            rw [List.forIn_cons]
            have hn : (f.name ≠ "_") = True := by simp [h3]
            simp only [hn, if_true, h1, Sem.run_bind, e1, e2, e3, Result.andThen_ok]
            cases p with
            | false => simp
            | true =>
              simp only [Bool.not_true, Bool.false_eq_true, if_false, Sem.run_pure, Result.andThen_ok, Bool.true_and]
              exact run_fields d fs (o + 1) l m q hq (by rw [← List.tail_drop, ← hl]; rfl) (by rw [← List.tail_drop, ← hm]; rfl)
          · cases h
        · cases h

theorem equalIn_agg (d : Nat) {t : TypeId} {fs : Array Field} {l m : List CV} {b : Bool} (hu : E.P.underlying t = some (.struct fs)) (hs : E.P.stoodInHeld t = false) (h : eqFs E.P 0 fs.toList l m = some b) :
    (Op.equalIn (d + 2) t (.agg ⟨l.map CV.val⟩) (.agg ⟨m.map CV.val⟩)).run E.P w = .ok b w := by
  rw [Op.equalIn, Sem.run_bind, run_underlying hu, Result.andThen_ok]
  simp only [Sem.run_bind, run_program, Result.andThen_ok, hs, Bool.false_eq_true, if_false]
  rw [← Array.forIn_toList, run_fields (E := E) (w := w) d fs.toList 0 l m b h rfl rfl]
  cases b <;> simp
theorem binAgg_good {op : BinOp} {t : TypeId} {xo yo : Operand} {l m : List CE} {x y : Value} {φ : Prop} {v : AV} (h : binAgg E H op t l m = some (φ, v, H')) (ha : (AV.one (.agg l)).R θ H x) (hb : (AV.one (.agg m)).R θ H y) :
    H' = H ∧ ∃ z, (do eqGuard op t xo yo x y; binOp op t x y).run E.P w = .ok z w ∧ v.R θ H z := by
  unfold binAgg at h
  split at h
  case h_2 => cases h
  rename_i fs cx cy hu hx hy
  have e1 := CEs_cv_map hx
  have e2 := CEs_cv_map hy
  subst e1; subst e2
  obtain ⟨vs, rfl, h1⟩ := ha
  obtain ⟨us, rfl, h2⟩ := hb
  have e1 := All2_cv h1
  have e2 := All2_cv h2
  subst e1; subst e2
  split at h
  · cases h
  rename_i hc
  simp only [Bool.or_eq_true, not_or, Bool.not_eq_true] at hc
  split at h
  case h_2 => cases h
  rename_i b hb
  have he : (Op.equal t (.agg ⟨cx.map CV.val⟩) (.agg ⟨cy.map CV.val⟩)).run E.P w = .ok b w := equalIn_agg 9998 hu hc.1 hb
  split at h
  all_goals first
    | (simp only [outC, Option.some.injEq, Prod.mk.injEq] at h
       obtain ⟨rfl, rfl, rfl⟩ := h
       refine ⟨rfl, _, ?_, rfl⟩
       simp [eqGuard, binOp, hc.2, he, CV.val])
    | cases h

theorem binS_good {op : BinOp} {t : TypeId} {xo yo : Operand} {a b : AV} {x y : Value} {φ : Prop} {v : AV} (h : binS E H op t a b = some (φ, v, H')) (hφ : φ) (ha : a.R θ H x) (hb : b.R θ H y) :
    H' = H ∧ ∃ z, (do eqGuard op t xo yo x y; binOp op t x y).run E.P w = .ok z w ∧ v.R θ H z := by
  unfold binS at h
  split at h
  · split at h
    · rename_i k a k' b hk
      subst hk
      cases ha; cases hb
      exact binI_good h hφ
    · cases h
  · cases ha; cases hb
    exact binStr_good h hφ
  · cases ha; cases hb
    exact binB_good h hφ
  · exact binAgg_good h ha hb
  · obtain ⟨ty, vy, rfl⟩ := hb
    cases ha
    split at h
    all_goals first
      | (rename_i hu
         simp only [outC, Option.some.injEq, Prod.mk.injEq] at h
         obtain ⟨rfl, rfl, rfl⟩ := h
         refine ⟨rfl, _, ?_, rfl⟩
         simp [eqGuard, binOp, equal_nil_err hu, CV.val])
      | cases h
  · obtain ⟨ty, vy, rfl⟩ := ha
    cases hb
    split at h
    all_goals first
      | (rename_i hu
         simp only [outC, Option.some.injEq, Prod.mk.injEq] at h
         obtain ⟨rfl, rfl, rfl⟩ := h
         refine ⟨rfl, _, ?_, rfl⟩
         simp [eqGuard, binOp, equal_err_nil hu, CV.val])
      | cases h
  · cases h

theorem binNil_good {op : BinOp} {t : TypeId} {xo yo : Operand} {a : AV} {ac : Act} {x : Value} {φ : Prop} {v : AV} (h : binNil E H op t yo a = some (φ, v, H')) (ha : a.R θ H x) :
    H' = H ∧ ∃ z, (do eqGuard op t xo yo x (ac.eval yo); binOp op t x (ac.eval yo)).run E.P w = .ok z w ∧ v.R θ H z := by
  unfold binNil at h
  split at h
  · cases ha
    split at h
    · split at h
      all_goals first
        | (rename_i hu
           simp only [outC, Option.some.injEq, Prod.mk.injEq] at h
           obtain ⟨rfl, rfl, rfl⟩ := h
           refine ⟨rfl, _, ?_, rfl⟩
           simp [eqGuard, binOp, equal_nil_nil hu, CV.val, Act.eval])
        | cases h
    · cases h
  · cases h

theorem unS_good {op : UnOp} {a : AV} {x : Value} {φ : Prop} {v : AV} (h : unS H op a = some (φ, v, H')) (ha : a.R θ H x) :
    H' = H ∧ ∃ z, (Op.unary op x).run E.P w = .ok z w ∧ v.R θ H z := by
  unfold unS at h
  split at h
  · cases ha
    split at h
    · simp only [outC, Option.some.injEq, Prod.mk.injEq] at h
      obtain ⟨rfl, rfl, rfl⟩ := h
      exact ⟨rfl, _, rfl, rfl⟩
    · cases h
  · cases ha
    split at h
    · simp only [outC, Option.some.injEq, Prod.mk.injEq] at h
      obtain ⟨rfl, rfl, rfl⟩ := h
      exact ⟨rfl, _, rfl, rfl⟩
    · cases h
  · cases h

end
end Go.Proofs.Ytiboohplkihhnaa
