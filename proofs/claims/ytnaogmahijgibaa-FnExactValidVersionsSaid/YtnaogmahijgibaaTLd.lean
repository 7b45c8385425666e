/- The abstract step of an operation is what the model does: operations that touch no memory. Conditions: none. -/
import Derived.Test.YtnaogmahijgibaaTLc
import Derived.Laws.Build
import Derived.Laws.Slices
import Derived.Laws.Strings
import Derived.Laws.Concat
namespace Go.Proofs.Ytnaogmahijgibaa
open Go

theorem ofCE_R {θ : List Loc} {H : List Blk} : ∀ {v : Value} {x : CE}, ofCE v = some x → x.R θ H v := by
  intro v x h
  unfold ofCE at h
  split at h <;> first | (cases h; rfl) | (cases h)

theorem ofCEs_R {θ : List Loc} {H : List Blk} : ∀ {vs : List Value} {xs : List CE}, ofCEs vs = some xs → All2 (CE.R θ H) xs vs
  | [], xs, h => by cases h; trivial
  | v :: l, xs, h => by
    unfold ofCEs at h
    split at h
    · rename_i x ys h1 h2
      cases h
      exact ⟨ofCE_R h1, ofCEs_R h2⟩
    · cases h

theorem ofV_R {θ : List Loc} {H : List Blk} {v : Value} {x : AG} (h : ofV v = some x) : x.R θ H v := by
  unfold ofV at h
  split at h
  · rename_i cs
    cases hc : ofCEs cs.toList with
    | none => rw [hc] at h; cases h
    | some l => rw [hc] at h; cases h; exact ⟨cs.toList, by simp, ofCEs_R hc⟩
  · cases hc : ofCE v with
    | none => rw [hc] at h; cases h
    | some l => rw [hc] at h; cases h; exact ofCE_R (x := l) hc

theorem ev_R {E : Env} {Γ : Ctx} {θ : List Loc} {st : St} {a : Act} {w : World} (hr : Rel E Γ θ st a w) {x : Operand} {v : AV} (h : ev st x = some v) : v.R θ st.H (a.eval x) := by
  cases x with
  | tmp t => exact hr.tm t v h
  | const c =>
    simp only [ev] at h
    cases hc : ofV c with
    | none => rw [hc] at h; cases h
    | some g => rw [hc] at h; cases h; exact ofV_R hc
  | global g => cases h; rfl
  | func f => cases h; exact ⟨[], rfl, trivial⟩

theorem int_R {θ : List Loc} {H : List Blk} {k : IntKind} {n : Int} {v : Value} (h : (AV.one (.e (.c (.int k n)))).R θ H v) : v = .int k n := h
theorem str_R {θ : List Loc} {H : List Blk} {s : List UInt8} {v : Value} (h : (AV.one (.e (.c (.str s)))).R θ H v) : v = .string ⟨⟨s⟩⟩ := h
theorem bool_R {θ : List Loc} {H : List Blk} {b : Bool} {v : Value} (h : (AV.one (.e (.c (.bool b)))).R θ H v) : v = .bool b := h

theorem bytes_toList (s : List UInt8) : (⟨⟨s⟩⟩ : ByteArray).toList = s := by
  rw [ByteArray.toList_eq]

section
variable {E : Env} {θ : List Loc} {H H' : List Blk} {w : World}

theorem binI_good {op : BinOp} {k : IntKind} {t : TypeId} {xo yo : Operand} {a b : Int} {φ : Prop} {v : AV} (h : binI H op k a b = some (φ, v, H')) (hφ : φ) :
    H' = H ∧ ∃ z, (do eqGuard op t xo yo (.int k a) (.int k b); binOp op t (.int k a) (.int k b)).run E.P w = .ok z w ∧ v.R θ H z := by
  cases op <;> simp only [binI, outC, Option.some.injEq, Prod.mk.injEq, reduceCtorEq] at h <;> obtain ⟨rfl, rfl, rfl⟩ := h <;> refine ⟨rfl, _, ?_, rfl⟩ <;>
    simp_all [eqGuard, binOp, Op.intArith, Op.intCmp, Op.intDiv, Op.intBits, CV.val] <;> rfl

theorem bytes_append (x y : List UInt8) : (⟨⟨x⟩⟩ ++ ⟨⟨y⟩⟩ : ByteArray) = ⟨⟨x ++ y⟩⟩ := by
  apply ByteArray.ext
  simp

theorem beq_eq_decide_list (a b : List UInt8) : (a == b) = decide (a = b) := by
  rw [Bool.eq_iff_iff]; simp

theorem binStr_good {op : BinOp} {t : TypeId} {xo yo : Operand} {a b : List UInt8} {φ : Prop} {v : AV} (h : binStr H op a b = some (φ, v, H')) (hφ : φ) :
    H' = H ∧ ∃ z, (do eqGuard op t xo yo (.string ⟨⟨a⟩⟩) (.string ⟨⟨b⟩⟩); binOp op t (.string ⟨⟨a⟩⟩) (.string ⟨⟨b⟩⟩)).run E.P w = .ok z w ∧ v.R θ H z := by
  cases op <;> simp only [binStr, outC, Option.some.injEq, Prod.mk.injEq, reduceCtorEq] at h <;> obtain ⟨rfl, rfl, rfl⟩ := h <;> refine ⟨rfl, _, ?_, rfl⟩
  · have hs : ¬ (((⟨⟨a⟩⟩ : ByteArray).size + (⟨⟨b⟩⟩ : ByteArray).size : Nat) : Int) > IntKind.i64.max := by
      have h1 : (⟨⟨a⟩⟩ : ByteArray).size = a.length := rfl
      have h2 : (⟨⟨b⟩⟩ : ByteArray).size = b.length := rfl
      rw [h1, h2]
      simp only [IntKind.max, IntKind.signed, IntKind.bits, if_true]
      omega
    simp only [eqGuard, binOp, Op.stringOp, Sem.run_bind]
    rw [if_neg hs]
    simp [CV.val, bytes_append]
  all_goals simp [eqGuard, binOp, Op.stringOp, CV.val, beq_eq_decide_list]

theorem equalIn_bool (d : Nat) {t : TypeId} {a b : Bool} (hu : E.P.underlying t = some .bool) : (Op.equalIn (d + 1) t (.bool a) (.bool b)).run E.P w = .ok (a == b) w := by
  rw [Op.equalIn, Sem.run_bind, run_underlying hu, Result.andThen_ok]
  rfl
theorem equalIn_nil_nil (d : Nat) {t : TypeId} {ms : Array (String × TypeId)} (hu : E.P.underlying t = some (.interface ms)) : (Op.equalIn (d + 1) t .nilIface .nilIface).run E.P w = .ok true w := by
  rw [Op.equalIn, Sem.run_bind, run_underlying hu, Result.andThen_ok]
  rfl
theorem equalIn_nil_err (d : Nat) {t s : TypeId} {v : Value} {ms : Array (String × TypeId)} (hu : E.P.underlying t = some (.interface ms)) : (Op.equalIn (d + 1) t .nilIface (.iface s v)).run E.P w = .ok false w := by
  rw [Op.equalIn, Sem.run_bind, run_underlying hu, Result.andThen_ok]
  rfl
theorem equalIn_err_nil (d : Nat) {t s : TypeId} {v : Value} {ms : Array (String × TypeId)} (hu : E.P.underlying t = some (.interface ms)) : (Op.equalIn (d + 1) t (.iface s v) .nilIface).run E.P w = .ok false w := by
  rw [Op.equalIn, Sem.run_bind, run_underlying hu, Result.andThen_ok]
  rfl
theorem equal_bool {t : TypeId} {a b : Bool} (hu : E.P.underlying t = some .bool) : (Op.equal t (.bool a) (.bool b)).run E.P w = .ok (a == b) w := equalIn_bool 9999 hu
theorem equal_nil_nil {t : TypeId} {ms : Array (String × TypeId)} (hu : E.P.underlying t = some (.interface ms)) : (Op.equal t .nilIface .nilIface).run E.P w = .ok true w := equalIn_nil_nil 9999 hu
theorem equal_nil_err {t s : TypeId} {v : Value} {ms : Array (String × TypeId)} (hu : E.P.underlying t = some (.interface ms)) : (Op.equal t .nilIface (.iface s v)).run E.P w = .ok false w := equalIn_nil_err 9999 hu
theorem equal_err_nil {t s : TypeId} {v : Value} {ms : Array (String × TypeId)} (hu : E.P.underlying t = some (.interface ms)) : (Op.equal t (.iface s v) .nilIface).run E.P w = .ok false w := equalIn_err_nil 9999 hu

theorem binB_good {op : BinOp} {t : TypeId} {xo yo : Operand} {a b : Bool} {φ : Prop} {v : AV} (h : binB E H op t a b = some (φ, v, H')) (hφ : φ) :
    H' = H ∧ ∃ z, (do eqGuard op t xo yo (.bool a) (.bool b); binOp op t (.bool a) (.bool b)).run E.P w = .ok z w ∧ v.R θ H z := by
  unfold binB at h
  split at h
  all_goals first
    | (rename_i hu
       simp only [outC, Option.some.injEq, Prod.mk.injEq] at h
       obtain ⟨rfl, rfl, rfl⟩ := h
       refine ⟨rfl, _, ?_, rfl⟩
       simp [eqGuard, binOp, equal_bool hu, CV.val])
    | cases h

theorem binS_good {op : BinOp} {t : TypeId} {xo yo : Operand} {a b : AV} {x y : Value} {φ : Prop} {v : AV} (h : binS E H op t a b = some (φ, v, H')) (hφ : φ) (ha : a.R θ H x) (hb : b.R θ H y) :
    H' = H ∧ ∃ z, (do eqGuard op t xo yo x y; binOp op t x y).run E.P w = .ok z w ∧ v.R θ H z := by
  unfold binS at h
  split at h
  · split at h
    · rename_i k a k' b hk
      subst hk
      cases ha; cases hb
      exact binI_good h hφ
    · cases h
  · cases ha; cases hb
    exact binStr_good h hφ
  · cases ha; cases hb
    exact binB_good h hφ
  · obtain ⟨ty, vy, rfl⟩ := hb
    cases ha
    split at h
    all_goals first
      | (rename_i hu
         simp only [outC, Option.some.injEq, Prod.mk.injEq] at h
         obtain ⟨rfl, rfl, rfl⟩ := h
         refine ⟨rfl, _, ?_, rfl⟩
         simp [eqGuard, binOp, equal_nil_err hu, CV.val])
      | cases h
  · obtain ⟨ty, vy, rfl⟩ := ha
    cases hb
    split at h
    all_goals first
      | (rename_i hu
         simp only [outC, Option.some.injEq, Prod.mk.injEq] at h
         obtain ⟨rfl, rfl, rfl⟩ := h
         refine ⟨rfl, _, ?_, rfl⟩
         simp [eqGuard, binOp, equal_err_nil hu, CV.val])
      | cases h
  · cases h

theorem binNil_good {op : BinOp} {t : TypeId} {xo yo : Operand} {a : AV} {ac : Act} {x : Value} {φ : Prop} {v : AV} (h : binNil E H op t yo a = some (φ, v, H')) (ha : a.R θ H x) :
    H' = H ∧ ∃ z, (do eqGuard op t xo yo x (ac.eval yo); binOp op t x (ac.eval yo)).run E.P w = .ok z w ∧ v.R θ H z := by
  unfold binNil at h
  split at h
  · cases ha
    split at h
    · split at h
      all_goals first
        | (rename_i hu
           simp only [outC, Option.some.injEq, Prod.mk.injEq] at h
           obtain ⟨rfl, rfl, rfl⟩ := h
           refine ⟨rfl, _, ?_, rfl⟩
           simp [eqGuard, binOp, equal_nil_nil hu, CV.val, Act.eval])
        | cases h
    · cases h
  · cases h

theorem unS_good {op : UnOp} {a : AV} {x : Value} {φ : Prop} {v : AV} (h : unS H op a = some (φ, v, H')) (ha : a.R θ H x) :
    H' = H ∧ ∃ z, (Op.unary op x).run E.P w = .ok z w ∧ v.R θ H z := by
  unfold unS at h
  split at h
  · cases ha
    split at h
    · simp only [outC, Option.some.injEq, Prod.mk.injEq] at h
      obtain ⟨rfl, rfl, rfl⟩ := h
      exact ⟨rfl, _, rfl, rfl⟩
    · cases h
  · cases ha
    split at h
    · simp only [outC, Option.some.injEq, Prod.mk.injEq] at h
      obtain ⟨rfl, rfl, rfl⟩ := h
      exact ⟨rfl, _, rfl, rfl⟩
    · cases h
  · cases h

end
end Go.Proofs.Ytnaogmahijgibaa
