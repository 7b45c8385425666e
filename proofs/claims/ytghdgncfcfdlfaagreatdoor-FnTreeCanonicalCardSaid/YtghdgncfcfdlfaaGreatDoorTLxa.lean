/- A slice held against nil. Conditions: none. -/
import Derived.Test.YtghdgncfcfdlfaaGreatDoorTLx
namespace Go.Proofs.YtghdgncfcfdlfaaGreatDoor
open Go
section
variable {E : Env} {Γ : Ctx} {st : St} {Q : Exit → St → Prop}

theorem equal_slice_nil {E : Env} {w : World} {t e : TypeId} {a : Option Addr} {n c : Nat} (hu : E.P.underlying t = some (.slice e)) : (Op.equal t (.slice a n c) (.slice none 0 0)).run E.P w = .ok a.isNone w := by
 unfold Op.equal
 show (Op.equalIn (9999 + 1) t _ _).run E.P w = _
 rw [Op.equalIn, Sem.run_bind, run_underlying hu, Result.andThen_ok]
 cases a <;> rfl

/-- a slice is held against nil: if it is nil, it has no elements -/
theorem WO_isnil {ops : Array Oper} {l l2 : List Nat} {i : Nat} {o : Oper} {t yt : TypeId} {x : Operand} {r off len : Nat} {R : RC} {xs : List R.A} {own : Bool} {e : TypeId}
  (hl : l = i :: l2) (ho : ops[i]? = some o) (hg : o.guard = none) (hop : o.op = .binOp .eql t x (.const (.slice none 0 0)) yt) (hu : E.P.underlying t = some (.slice e))
  (hx : ev st x = some (.one (.e (.sl r off len)))) (hH : st.H[r]? = some (.row R xs own)) (hd : dstOk Γ.nt o.dst = true)
  (k : ∀ b : Bool, (b = true → len = 0) → WO E Γ ops l2 Q ⟨putT st.T o.dst (.one (.e (.c (.bool b)))), st.H⟩) : WO E Γ ops l Q st := by
 subst hl
 intro θ a w hr
 simp only [wpOps, ho]
 rw [guardS_good hr (b := true) (by unfold guardS; rw [hg])]
 simp only [if_true]
 left
 unfold Oper.wp
 obtain ⟨l, ad, hl, hlen, hcap, hv, had⟩ := sl_R hr.h (ev_R hr hx) hH
 have hrun : (execOp a.eval o).run E.P w = .ok (.value (.bool ad.isNone)) w := by
  unfold execOp
  rw [hop]
  have e1 : a.eval (.const (.slice none 0 0)) = .slice none 0 0 := rfl
  simp only [hv, e1]
  simp [eqGuard, binOp, equal_slice_nil hu]
 rw [hrun]
 refine k ad.isNone (fun h => ?_) θ _ w (by
  have := hr.put (d := o.dst) (v := .one (.e (.c (.bool ad.isNone)))) (θ' := []) (x := .bool ad.isNone) (w' := w) (dstOk_lt hd) rfl (by simpa using hr.h) (HLe.refl _)
  simpa using this)
 have hn : ¬ off < l.cap := by
  intro hlt
  rw [had hlt] at h
  cases h
 omega
end
end Go.Proofs.YtghdgncfcfdlfaaGreatDoor
