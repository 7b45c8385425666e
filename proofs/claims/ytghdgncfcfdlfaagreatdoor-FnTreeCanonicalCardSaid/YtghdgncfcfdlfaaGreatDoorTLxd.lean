/- Short names for values and blocks. Conditions: none. -/
import Derived.Test.YtghdgncfcfdlfaaGreatDoorTLxc
import Derived.KernelRfl
namespace Go.Proofs.YtghdgncfcfdlfaaGreatDoor
open Go
abbrev sF {α : Type} (r : Nat) (x : List α) : AV := .one (.e (.sl r 0 x.length))
abbrev pA (r o : Nat) : AV := .one (.e (.p r o))
abbrev nR (x : List Nod) : Blk := .row .nod x false
abbrev nO (x : List Nod) : Blk := .row .nod x true
abbrev lR (x : List Lck) : Blk := .row .lck x false
abbrev lO (x : List Lck) : Blk := .row .lck x true
abbrev sR (x : List Str) : Blk := .row .str x false
abbrev sO (x : List Str) : Blk := .row .str x true
abbrev iR (x : List Int) : Blk := .row .int x false
abbrev iO (x : List Int) : Blk := .row .int x true
abbrev uR (x : List Int) : Blk := .row .u8 x false
abbrev uO (x : List Int) : Blk := .row .u8 x true
abbrev eR (x : List Edt) : Blk := .row .edt x false
abbrev eO (x : List Edt) : Blk := .row .edt x true
abbrev bR (x : List Bool) : Blk := .row .bool x false
abbrev bO (x : List Bool) : Blk := .row .bool x true
/-- true and false by turns, so many of each -/
def tfl : Bool → List Nat → List Bool
 | _, [] => []
 | b, k :: l => List.replicate k b ++ tfl (!b) l
def tf (b : Bool) (l : List Nat) : Array Bool := ⟨tfl b l⟩
abbrev T2 : Prop := True ∧ True
abbrev T3 : Prop := True ∧ T2
abbrev T4 : Prop := True ∧ T3
abbrev T5 : Prop := True ∧ T4
abbrev T6 : Prop := True ∧ T5
abbrev T7 : Prop := True ∧ T6
abbrev T8 : Prop := True ∧ T7
theorem t2 : T2 := ⟨trivial, trivial⟩
theorem t3 : T3 := ⟨trivial, t2⟩
theorem t4 : T4 := ⟨trivial, t3⟩
theorem t5 : T5 := ⟨trivial, t4⟩
theorem t6 : T6 := ⟨trivial, t5⟩
theorem t7 : T7 := ⟨trivial, t6⟩
theorem t8 : T8 := ⟨trivial, t7⟩
abbrev lI {α : Type} (x : List α) : Int := ((x.length : Nat) : Int)
section
variable {E : Env} {Γ : Ctx} {st : St} {Q : Exit → St → Prop}
theorem Wst {ops : Array Oper} {l : List Nat} (n : Nat) (ρ live : List Nat) (st' : St) (h : segS E Γ.nt Γ.m ops (l.take n) ρ live st = some (True, st')) (k : WO E Γ ops (l.drop n) Q st') : WO E Γ ops l Q st := WO_step n ρ live True st' h trivial k
theorem Wsr {id : Nat} {ops : Array Oper} {d : Code} (h : WO E Γ ops (List.range ops.size) (thenS (W E Γ d Q) Q) st) : W E Γ (.seq (.region id ops false) d) Q st := W_seq (W_region h)
theorem Wnt {ops : Array Oper} {K : St → Prop} (h : K st) : WO E Γ ops [] (thenS K Q) st := WO_nil rfl (thenS_n h)
end
section
variable {E : Env} {Γ : Ctx} {st : St} {ops : Array Oper} {Q : Exit → St → Prop} {Hd : List Blk} {one : Bool} {Ts : Tm} {n : Nat} {ls : Array Bool}
theorem WD_takeQ {n2 : Nat} {ls' : Array Bool} {st' : St} {φ : Prop} (l l1 l2 : List Nat) (h : takeK E Γ.nt Hd one ops l l1 l2 ls Ts st = some (φ, ls', st'.T, st')) (hφ : φ) (hn : n = l.length + n2) (k : WD E Γ ops Q Hd one n2 ls' st'.T st') : WD E Γ ops Q Hd one n ls Ts st := WD_takeK l l1 l2 h hφ hn k
end
/-! the same, with what the kernel reckons at the end -/
theorem aI {a b : Prop} (x : a) (y : b) : a ∧ b := ⟨x, y⟩
section
variable {E : Env} {Γ : Ctx} {st : St} {Q : Exit → St → Prop}
theorem Ws {ops : Array Oper} {l : List Nat} (n : Nat) (ρ live : List Nat) (st' : St) (k : WO E Γ ops (l.drop n) Q st') (h : segS E Γ.nt Γ.m ops (l.take n) ρ live st = some (True, st') := by kernel_rfl) : WO E Γ ops l Q st := WO_step n ρ live True st' h trivial k
theorem Wp {ops : Array Oper} {l : List Nat} (n : Nat) (ρ live : List Nat) (φ : Prop) (st' : St) (hφ : φ) (k : WO E Γ ops (l.drop n) Q st') (h : segS E Γ.nt Γ.m ops (l.take n) ρ live st = some (φ, st') := by kernel_rfl) : WO E Γ ops l Q st := WO_step n ρ live φ st' h hφ k
theorem Wb {ops : Array Oper} {l : List Nat} (ρ live : List Nat) (st' : St) (k : WO E Γ ops l Q st') (h : subS Γ.m ρ live st = some st' := by kernel_rfl) : WO E Γ ops l Q st := WO_sub ρ live h k
theorem Ww {c : Code} (ρ live : List Nat) (st' : St) (k : W E Γ c Q st') (h : subS Γ.m ρ live st = some st' := by kernel_rfl) : W E Γ c Q st := W_sub ρ live h k
theorem Wc {ops : Array Oper} {l l2 : List Nat} {i : Nat} {o : Oper} {g : Nat} {args : List AV} {ext : List Blk} {res : AV} {ext' : List Blk} {fn : Func} (its : List It)
  (hl : l = i :: l2) (ho : ops[i]? = some o) (hg : guardS ops st o = some true) (hf : E.P.funcs[g]? = some fn) (hb : fn.body.isSome = true)
  (hF : FOk E g args ext res ext') (hok : itOk st.H its ext') (hlt : (itsLt st.H.length its && dstOk Γ.nt o.dst) = true)
  (k : WO E Γ ops l2 Q ⟨putT st.T o.dst (takeS st.H its res ext').1, (takeS st.H its res ext').2⟩)
  (hc : callS st o [] its = some (g, st.H, args, ext) := by kernel_rfl) (hn : (fn.name == "runtime.NumGoroutine") = false := by kernel_rfl) : WO E Γ ops l Q st := WO_call its fn hl ho hg hc hf hb hn hF hok hlt k
end
end Go.Proofs.YtghdgncfcfdlfaaGreatDoor
