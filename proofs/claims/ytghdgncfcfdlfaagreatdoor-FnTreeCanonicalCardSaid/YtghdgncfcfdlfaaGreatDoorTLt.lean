/- Words in which plain functions are printed, and how they are taken apart. Conditions: none. -/
import Derived.Test.YtghdgncfcfdlfaaGreatDoorTLs
namespace Go.Proofs.YtghdgncfcfdlfaaGreatDoor
open Go

abbrev w64 (n : Int) : Int := IntKind.i64.wrap n
abbrev Str := List UInt8

def iteO {α : Type} (b : Bool) (x y : Option α) : Option α := match b with
 | true => x
 | false => y
def guardO {α : Type} (c : Prop) [Decidable c] (x : Option α) : Option α := if c then x else none
def bindO {α β : Type} (x : Option α) (f : α → Option β) : Option β := match x with
 | some a => f a
 | none => none

@[simp] theorem iteO_true {α : Type} (x y : Option α) : iteO true x y = x := rfl
@[simp] theorem iteO_false {α : Type} (x y : Option α) : iteO false x y = y := rfl
@[simp] theorem bindO_some {α β : Type} (a : α) (f : α → Option β) : bindO (some a) f = f a := rfl
@[simp] theorem bindO_none {α β : Type} (f : α → Option β) : bindO none f = none := rfl
theorem guardO_pos {α : Type} {c : Prop} [Decidable c] {x : Option α} (h : c) : guardO c x = x := if_pos h
theorem guardO_neg {α : Type} {c : Prop} [Decidable c] {x : Option α} (h : ¬ c) : guardO c x = none := if_neg h
theorem iteO_eq {α : Type} (b : Bool) (x y : Option α) : iteO b x y = if b = true then x else y := by cases b <;> rfl

theorem iteO_e {α : Type} {b : Bool} {x y : Option α} {r : α} {G : Prop} (h : iteO b x y = some r) (h1 : b = true → x = some r → G) (h2 : b = false → y = some r → G) : G := by
 cases b with
 | true => exact h1 rfl h
 | false => exact h2 rfl h
theorem guardO_e {α : Type} {c : Prop} [Decidable c] {x : Option α} {r : α} {G : Prop} (h : guardO c x = some r) (h1 : c → x = some r → G) : G := by
 unfold guardO at h
 split at h
 ·exact h1 (by assumption) h
 ·cases h
theorem bindO_e {α β : Type} {x : Option α} {f : α → Option β} {r : β} {G : Prop} (h : bindO x f = some r) (h1 : ∀ v, x = some v → f v = some r → G) : G := by
 unfold bindO at h
 split at h
 ·rename_i v; exact h1 v rfl h
 ·cases h
theorem some_e {α : Type} {x r : α} {G : α → Prop} (h : some x = some r) (h1 : G x) : G r := by
 cases h; exact h1
theorem none_e {α : Type} {r : α} {G : Prop} (h : (none : Option α) = some r) : G := by cases h

abbrev I (n : Int) : AV := .one (.e (.c (.int .i64 n)))
abbrev U (n : Int) : AV := .one (.e (.c (.int .u8 n)))
abbrev B (b : Bool) : AV := .one (.e (.c (.bool b)))
abbrev S (s : List UInt8) : AV := .one (.e (.c (.str s)))
abbrev SL (r off len : Nat) : AV := .one (.e (.sl r off len))
abbrev PT (r o : Nat) : AV := .one (.e (.p r o))
abbrev RP (r k o : Nat) : AV := .one (.e (.rp r k o))
abbrev NS : AV := .one (.e .nsl)
abbrev cI (n : Int) : CE := .c (.int .i64 n)
abbrev cU (n : Int) : CE := .c (.int .u8 n)
abbrev cB (b : Bool) : CE := .c (.bool b)
abbrev cS (s : List UInt8) : CE := .c (.str s)
abbrev AGG (l : List CE) : AV := .one (.agg l)
abbrev dver : Ver := ⟨0, 0, 0⟩
abbrev dacc : Acc := ⟨0, 0, false⟩
abbrev drcd : Rcd := ⟨0, 0, 0, false⟩
abbrev dnod : Nod := ⟨0, [], 0⟩
abbrev dlck : Lck := ⟨0, 0, 0⟩
abbrev dedt : Edt := ⟨0, [], 0⟩

/-- a part of a statement, by the way to it -/
def subC : List Nat → Code → Code
 | [], c => c
 | 0 :: p, .seq a _ => subC p a
 | 1 :: p, .seq _ b => subC p b
 | 2 :: p, .cond _ a _ => subC p a
 | 3 :: p, .cond _ _ b => subC p b
 | 4 :: p, .block _ c => subC p c
 | 4 :: p, .loop c => subC p c
 | _, c => c
def bodyC (f : Func) : Code := match f.body with
 | some c => c
 | none => .skip

section
variable {E : Env} {Γ : Ctx} {st : St} {Q : Exit → St → Prop}
/-- a slice over a whole row -/
theorem WO_relen {ops : Array Oper} {l : List Nat} {st' : St} (h : st = st') (k : WO E Γ ops l Q st') : WO E Γ ops l Q st := h ▸ k
end

end Go.Proofs.YtghdgncfcfdlfaaGreatDoor
