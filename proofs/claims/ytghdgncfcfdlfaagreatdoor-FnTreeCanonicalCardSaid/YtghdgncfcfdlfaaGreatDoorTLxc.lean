/- Calls of library functions by their contracts, where the contract leans on what package variables hold. Conditions: none. -/
import Derived.Test.YtghdgncfcfdlfaaGreatDoorTLxb
import Derived.Lib.Split
namespace Go.Proofs.YtghdgncfcfdlfaaGreatDoor
open Go Go.RowKit

theorem HRel.keeps {E : Env} {w : World} {X : Nat → Prop} {θ0 θ : List Loc} {H : List Blk} (h : HRel E w X θ0 θ H w) : E.K w := h.kw w h.fr
theorem HRel.below {E : Env} {w0 w w' : World} {X : Nat → Prop} {θ0 θ : List Loc} {H : List Blk} (h : HRel E w0 X θ0 θ H w) (hb : Below w.heap.size w w') : HRel E w0 X θ0 θ H w' :=
 h.world hb.os hb.tape hb.output hb.size (fun k hk => hb.block k hk)

/-- a call from values to a value that turns nothing that was there -/
theorem FOk_kept {E : Env} {f : FuncId} {args : List CV} {r : CV} (h : ∀ w, E.K w → Calls E.P f ⟨args.map CV.val⟩ w fun e w' => e = .returned r.val ∧ Below w.heap.size w w') :
  FOk E f (args.map fun x => .one (.e (.c x))) [] (.one (.e (.c r))) [] := by
 intro w X θ vs hh hv
 have e : vs = args.map CV.val := cvs_of hv
 subst e
 refine (h w hh.keeps).mono ?_
 rintro e w' ⟨rfl, hb⟩
 exact ⟨_, θ, rfl, rfl, hh.below hb⟩
/-- a call from values to a number and an error, or none -/
theorem FOk_numErr {E : Env} {f : FuncId} {args : List CV} {n : Int} {b : Bool}
  (h : ∀ w, E.K w → Calls E.P f ⟨args.map CV.val⟩ w fun e w' => (∃ v, e = .returned (.tuple #[.int .i64 n, v]) ∧ if b = true then ∃ t x, v = .iface t x else v = .nilIface) ∧ Below w.heap.size w w') :
  FOk E f (args.map fun x => .one (.e (.c x))) [] (.tup [.e (.c (.int .i64 n)), .e (.err b)]) [] := by
 intro w X θ vs hh hv
 have e : vs = args.map CV.val := cvs_of hv
 subst e
 refine (h w hh.keeps).mono ?_
 rintro e w' ⟨⟨v, rfl, hv⟩, hb⟩
 exact ⟨_, θ, rfl, ⟨_, rfl, rfl, hv, trivial⟩, hh.below hb⟩
/-- a call from values to a new row of texts -/
theorem FOk_texts {E : Env} {f : FuncId} {args : List CV} {xs : List (List UInt8)} {cap : Nat} {t : TypeId} {vs' : List Value} (hl : xs.length ≤ cap) (hc : cap ≤ maxLen) (hsz : xs.length + vs'.length = cap)
  (h : ∀ w, E.K w → Calls E.P f ⟨args.map CV.val⟩ w fun e w' => e = .returned (.slice (some ⟨w.heap.size, 0, none⟩) xs.length cap) ∧ w' = w.alloc (.cells ⟨(xs.map fun s => Value.string ⟨⟨s⟩⟩) ++ vs'⟩ t)) :
  FOk E f (args.map fun x => .one (.e (.c x))) [] (.one (.e (.sl 0 0 xs.length))) [.row .str xs true] := by
 intro w X θ vs hh hv
 have e : vs = args.map CV.val := cvs_of hv
 subst e
 refine (h w hh.keeps).mono ?_
 rintro e w' ⟨rfl, rfl⟩
 have hθ : θ = [] := List.eq_nil_of_length_eq_zero hh.len
 subst hθ
 have e2 : ((xs.flatMap (RC.enc .str)).map CV.val) = xs.map fun s => Value.string ⟨⟨s⟩⟩ := by
  clear hsz hl h
  induction xs with
  | nil => rfl
  | cons a l ih => rw [List.flatMap_cons, List.map_append, ih]; rfl
 have hg : ∀ {o : Obj}, (w.alloc o).heap = w.heap.push o := fun {o} => rfl
 have hR := hh.alloc (w' := w.alloc (.cells ⟨(xs.map fun s => Value.string ⟨⟨s⟩⟩) ++ vs'⟩ t)) (cap := cap) (b := .row .str xs true) (cs := ⟨(xs.map fun s => Value.string ⟨⟨s⟩⟩) ++ vs'⟩) (t := t)
  rfl rfl rfl (by rw [hg, Array.size_push]) (fun k hk => by rw [hg, Array.getElem?_push, if_neg (by omega)]) (by rw [hg, Array.getElem?_push, if_pos rfl])
  (fun hc' => BlkR.flat (R := .str) (vs := vs') hl hc (by rw [e2]; exact hc') (by simpa [RC.sz] using hsz) (fun h => by cases h)) (by simp)
 refine ⟨_, [⟨w.heap.size, 0, cap⟩], rfl, ⟨⟨w.heap.size, 0, cap⟩, rfl, fun R ys own hr => ?_⟩, hR⟩
 cases hr
 exact ⟨by simp, _, rfl, fun _ => by simp⟩
/-- the same, of what a cut makes of a text -/
theorem FOk_splits {E : Env} {f : FuncId} {args : List CV} {xs : List (List UInt8)} {bs : List ByteArray} {cap : Nat} {t : TypeId} (he : bs.map (·.data.toList) = xs) (hl : bs.length ≤ cap) (hc : cap ≤ maxLen)
  (h : ∀ w, E.K w → Calls E.P f ⟨args.map CV.val⟩ w fun e w' => e = .returned (.slice (some ⟨w.heap.size, 0, none⟩) bs.length cap) ∧ w' = w.alloc (.cells (Lib.cellsOf bs cap) t)) :
  FOk E f (args.map fun x => .one (.e (.c x))) [] (.one (.e (.sl 0 0 xs.length))) [.row .str xs true] := by
 have hlen : xs.length = bs.length := by rw [← he, List.length_map]
 have e2 : bs.map Value.string = xs.map fun s => Value.string ⟨⟨s⟩⟩ := by
  rw [← he, List.map_map]; rfl
 refine FOk_texts (cap := cap) (t := t) (vs' := List.replicate (cap - bs.length) (Value.string ByteArray.empty)) (by omega) hc (by rw [List.length_replicate]; omega) (fun w hw => ?_)
 rw [← e2, hlen]
 exact h w hw
end Go.Proofs.YtghdgncfcfdlfaaGreatDoor
