/- A strings.Builder: its slice at the start, the copy check. Conditions: none. -/
import Derived.Test.YtghdgncfcfdlfaaGreatDoorTLxa
namespace Go.Proofs.YtghdgncfcfdlfaaGreatDoor
open Go

section
variable {E : Env} {Γ : Ctx} {Q : Exit → St → Prop} {st : St}

/-- a new Builder's nil slice as a row of bytes without elements -/
def bldN (r : Nat) (st : St) : Option St :=
 match st.H[r]? with
 | some (.cells [.sp q T, .nsl]) => some ⟨st.T, st.H.set r (.cells [.sp q T, .bsl st.H.length 0]) ++ [.row .u8 [] true]⟩
 | _ => none

theorem bldN_good {r : Nat} {st' : St} {θ : List Loc} {a : Act} {w : World} (h : bldN r st = some st') (hr : Rel E Γ θ st a w) : ∃ θ', Rel E Γ θ' st' a w := by
 unfold bldN at h
 split at h
 ·rename_i q T hH
  cases h
  obtain ⟨n1, n2⟩ := append_none hr.h .u8 none
  have hrl := lt_of_getElem? hH
  have hl : ∃ l, θ[r]? = some l := ⟨_, List.getElem?_eq_getElem (by rw [hr.h.len]; exact hrl)⟩
  obtain ⟨l, hl⟩ := hl
  have hH' : (st.H ++ [Blk.row .u8 [] true])[r]? = some (.cells [.sp q T, .nsl]) := getElem?_append_of hH
  have hl' : (θ ++ [(⟨0, 0, 0⟩ : Loc)])[r]? = some l := getElem?_append_of hl
  have hB := n1.bl r l _ hl' hH'
  obtain ⟨vs, e, hheap, hall, hsp⟩ := hB
  have e1 : st.H.set r (.cells [.sp q T, .bsl st.H.length 0]) ++ [.row .u8 [] true] = (st.H ++ [Blk.row .u8 [] true]).set r (.cells [.sp q T, .bsl st.H.length 0]) := by
   rw [List.set_append_left _ _ hrl]
  have hle : HLe (st.H ++ [Blk.row .u8 [] true]) ((st.H ++ [Blk.row .u8 [] true]).set r (.cells [.sp q T, .bsl st.H.length 0])) := HLe.set_other _ _ _ (by simp)
  have hall' : All2 (CE.R (θ ++ [⟨0, 0, 0⟩]) ((st.H ++ [Blk.row .u8 [] true]).set r (.cells [.sp q T, .bsl st.H.length 0]))) [.sp q T, .bsl st.H.length 0] vs := by
   match vs, hall with
   | [v0, v1], hall =>
    have h1 : v1 = .slice none 0 0 := hall.2.1
    refine ⟨CE.R_mono0 n1.len hle hall.1, CE.R_mono0 n1.len hle (x := .bsl st.H.length 0) ?_, trivial⟩
    rw [h1]
    exact sl_bsl (fun a n h => by injection h with h1 _ _; exact h1.symm) n2
  refine ⟨θ ++ [⟨0, 0, 0⟩], ?_, hr.nt, hr.df, hr.ml, fun s v hs => ?_⟩
  ·show HRel E Γ.w0 Γ.X Γ.θ0 (θ ++ [⟨0, 0, 0⟩]) (st.H.set r (.cells [.sp q T, .bsl st.H.length 0]) ++ [.row .u8 [] true]) w
   rw [e1]
   exact n1.upd hl' hH' trivial rfl rfl rfl rfl (fun _ _ => rfl) hle ⟨vs, e, hheap, hall', hsp⟩ (by simp)
  ·show v.R (θ ++ [⟨0, 0, 0⟩]) (st.H.set r (.cells [.sp q T, .bsl st.H.length 0]) ++ [.row .u8 [] true]) _
   rw [e1]
   exact AV.R_mono0 n1.len hle (AV.R_mono hr.h.len (HLe.snoc _ _) (hr.tm s v hs))
 ·cases h

theorem W_bld {c : Code} {st' : St} (r : Nat) (h : bldN r st = some st') (k : W E Γ c Q st') : W E Γ c Q st := by
 intro θ a w hr
 obtain ⟨θ', hr'⟩ := bldN_good h hr
 exact k θ' a w hr'
theorem WO_bld {ops : Array Oper} {l : List Nat} {st' : St} (r : Nat) (h : bldN r st = some st') (k : WO E Γ ops l Q st') : WO E Γ ops l Q st := by
 intro θ a w hr
 obtain ⟨θ', hr'⟩ := bldN_good h hr
 exact k θ' a w hr'
end

/-- the copy check of a Builder, fresh or used -/
theorem FOk_copy {E : Env} {f : FuncId} {T : TypeId}
  (hfresh : ∀ (b : Nat) (w : World), w.cell? ⟨b, 0, none⟩ = some (.pointer none) → w.shape? b = some (T, 2) → w.frozen? ⟨b, 0, none⟩ = false →
   Calls E.P f #[.pointer (some ⟨b, 0, none⟩)] w fun e w' => e = .returned (.tuple #[]) ∧ w' = w.setCell ⟨b, 0, none⟩ (.pointer (some ⟨b, 0, none⟩)))
  (hused : ∀ (b : Nat) (w : World), w.cell? ⟨b, 0, none⟩ = some (.pointer (some ⟨b, 0, none⟩)) → Calls E.P f #[.pointer (some ⟨b, 0, none⟩)] w fun e w' => e = .returned (.tuple #[]) ∧ w' = w)
  (n : Nat) (xs : List Int) : FOk E f [.one (.e (.p 0 0))] [.cells [.sp 0 T, .bsl 1 n], .row .u8 xs true] (.tup []) [.cells [.sp 0 T, .bsl 1 n], .row .u8 xs true] := by
 intro w X θ vs hh hv
 have hl0 : ∃ l, θ[0]? = some l := ⟨_, List.getElem?_eq_getElem (by rw [hh.len]; simp)⟩
 obtain ⟨l, hl⟩ := hl0
 match vs, hv with
 | [v], hv =>
  obtain ⟨l', hl', hv'⟩ := hv.1
  rw [hl] at hl'; cases hl'
  subst hv'
  obtain ⟨us, e, hheap, hall, hsp⟩ := hh.bl 0 l _ hl rfl
  have hT : e = T := hsp
  subst hT
  match us, hall, hheap with
  | [v0, v1], hall, hheap =>
   have hc : w.cell? ⟨l.b, 0, none⟩ = some v0 := by simp [World.cell?, hheap]
   obtain ⟨l2, hl2, hv0⟩ := hall.1
   rw [hl] at hl2; cases hl2
   rcases hv0 with rfl | rfl
   ·refine (hfresh l.b w hc (by simp [World.shape?, hheap]) (by simp [World.frozen?, hheap])).mono ?_
    rintro e' w' ⟨rfl, rfl⟩
    refine ⟨_, θ, rfl, ⟨[], rfl, trivial⟩, ?_⟩
    have hset : ([Blk.cells [.sp 0 e, .bsl 1 n], .row .u8 xs true] : List Blk).set 0 (.cells [.sp 0 e, .bsl 1 n]) = [Blk.cells [.sp 0 e, .bsl 1 n], .row .u8 xs true] := rfl
    have := hh.upd (b' := .cells [.sp 0 e, .bsl 1 n]) hl rfl trivial (w' := w.setCell ⟨l.b, 0, none⟩ (.pointer (some ⟨l.b, 0, none⟩))) rfl rfl rfl (by simp [World.setCell])
     (fun k hk => by simp only [World.setCell, Array.getElem?_modify]; rw [if_neg (fun e => hk e.symm)]) (by rw [hset]; exact HLe.refl _)
     ⟨[.pointer (some ⟨l.b, 0, none⟩), v1], e, by simp [World.setCell, Array.getElem?_modify, hheap], ⟨⟨l, hl, .inr rfl⟩, hall.2⟩, rfl⟩ (by simp)
    rwa [hset] at this
   ·refine (hused l.b w hc).mono ?_
    rintro e' w' ⟨rfl, rfl⟩
    exact ⟨_, θ, rfl, ⟨[], rfl, trivial⟩, hh⟩

theorem cvs_of {θ : List Loc} {H : List Blk} : ∀ {args : List CV} {vs : List Value}, All2 (AV.R θ H) (args.map fun x => .one (.e (.c x))) vs → vs = args.map CV.val
 | [], [], _ => rfl
 | a :: l, v :: vs, h => by
  rw [List.map_cons, cvs_of (args := l) h.2]
  congr 1
  exact h.1
 | [], _ :: _, h => h.elim
 | _ :: _, [], h => h.elim

/-- a call that leaves the world as it is, from values to a value -/
theorem FOk_pure {E : Env} {f : FuncId} {args : List CV} {r : CV} (h : ∀ w, Calls E.P f ⟨args.map CV.val⟩ w fun e w' => e = .returned r.val ∧ w' = w) :
  FOk E f (args.map fun x => .one (.e (.c x))) [] (.one (.e (.c r))) [] := by
 intro w X θ vs hh hv
 have e : vs = args.map CV.val := cvs_of hv
 subst e
 refine (h w).mono ?_
 rintro e w' ⟨rfl, rfl⟩
 exact ⟨_, θ, rfl, rfl, hh⟩
end Go.Proofs.YtghdgncfcfdlfaaGreatDoor
