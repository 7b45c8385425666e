/- Calls: the way back, and the rule. Conditions: none. -/
import Derived.Test.YtghdgncfcfdlfaaGreatDoorTLp
namespace Go.Proofs.YtghdgncfcfdlfaaGreatDoor
open Go

section
variable {E : Env} {w0 : World} {X : Nat → Prop} {θ0 θ : List Loc} {H : List Blk} {w : World}

theorem take_good {args : List AV} {its : List It} {ext' : List Blk} {res : AV} {θ' : List Loc} {w' : World} {v : Value} (h : HRel E w0 X θ0 θ H w) (hnd : nodupN (ownRefs its) = true) (hap : apartN (roRefs args its) (ownRefs its) = true)
  (hlt : ∀ (i r : Nat), its[i]? = some (.own r) ∨ its[i]? = some (.ro r) → r < H.length)
  (hc : HRel E w (mayW θ H its) (its.map (itLoc θ H args)) θ' ext' w') (hres : res.R θ' ext' v) (hok : itOk H its ext') :
  ∃ τ, HRel E w0 X θ0 (θ ++ τ) (takeS H its res ext').2 w' ∧ (takeS H its res ext').1.R (θ ++ τ) (takeS H its res ext').2 v ∧ HLe H (takeS H its res ext').2 := by
 obtain ⟨τ, hτ⟩ := hc.pre
 obtain ⟨ok1, ok2, ok3, ok4⟩ := itOk_get hok
 obtain ⟨s1, s2, s3, s4⟩ := setOwn_get (g := backF H.length its) (its := its) (ext' := ext') (H := H) ok1 hnd
 have hlen := h.len
 have hclen : θ'.length = ext'.length := hc.len
 have hτlen : its.length + τ.length = ext'.length := by rw [← hclen, ← hτ]; simp
 refine ⟨τ, ?_⟩
 simp only [takeS]
 generalize hH1 : setOwn (backF H.length its) its ext' H = H1 at s1 s2 s3 s4 ⊢
 -- where the locations lie
 have loc_old : ∀ (r : Nat) (l : Loc), r < H.length → (θ ++ τ)[r]? = some l → θ[r]? = some l := by
  intro r l hr hl
  rwa [List.getElem?_append_left (by omega)] at hl
 have loc_own : ∀ (i r : Nat) (l : Loc), its[i]? = some (.own r) ∨ its[i]? = some (.ro r) → θ[r]? = some l → θ'[i]? = some l := by
  intro i r l hi hl
  rw [← hτ]
  refine getElem?_append_of ?_
  rcases hi with hi | hi <;> simp [List.getElem?_map, hi, itLoc, hl]
 have loc_new : ∀ i, its.length ≤ i → θ'[i]? = (θ ++ τ)[H.length + (i - its.length)]? := by
  intro i hi
  rw [← hτ, List.getElem?_append_right (by simpa using hi), List.getElem?_append_right (by omega)]
  congr 1
  simp; omega
 have hle : HLe H H1 := by
  refine ⟨by omega, fun r hr R ys own' hR => ?_⟩
  by_cases hm : r ∈ ownRefs its
  ·obtain ⟨i, hi⟩ := ownRefs_get hm
   obtain ⟨b, hb, hb'⟩ := ok2 i r hi
   rw [s3 i r b hi hr hb] at hR
   injection hR with hR
   obtain ⟨_, xs, own, hx, e⟩ := hb' R ys own' (Blk.ren_row hR)
   exact ⟨xs, own, hx, e⟩
  ·rw [s2 r hr hm] at hR
   exact ⟨ys, own', hR, rfl⟩
 have hren : Ren (backF H.length its) θ' ext' (θ ++ τ) H1 := by
  intro i q hq
  unfold backF at hq
  split at hq
  ·rename_i r hi
   obtain rfl : r = q := by simpa using hq
   have hr := hlt i r (.inl hi)
   refine ⟨fun l hl => ?_, fun R ys own' hR => ?_⟩
   ·obtain ⟨l0, hl0⟩ : ∃ l0, θ[r]? = some l0 := ⟨_, List.getElem?_eq_getElem (by omega)⟩
    have := loc_own i r l0 (.inl hi) hl0
    rw [this] at hl; cases hl
    exact getElem?_append_of hl0
   ·obtain ⟨b, hb, hb'⟩ := ok2 i r hi
    rw [s3 i r b hi hr hb] at hR
    injection hR with hR
    have e := Blk.ren_row hR
    subst e
    exact ⟨ys, own', hb, rfl⟩
  ·rename_i r hi
   obtain rfl : r = q := by simpa using hq
   have hr := hlt i r (.inr hi)
   refine ⟨fun l hl => ?_, fun R ys own' hR => ?_⟩
   ·obtain ⟨l0, hl0⟩ : ∃ l0, θ[r]? = some l0 := ⟨_, List.getElem?_eq_getElem (by omega)⟩
    have := loc_own i r l0 (.inr hi) hl0
    rw [this] at hl; cases hl
    exact getElem?_append_of hl0
   ·rw [s2 r hr (apartN_mem hap r (roRefs_ro hi))] at hR
    obtain ⟨R', xs, own, zs, o, h1, h2, h3⟩ := ok3 i r hi
    rw [h1] at hR
    cases hR
    exact ⟨zs, o, h2, h3.symm⟩
  ·cases hq
  ·rename_i hi
   cases hq
   have hi' : its.length ≤ i := by
    rcases Nat.lt_or_ge i its.length with hh | hh
    ·rw [List.getElem?_eq_getElem hh] at hi; cases hi
    ·exact hh
   refine ⟨fun l hl => by rw [← loc_new i hi']; exact hl, fun R ys own' hR => ?_⟩
   rw [s4 i hi'] at hR
   cases hb : ext'[i]? with
   | none => rw [hb] at hR; cases hR
   | some b =>
    rw [hb] at hR
    simp only [Option.map_some, Option.some.injEq] at hR
    have e := Blk.ren_row hR
    subst e
    exact ⟨ys, own', rfl, rfl⟩
 -- each block is an old one or one of the call's
 have cls : ∀ (r : Nat) (l : Loc) (b : Blk), (θ ++ τ)[r]? = some l → H1[r]? = some b →
   (r < H.length ∧ r ∉ ownRefs its ∧ θ[r]? = some l ∧ H[r]? = some b) ∨
   ∃ i b0, θ'[i]? = some l ∧ ext'[i]? = some b0 ∧ b = b0.ren (backF H.length its) ∧ ((its[i]? = some (.own r) ∧ r < H.length) ∨ (its.length ≤ i ∧ r = H.length + (i - its.length))) := by
  intro r l b hl hb
  by_cases hr : r < H.length
  ·by_cases hm : r ∈ ownRefs its
   ·obtain ⟨i, hi⟩ := ownRefs_get hm
    obtain ⟨b0, hb0, _⟩ := ok2 i r hi
    rw [s3 i r b0 hi hr hb0] at hb
    cases hb
    exact .inr ⟨i, b0, loc_own i r l (.inl hi) (loc_old r l hr hl), hb0, rfl, .inl ⟨hi, hr⟩⟩
   ·rw [s2 r hr hm] at hb
    exact .inl ⟨hr, hm, loc_old r l hr hl, hb⟩
  ·have e : H.length + ((its.length + (r - H.length)) - its.length) = r := by omega
   have k1 := s4 (its.length + (r - H.length)) (by omega)
   have k2 := loc_new (its.length + (r - H.length)) (by omega)
   rw [e] at k1 k2
   rw [hb] at k1
   rw [hl] at k2
   cases hb0 : ext'[its.length + (r - H.length)]? with
   | none => rw [hb0] at k1; cases k1
   | some b0 =>
    rw [hb0] at k1
    simp only [Option.map_some, Option.some.injEq] at k1
    exact .inr ⟨_, b0, k2, hb0, k1, .inr ⟨by omega, by omega⟩⟩
 have mayX : ∀ b, mayW θ H its b → X b ∨ w0.heap.size ≤ b := by
  rintro b ⟨i, r, l, blk, hi, hl, hb, ho, rfl⟩
  exact h.own r l blk hl hb ho
 have ownNew : ∀ (i : Nat) (l : Loc) (b0 : Blk), θ'[i]? = some l → ext'[i]? = some b0 → b0.owns l → mayW θ H its l.b ∨ w.heap.size ≤ l.b := fun i l b0 h1 h2 h3 => hc.own i l b0 h1 h2 h3
 have old_same : ∀ (r : Nat) (l : Loc) (b : Blk), r ∉ ownRefs its → θ[r]? = some l → H[r]? = some b → l.b < w.heap.size → (¬ b.owns l → ¬ (b = .dead ∨ ∃ R own, b = .row R [] own)) → w'.heap[l.b]? = w.heap[l.b]? := by
  intro r l b hr hl hb hsz hne
  refine hc.fr.block l.b hsz ?_
  rcases not_mayW h hr hl hb with hn | ⟨h1, h2⟩
  ·exact hn
  ·exact absurd h2 (hne h1)
 refine ⟨⟨by rw [List.length_append, s1]; omega, h.pre.trans (List.prefix_append _ _), fun r l b hl hb => ?_, fun r l b hl hb ho => ?_, fun r l R xs hl hb hx => ?_, fun r r' l l' b b' hne hl hl' hb hb' ho ho' => ?_,
  ⟨hc.fr.os.trans h.fr.os, hc.fr.tape.trans h.fr.tape, hc.fr.output.trans h.fr.output, Nat.le_trans h.fr.size hc.fr.size, fun k hk hX => ?_⟩, fun g R xs hG => ?_, h.kw⟩, AV.R_ren hren hres, hle⟩
 ·rcases cls r l b hl hb with ⟨h1, h2, h3, h4⟩ | ⟨i, b0, h1, h2, rfl, _⟩
  ·have hB := h.bl r l b h3 h4
   by_cases hsp : ¬ b.owns l ∧ (b = .dead ∨ ∃ R own, b = .row R [] own)
   ·obtain ⟨hno, rfl | ⟨R, own, rfl⟩⟩ := hsp
    ·trivial
    ·exact BlkR.any rfl hno (hB.mono (θ' := τ) hlen hle)
   ·have hsz : l.b < w.heap.size := by
     by_cases ho : b.owns l
     ·exact hB.lt ho
     ·cases b with
      | cells cs => exact absurd trivial ho
      | dead => exact absurd ⟨ho, .inl rfl⟩ hsp
      | row R xs own =>
       refine row_lt h h3 h4 ?_
       rintro rfl
       exact hsp ⟨ho, .inr ⟨R, own, rfl⟩⟩
    exact (hB.congr (old_same r l b h2 h3 h4 hsz (fun hno hd => hsp ⟨hno, hd⟩))).mono hlen hle
  ·exact (hc.bl i l b0 h1 h2).ren hren
 ·rcases cls r l b hl hb with ⟨h1, h2, h3, h4⟩ | ⟨i, b0, h1, h2, rfl, _⟩
  ·exact h.own r l b h3 h4 ho
  ·rcases ownNew i l b0 h1 h2 (Blk.owns_ren.1 ho) with hm | hm
   ·exact mayX _ hm
   ·exact .inr (Nat.le_trans h.fr.size hm)
 ·rcases cls r l _ hl hb with ⟨h1, h2, h3, h4⟩ | ⟨i, b0, h1, h2, e, h5⟩
  ·exact h.giv r l R xs h3 h4 hx
  ·have e0 := Blk.ren_row e.symm
   subst e0
   rcases h5 with ⟨h5, _⟩ | ⟨h5, _⟩
   ·obtain ⟨b, hb, hb'⟩ := ok2 i r h5
    rw [h2] at hb; cases hb
    have := (hb' R xs false rfl).1
    cases this
   ·exact absurd h2 (ok4 i R xs h5)
 ·rcases cls r l b hl hb with ⟨h1, h2, h3, h4⟩ | ⟨i, b0, h1, h2, rfl, h5⟩
  ·rcases cls r' l' b' hl' hb' with ⟨h1', h2', h3', h4'⟩ | ⟨i', b0', h1', h2', rfl, h5'⟩
   ·exact h.dis r r' l l' b b' hne h3 h3' h4 h4' ho ho'
   ·have hsz := (h.bl r l b h3 h4).lt ho
    rcases ownNew i' l' b0' h1' h2' (Blk.owns_ren.1 ho') with hm | hm
    ·intro e
     rw [← e] at hm
     rcases not_mayW h h2 h3 h4 with hn | ⟨hn, _⟩
     ·exact hn hm
     ·exact hn ho
    ·omega
  ·rcases cls r' l' b' hl' hb' with ⟨h1', h2', h3', h4'⟩ | ⟨i', b0', h1', h2', rfl, h5'⟩
   ·have hsz := (h.bl r' l' b' h3' h4').lt ho'
    rcases ownNew i l b0 h1 h2 (Blk.owns_ren.1 ho) with hm | hm
    ·intro e
     rw [e] at hm
     rcases not_mayW h h2' h3' h4' with hn | ⟨hn, _⟩
     ·exact hn hm
     ·exact hn ho'
    ·omega
   ·refine hc.dis i i' l l' b0 b0' (fun e => ?_) h1 h1' h2 h2' (Blk.owns_ren.1 ho) (Blk.owns_ren.1 ho')
    subst e
    rcases h5 with ⟨h5, _⟩ | ⟨h5, h6⟩
    ·rcases h5' with ⟨h5', _⟩ | ⟨h5', _⟩
     ·rw [h5] at h5'; cases h5'; exact hne rfl
     ·have := lt_of_getElem? h5; omega
    ·rcases h5' with ⟨h5', _⟩ | ⟨h5', h6'⟩
     ·have := lt_of_getElem? h5'; omega
     ·exact hne (by omega)
 ·rw [hc.fr.block k (Nat.lt_of_lt_of_le hk h.fr.size) (fun hm => by rcases mayX k hm with h1 | h1 <;> first | exact hX h1 | omega)]
  exact h.fr.block k hk hX
 ·obtain ⟨g1, g2, _⟩ := h.gl g R xs hG
  exact ⟨g1, g2, (hc.gl g R xs hG).2.2⟩

end

/-- the operands of a call, and what a closure has captured -/
def argsS (st : St) : List Operand → Option (List AV)
 | [] => some []
 | x :: l => match ev st x, argsS st l with
  | some v, some vs => some (v :: vs)
  | _, _ => none

/-- nil slices among the arguments as rows without elements -/
def nilsS : List Blk → List AV → List (Nat × RC) → Option (List Blk × List AV)
 | H, as, [] => some (H, as)
 | H, as, (j, R) :: l => match as[j]? with
  | some (.one (.e .nsl)) => nilsS (H ++ [.row R [] true]) (as.set j (.one (.e (.sl H.length 0 0)))) l
  | _ => none

def callS (st : St) (o : Oper) (js : List (Nat × RC)) (its : List It) : Option (Nat × List Blk × List AV × List Blk) :=
 match o.op with
 | .call c => match c.callee with
  | .value f => match ev st f, argsS st c.args.toList with
   | some (.one (.fn g cap)), some as => match nilsS st.H (as ++ cap.map fun x => .one (.e x)) js with
    | some (H1, as1) => match giveS H1 as1 its with
     | some (a, e) => some (g, H1, a, e)
     | none => none
    | none => none
   | _, _ => none
  | _ => none
 | _ => none

theorem nilsS_good {E : Env} {w0 : World} {X : Nat → Prop} {θ0 : List Loc} {w : World} {vs : List Value} : ∀ {js : List (Nat × RC)} {θ : List Loc} {H H1 : List Blk} {as as1 : List AV}, nilsS H as js = some (H1, as1) → HRel E w0 X θ0 θ H w → All2 (AV.R θ H) as vs →
  ∃ τ, HRel E w0 X θ0 (θ ++ τ) H1 w ∧ All2 (AV.R (θ ++ τ) H1) as1 vs ∧ HLe H H1
 | [], θ, H, H1, as, as1, h, hr, ha => by cases h; exact ⟨[], by simpa using hr, by simpa using ha, HLe.refl _⟩
 | (j, R) :: l, θ, H, H1, as, as1, h, hr, ha => by
  unfold nilsS at h
  split at h
  ·rename_i hj
   obtain ⟨v, hv, hR⟩ := ha.get j _ hj
   obtain ⟨n1, n2⟩ := append_none hr R none
   have hv' : v = .slice none 0 0 := hR
   have ha2 : All2 (AV.R (θ ++ [⟨0, 0, 0⟩]) (H ++ [.row R [] true])) as vs := ha.mono fun _ _ => AV.R_mono hr.len (HLe.snoc _ _)
   have ha3 := ha2.set j (.one (.e (.sl H.length 0 0))) v (by rw [hv']; exact n2)
   have e : vs.set j v = vs := by
    apply List.ext_getElem?
    intro i
    rw [List.getElem?_set]
    by_cases hij : j = i
    ·subst hij
     rw [if_pos rfl, if_pos (lt_of_getElem? hv), hv]
    ·simp [hij]
   rw [e] at ha3
   obtain ⟨τ, k1, k2, k3⟩ := nilsS_good h n1 ha3
   exact ⟨[⟨0, 0, 0⟩] ++ τ, by simpa using k1, by simpa using k2, (HLe.snoc _ _).trans k3⟩
  ·cases h

def itsLt (n : Nat) : List It → Bool
 | [] => true
 | .own r :: l => Nat.blt r n && itsLt n l
 | .ro r :: l => Nat.blt r n && itsLt n l
 | .view _ :: l => itsLt n l

theorem itsLt_get {n : Nat} : ∀ {its : List It}, itsLt n its = true → ∀ (i r : Nat), its[i]? = some (.own r) ∨ its[i]? = some (.ro r) → r < n
 | [], _, i, r, h => by simp at h
 | it :: l, hl, i, r, h => by
  cases i with
  | zero =>
   simp at h
   rcases h with rfl | rfl <;>
   ·simp only [itsLt, Bool.and_eq_true] at hl
    exact Nat.le_of_ble_eq_true hl.1
  | succ i =>
   refine itsLt_get (its := l) ?_ i r (by simpa using h)
   cases it <;> simp only [itsLt, Bool.and_eq_true] at hl <;> first | exact hl.2 | exact hl

section
variable {E : Env} {Γ : Ctx} {θ : List Loc} {st : St} {a : Act} {w : World}

theorem argsS_R (hr : Rel E Γ θ st a w) : ∀ {xs : List Operand} {vs : List AV}, argsS st xs = some vs → All2 (AV.R θ st.H) vs (xs.map a.eval)
 | [], vs, h => by cases h; trivial
 | x :: l, vs, h => by
  unfold argsS at h
  split at h
  ·rename_i v us hv hus
   cases h
   exact ⟨ev_R hr hv, argsS_R hr hus⟩
  ·cases h

theorem cap_R {θ : List Loc} {H : List Blk} : ∀ {cap : List CE} {vs : List Value}, All2 (CE.R θ H) cap vs → All2 (AV.R θ H) (cap.map fun x => AV.one (.e x)) vs
 | [], [], _ => trivial
 | _ :: _, _ :: _, h => ⟨h.1, cap_R h.2⟩
 | [], _ :: _, h => h.elim
 | _ :: _, [], h => h.elim

theorem WO_callN {ops : Array Oper} {Q : Exit → St → Prop} {l l2 : List Nat} {i : Nat} {o : Oper} {g : Nat} {args : List AV} {ext H1 : List Blk} {res : AV} {ext' : List Blk} (js : List (Nat × RC)) (its : List It) (fn : Func)
  (hl : l = i :: l2) (ho : ops[i]? = some o) (hg : guardS ops st o = some true) (hc : callS st o js its = some (g, H1, args, ext)) (hf : E.P.funcs[g]? = some fn) (hb : fn.body.isSome = true) (hn : (fn.name == "runtime.NumGoroutine") = false)
  (hF : FOk E g args ext res ext') (hok : itOk H1 its ext') (hlt : (itsLt H1.length its && dstOk Γ.nt o.dst) = true)
  (k : WO E Γ ops l2 Q ⟨putT st.T o.dst (takeS H1 its res ext').1, (takeS H1 its res ext').2⟩) : WO E Γ ops l Q st := by
 subst hl
 intro θ a w hr
 simp only [Bool.and_eq_true] at hlt
 simp only [wpOps, ho]
 rw [guardS_good hr hg]
 simp only [if_true]
 left
 unfold Oper.wp
 unfold callS at hc
 split at hc
 case h_2 => cases hc
 rename_i c hop
 split at hc
 case h_2 => cases hc
 rename_i f hcal
 split at hc
 case h_2 => cases hc
 rename_i g' cap as hev has
 split at hc
 case h_2 => cases hc
 rename_i H1' as1 hnil
 split at hc
 case h_2 => cases hc
 rename_i a' e' hgive
 cases hc
 obtain ⟨cvs, hfv, hcap⟩ := ev_R hr hev
 have hall := All2.append (argsS_R hr has) (cap_R hcap)
 obtain ⟨τ1, hr1, hall1, hle1⟩ := nilsS_good hnil hr.h hall
 obtain ⟨hcal1, hcal2, hnd, hap⟩ := give_good hr1 hgive hall1
 have hrun : (execOp a.eval o).run E.P w = .ok (.enter g ⟨c.args.toList.map a.eval ++ cvs⟩) w := by
  unfold execOp
  rw [hop]
  have e1 : c.args.map a.eval = ⟨c.args.toList.map a.eval⟩ := by apply Array.ext'; simp
  obtain ⟨body, hbody⟩ := Option.isSome_iff_exists.1 hb
  have e2 : fn.body.isNone = false := by rw [hbody]; rfl
  simp only [resolve, hcal, hfv, Sem.run_bind, Sem.run_pure, Result.andThen_ok, Deferred.ofValue, invoke, callFunc, run_program, hf, hn, e2, e1]
  simp
 rw [hrun]
 rw [Oper.upon_enter]
 refine (hF w _ _ _ hcal1 hcal2).mono ?_
 rintro e w' ⟨v, θ', rfl, hres, hR⟩
 simp only
 obtain ⟨τ, h1, h2, h3⟩ := take_good (args := as1) hr1 hnd hap (itsLt_get hlt.1) hR hres hok
 rw [List.append_assoc] at h1 h2
 exact k _ _ _ (hr.put (dstOk_lt hlt.2) h2 h1 (hle1.trans h3))

theorem WO_call {ops : Array Oper} {Q : Exit → St → Prop} {l l2 : List Nat} {i : Nat} {o : Oper} {g : Nat} {args : List AV} {ext : List Blk} {res : AV} {ext' : List Blk} (its : List It) (fn : Func)
  (hl : l = i :: l2) (ho : ops[i]? = some o) (hg : guardS ops st o = some true) (hc : callS st o [] its = some (g, st.H, args, ext)) (hf : E.P.funcs[g]? = some fn) (hb : fn.body.isSome = true) (hn : (fn.name == "runtime.NumGoroutine") = false)
  (hF : FOk E g args ext res ext') (hok : itOk st.H its ext') (hlt : (itsLt st.H.length its && dstOk Γ.nt o.dst) = true)
  (k : WO E Γ ops l2 Q ⟨putT st.T o.dst (takeS st.H its res ext').1, (takeS st.H its res ext').2⟩) : WO E Γ ops l Q st := WO_callN [] its fn hl ho hg hc hf hb hn hF hok hlt k

end
end Go.Proofs.YtghdgncfcfdlfaaGreatDoor
