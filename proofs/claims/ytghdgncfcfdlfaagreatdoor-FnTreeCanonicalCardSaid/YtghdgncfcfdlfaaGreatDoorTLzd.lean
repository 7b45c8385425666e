/- What package variables hold, out of a row's list: the cells of tables. Conditions: none. -/
import Derived.Test.YtghdgncfcfdlfaaGreatDoorTLzc
import Derived.Deep.DeepHandedRow
import Derived.Lib.LaidTab
namespace Go.Proofs.YtghdgncfcfdlfaaGreatDoor
open Go Go.ChangeShapes Go.WideShapes Go.ChangeAt Go.RowKit
set_option linter.unusedVariables false

/-- the cells of a datum that is a literal -/
def litCells : DataW Unit → List Value
 | .lit (.bool b) => [.bool b]
 | .lit (.int k n) => [.int k n]
 | _ => []
/-- data of a type whose cells are known -/
def Cells (P : Program) (W : World) (t : TypeId) (f : DataW Unit → List Value) : Prop :=
 ∀ (fuel : Nat) (cs : List Value) (x : DataW Unit × List MemPlace), DataW.trod (fun _ => ()) P W 0 (fun _ => true) false fuel t cs = some x → cs = f x.1
theorem cells_bool {P : Program} {W : World} {t : TypeId} (h : P.underlying t = some .bool) : Cells P W t litCells := by
 intro fuel cs x hx
 obtain ⟨b, rfl, rfl⟩ := DataW.trod_bool h hx
 rfl
theorem cells_int {P : Program} {W : World} {t : TypeId} {k : IntKind} (h : P.underlying t = some (.int k)) : Cells P W t litCells := by
 intro fuel cs x hx
 obtain ⟨n, rfl, rfl, _⟩ := DataW.trod_int h hx
 rfl
def aggCells (f : DataW Unit → List Value) : DataW Unit → List Value
 | .agg ds => ds.flatMap f
 | _ => []
theorem cells_array {P : Program} {W : World} {t e : TypeId} {n : Nat} {f : DataW Unit → List Value} (h : P.underlying t = some (.array n e)) (hsz : P.cellsOf t = n * P.cellsOf e) (he : Cells P W e f) : Cells P W t (aggCells f) := by
 intro fuel cs x hx
 obtain ⟨xs, m, rfl, rfl, hl, hn, hi⟩ := DataW.trod_array h hx
 show cs = (xs.map (·.1)).flatMap f
 have key : ∀ (k : Nat) (ys : List (DataW Unit × List MemPlace)), xs.drop k = ys → cs.drop (k * P.cellsOf e) = (ys.map (·.1)).flatMap f := by
  intro k ys
  induction ys generalizing k with
  | nil =>
   intro h1
   have := List.drop_eq_nil_iff.1 h1
   rw [List.drop_eq_nil_of_le (by rw [hl, hsz]; exact Nat.mul_le_mul_right _ (by omega))]; rfl
  | cons y ys ih =>
   intro h1
   have hk : k < xs.length := by
    rcases Nat.lt_or_ge k xs.length with h2 | h2
    ·exact h2
    ·rw [List.drop_eq_nil_of_le h2] at h1; cases h1
   rw [List.drop_eq_getElem_cons hk, List.cons.injEq] at h1
   have h2 := hi k (by omega)
   rw [List.getElem?_eq_getElem hk, h1.1] at h2
   have h3 := he _ _ _ h2
   have h4 := ih (k + 1) h1.2
   rw [List.map_cons, List.flatMap_cons, ← h3, ← h4]
   rw [Nat.succ_mul, ← List.drop_drop, List.take_append_drop]
 have := key 0 xs rfl
 simpa using this

theorem laidVars_mem {P : Program} {W : World} : ∀ {l : List (String × DataW Unit)} {ps : List MemPlace}, DataW.LaidVars P W l ps → ∀ (i : Nat) (n : String) (d : DataW Unit), l[i]? = some (n, d) →
  ∃ g t cs fuel p, P.globalNamed n = some g ∧ (P.globals[g]?).map (·.type) = some t ∧ W.var? P n = some cs ∧ DataW.trod (fun _ => ()) P W 0 (fun _ => true) false fuel t cs.toList = some (d, p)
 | [], _, _, i, n, d, hi => by simp at hi
 | (n0, d0) :: l, ps, h, i, n, d, hi => by
  obtain ⟨g, t, cs, fuel, p, q, h1, h2, h3, h4, h5, _⟩ := h
  cases i with
  | zero =>
   simp only [List.getElem?_cons_zero, Option.some.injEq, Prod.mk.injEq] at hi
   obtain ⟨rfl, rfl⟩ := hi
   exact ⟨g, t, cs, fuel, p, h1, h2, h3, h4⟩
  | succ i => exact laidVars_mem h5 i n d (by simpa using hi)
/-- the cells of a listed variable -/
theorem laid_cells {P : Program} {W : World} {l : List (String × DataW Unit)} (h : laidMet P l W) (i : Nat) {n : String} {d : DataW Unit} (hi : l[i]? = some (n, d)) {g : Nat} {t : TypeId} (hg : P.globalNamed n = some g)
  (ht : (P.globals[g]?).map (·.type) = some t) {f : DataW Unit → List Value} (hf : Cells P W t f) : W.var? P n = some ⟨f d⟩ := by
 obtain ⟨ps, hl, _, _⟩ := h
 obtain ⟨g', t', cs, fuel, p, h1, h2, h3, h4⟩ := laidVars_mem hl i n d hi
 obtain rfl := Option.some.inj (hg.symm.trans h1)
 obtain rfl := Option.some.inj (ht.symm.trans h2)
 have := hf _ _ _ h4
 rw [h3]
 congr 1
 cases cs
 simp at this ⊢
 exact this
theorem var_lt {P : Program} {W : World} {n : String} {cs : Array Value} {g : Nat} (hg : P.globalNamed n = some g) (h : W.var? P n = some cs) : g < W.heap.size := by
 unfold World.var? at h
 rw [hg] at h
 simp only [Option.bind_some] at h
 cases hh : W.heap[g]? with
 | none => rw [hh] at h; cases h
 | some o => exact (Array.getElem?_eq_some_iff.1 hh).1
theorem var_stays {P : Program} {W w' : World} {n : String} {cs : Array Value} {g : Nat} (hg : P.globalNamed n = some g) (h : W.var? P n = some cs) (hf : Frm W (fun _ => False) w') : w'.var? P n = some cs := by
 have hlt := var_lt hg h
 unfold World.var? at h ⊢
 rw [hg] at h ⊢
 simp only [Option.bind_some] at h ⊢
 rw [hf.block g hlt (fun h => h)]; exact h
/-- a table that the code reads -/
theorem table_of {P : Program} {W : World} {n : String} {vs : List Value} {g : Nat} {R : RC} {xs : List R.A} (hg : P.globalNamed n = some g) (h : W.var? P n = some ⟨vs⟩) (hv : vs = (xs.flatMap R.enc).map CV.val) :
  g < W.heap.size ∧ ∀ (k : Nat) (x : R.A), xs[k]? = some x → ∀ (o : Nat) (y : CV), (R.enc x)[o]? = some y → W.cell? ⟨g, k * R.sz + o, none⟩ = some y.val := by
 refine ⟨var_lt hg h, fun k x hk o y hy => ?_⟩
 rw [World.var?_cell hg h, List.getElem?_toArray, hv, List.getElem?_map, flat_at xs k x hk o y hy]; rfl

/-- a listed variable of an interface's type -/
theorem laid_iface {P : Program} {W : World} {l : List (String × DataW Unit)} (h : laidMet P l W) (i : Nat) {n : String} {d : DataW Unit} (hi : l[i]? = some (n, d)) {g : Nat} {t : TypeId} {ms : Array (String × TypeId)} (hg : P.globalNamed n = some g)
  (ht : (P.globals[g]?).map (·.type) = some t) (hu : P.underlying t = some (.interface ms)) : ∃ ev, W.cell? ⟨g, 0, none⟩ = some ev ∧ (ev = .nilIface ∨ ∃ te pe, ev = .iface te pe) := by
 obtain ⟨ps, hl, _, _⟩ := h
 obtain ⟨g', t', cs, fuel, p, h1, h2, h3, h4⟩ := laidVars_mem hl i n d hi
 obtain rfl := Option.some.inj (hg.symm.trans h1)
 obtain rfl := Option.some.inj (ht.symm.trans h2)
 have h5 : ∃ v, cs.toList = [v] ∧ (v = .nilIface ∨ ∃ te pe, v = .iface te pe) := by
  cases fuel with
  | zero => simp [DataW.trod] at h4
  | succ m =>
   unfold DataW.trod at h4
   rw [hu] at h4
   split at h4 <;> simp_all
 obtain ⟨v, h6, h7⟩ := h5
 refine ⟨v, ?_, h7⟩
 rw [World.var?_cell hg h3]
 cases cs
 simp at h6
 subst h6; rfl
theorem cell_stays {W w' : World} {g : Nat} {v : Value} (h : W.cell? ⟨g, 0, none⟩ = some v) (hf : Frm W (fun _ => False) w') : w'.cell? ⟨g, 0, none⟩ = some v := by
 unfold World.cell? at h ⊢
 have hlt : g < W.heap.size := by
  cases hh : W.heap[g]? with
  | none => simp [hh] at h
  | some o => exact (Array.getElem?_eq_some_iff.1 hh).1
 rw [hf.block g hlt (fun h => h)]; exact h
end Go.Proofs.YtghdgncfcfdlfaaGreatDoor
