/- The law FnExactFormatLocks: for all of its arguments the call returns true and leaves them as they were; the card over it. Conditions: none. -/
import Derived.Test.YtiboohplkihhnaaDoorPL1
import Derived.Test.YtiboohplkihhnaaDoorTLzd
import Derived.Test.YtiboohplkihhnaaDoorRows
import Derived.Test.YtiboohplkihhnaaDoorCards
import Derived.Test.YtiboohplkihhnaaDoorTie
import Derived.WalkKit
import Derived.ProofKit
import Derived.OpenShut
import Derived.Deep.DeepHandedRow
import Derived.Lib.LaidTab
namespace Go.Proofs.YtiboohplkihhnaaDoor
open Go Go.ChangeShapes Go.WideShapes Go.ChangeAt Go.RowKit
set_option linter.unusedVariables false

theorem own_knob : ownKnob Tryd.prog.godebug = none := by kernel_rfl
theorem laid_out : laidOutB Tryd.prog = true := by kernel_rfl

theorem fok_FnExactFormatLocks (ds : List AD) (h : All2 AD.isK ds [.sl .lck]) : FOk EE 3 (AD.avs 0 ds) (AD.blks ds) (B true) (AD.blks ds) := by
  cases ds with | nil => exact h.elim | cons d0 ds => ?_
  cases ds with | cons _ _ => exact h.2.elim | nil => ?_
  obtain ⟨h0, _⟩ := h
  obtain ⟨x0, rfl, g0⟩ := isK_sl h0
  obtain ⟨n, hn⟩ := law_FnExactFormatLocks x0 g0
  exact laws_FnExactFormatLocks_ok n x0 true hn

theorem g_2 : Tryd.prog.globalNamed "math/bits.deBruijn32tab" = some 2 := by kernel_rfl
theorem gt_2 : (Tryd.prog.globals[2]?).map (·.type) = some 114 := by kernel_rfl
theorem lc_2 {W : World} (h : laidMet Tryd.prog Rows.fnExactFormatLocksRow.laid W) : W.var? Tryd.prog "math/bits.deBruijn32tab" = some ⟨aggCells litCells Rows.laid_math_bits_deBruijn32tab⟩ := laid_cells h 0 rfl g_2 gt_2 (cells_array Tryd.underlying114 (by kernel_rfl) (cells_int Tryd.underlying5))
theorem g_3 : Tryd.prog.globalNamed "math/bits.deBruijn64tab" = some 3 := by kernel_rfl
theorem gt_3 : (Tryd.prog.globals[3]?).map (·.type) = some 115 := by kernel_rfl
theorem lc_3 {W : World} (h : laidMet Tryd.prog Rows.fnExactFormatLocksRow.laid W) : W.var? Tryd.prog "math/bits.deBruijn64tab" = some ⟨aggCells litCells Rows.laid_math_bits_deBruijn64tab⟩ := laid_cells h 1 rfl g_3 gt_3 (cells_array Tryd.underlying115 (by kernel_rfl) (cells_int Tryd.underlying5))
theorem g_1 : Tryd.prog.globalNamed "internal/strconv.uint64pow10" = some 1 := by kernel_rfl
theorem gt_1 : (Tryd.prog.globals[1]?).map (·.type) = some 108 := by kernel_rfl
theorem lc_1 {W : World} (h : laidMet Tryd.prog Rows.fnExactFormatLocksRow.laid W) : W.var? Tryd.prog "internal/strconv.uint64pow10" = some ⟨aggCells litCells Rows.laid_internal_strconv_uint64pow10⟩ := laid_cells h 2 rfl g_1 gt_1 (cells_array Tryd.underlying108 (by kernel_rfl) (cells_int Tryd.underlying97))
theorem g_0 : Tryd.prog.globalNamed "loop.example/treelocks/impl.together" = some 0 := by kernel_rfl
theorem gt_0 : (Tryd.prog.globals[0]?).map (·.type) = some 78 := by kernel_rfl
theorem lc_0 {W : World} (h : laidMet Tryd.prog Rows.fnExactFormatLocksRow.laid W) : W.var? Tryd.prog "loop.example/treelocks/impl.together" = some ⟨aggCells (aggCells litCells) Rows.laid_loop_example_treelocks_impl_together⟩ := laid_cells h 3 rfl g_0 gt_0 (cells_array Tryd.underlying78 (by kernel_rfl) (cells_array Tryd.underlying77 (by kernel_rfl) (cells_bool Tryd.underlying4)))
theorem hK {W : World} (h : laidMet Tryd.prog Rows.fnExactFormatLocksRow.laid W) (w' : World) (hf : Frm W (fun _ => False) w') : EE.K w' :=
  var_stays g_1 ((lc_1 h).trans (by kernel_rfl)) hf

theorem hG {W : World} (hL : laidMet Tryd.prog Rows.fnExactFormatLocksRow.laid W) (g : Nat) (R : RC) (xs : List R.A) (h : EE.G g = some ⟨R, xs⟩) :
    g < W.heap.size ∧ ∀ (k : Nat) (x : R.A), xs[k]? = some x → ∀ (o : Nat) (y : CV), (R.enc x)[o]? = some y → W.cell? ⟨g, k * R.sz + o, none⟩ = some y.val := by
    match g, h with
    | 0, h =>
      cases h
      exact table_of g_0 (lc_0 hL) rfl
    | _ + 1, h => cases h

noncomputable def laidWorld (os : Os) : World :=
  { World.holding Tryd.prog os ⟨#[], #[], []⟩ with heap := (((((World.holding Tryd.prog os ⟨#[], #[], []⟩).heap.modify 2 (fun o => match o with | .cells _ t frozen => .cells ⟨aggCells litCells Rows.laid_math_bits_deBruijn32tab⟩ t frozen | o => o)).modify 3 (fun o => match o with | .cells _ t frozen => .cells ⟨aggCells litCells Rows.laid_math_bits_deBruijn64tab⟩ t frozen | o => o)).modify 1 (fun o => match o with | .cells _ t frozen => .cells ⟨aggCells litCells Rows.laid_internal_strconv_uint64pow10⟩ t frozen | o => o)).modify 0 (fun o => match o with | .cells _ t frozen => .cells ⟨aggCells (aggCells litCells) Rows.laid_loop_example_treelocks_impl_together⟩ t frozen | o => o)) }
theorem laid_met (os : Os) : laidMet Tryd.prog Rows.fnExactFormatLocksRow.laid ((laidWorld os).forCall (fun _ _ => 0) ⟨#[], #[.slice none 0 0], []⟩).memory :=
  laidMet_of_run' 8 (by kernel_rfl) (by kernel_rfl)
theorem reads (os : Os) {H : Type} (enc : TypeId × Value → H) : ∃ x, DataW.whole enc Tryd.prog ((laidWorld os).forCall (fun _ _ => 0) ⟨#[], #[.slice none 0 0], []⟩).memory Tryd.f3.params.toList Rows.fnExactFormatLocksSpec.vars false (#[.slice none 0 0] : Array Value).toList 8 = some x :=
  Option.isSome_iff_exists.1 (by kernel_rfl)

set_option maxRecDepth 100000 in
theorem lifted (os : Os) (started : os.Started) (H : Type) (enc : TypeId × Value → H) (F : Stop.Interp) :
    ReturnsInHanded {} Tryd.checked os 3 .any ((OpenSpec.ofChange Rows.fnExactFormatLocksSpec).preRow enc Tryd.prog Tryd.f3 Rows.fnExactFormatLocksRow.domain false Rows.fnExactFormatLocksRow.laid) (((OpenSpec.ofChange Rows.fnExactFormatLocksSpec).at F).post enc Tryd.prog Tryd.f3 false true false false) := by
  obtain ⟨x, hx⟩ := reads os enc
  refine returnsInHanded_of_row (C := Tryd.checked) (s := OpenSpec.ofChange Rows.fnExactFormatLocksSpec) own_knob started (by kernel_rfl) Tryd.func3
    (witness_row_at (enc := enc) (C := Tryd.checked) false (laidWorld os) #[.slice none 0 0] rfl (by kernel_rfl) (by kernel_rfl) (by kernel_rfl)
      (OpenSpec.preRow_of_cond 8 hx rfl (fun k hk => by cases hk) (by kernel_rfl) (laid_met os))) ?_
  intro W base args ds gs before hval hW _ _ _ hL _ _
  exact law_contractV (E := EE) (s := Rows.fnExactFormatLocksSpec) [.sl .lck] 4 ["loop.example/treelocks/impl.together"] (by kernel_rfl) (by kernel_rfl) (by kernel_rfl) rfl (by kernel_rfl) (fun ds gs h1 h2 => by match ds, gs, h1, h2 with | [d0], [v0], _, _ => rfl) laid_out (by kernel_rfl) fok_FnExactFormatLocks W base args ds gs before hval hW (hG hL) (hK hL)

theorem said : Rows.FnExactFormatLocksSaid :=
  OpenClaim.holds_of_cond 3 Tryd.f3 rfl rfl rfl rfl rfl rfl rfl ⟨rfl, rfl, rfl, rfl, rfl⟩ rfl rfl rfl rfl rfl (by kernel_rfl) Tryd.func3 (by kernel_rfl)
    (of_decide_eq_true (by kernel_rfl)) (by unfold Func.isWrapper; first | (rw [if_pos (by decide +kernel)]; kernel_rfl) | (rw [if_neg (by decide +kernel)]; exact ⟨rfl, rfl⟩))
    (fun os started H enc _ F => by rw [OpenClaim.pre_eq_preRow]; exact lifted os started H enc F)

theorem wants_all : Tryd.f3.params.all (fun t => !Tryd.prog.wantsStandIn t) = true := by kernel_rfl
theorem plain_params (f : FuncId) (fn : Func) (hf : Tryd.pinned.checked.prog.funcNamed "loop.example/treelocks/laws.FnExactFormatLocks" = some f) (hfn : Tryd.pinned.checked.prog.funcs[f]? = some fn) :
    false = Tryd.pinned.checked.prog.looks [] ∧ ∀ (j : Nat) t, fn.params[j]? = some t → Tryd.pinned.checked.prog.wantsStandIn t = false := by
  obtain rfl : f = 3 := Option.some.inj ((show Tryd.prog.funcNamed "loop.example/treelocks/laws.FnExactFormatLocks" = some 3 by kernel_rfl).symm.trans hf) |>.symm
  obtain rfl : fn = Tryd.f3 := (Option.some.inj (Tryd.func3.symm.trans hfn)).symm
  refine ⟨by kernel_rfl, fun j t ht => ?_⟩
  obtain ⟨hj, rfl⟩ := Array.getElem?_eq_some_iff.1 ht
  exact (Bool.not_eq_true' _).mp (Array.all_eq_true.1 wants_all j hj)

theorem FnExactFormatLocks_holds : Rows.FnExactFormatLocksCardSaid :=
  Claim7.holds_tied_plain_at .later [] _ _ _ _ said (fun _ h => by cases h) (by kernel_rfl) (fun _ h => by cases h) fnExactFormatLocks_row_tie rfl ⟨rfl, rfl⟩ (by kernel_rfl) rfl plain_params (by kernel_rfl)
end Go.Proofs.YtiboohplkihhnaaDoor
