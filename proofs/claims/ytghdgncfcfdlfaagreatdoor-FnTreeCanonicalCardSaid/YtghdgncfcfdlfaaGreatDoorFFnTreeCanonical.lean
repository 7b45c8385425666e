/- The law FnTreeCanonical: for all of its arguments the call returns true and leaves them as they were; the card over it. Conditions: none. -/
import Derived.Test.YtghdgncfcfdlfaaGreatDoorPL1
import Derived.Test.YtghdgncfcfdlfaaGreatDoorTLzd
import Derived.Test.YtghdgncfcfdlfaaGreatDoorRows
import Derived.Test.YtghdgncfcfdlfaaGreatDoorCards
import Derived.Test.YtghdgncfcfdlfaaGreatDoorTie
import Derived.WalkKit
import Derived.ProofKit
import Derived.OpenShut
import Derived.Deep.DeepHandedRow
import Derived.Deep.DeepWitnessRowRef
import Derived.Shelf.Vars
import Derived.Lib.LaidTab
namespace Go.Proofs.YtghdgncfcfdlfaaGreatDoor
open Go Go.ChangeShapes Go.WideShapes Go.ChangeAt Go.RowKit
set_option linter.unusedVariables false

theorem own_knob : ownKnob Tryz.prog.godebug = none := by kernel_rfl
theorem laid_out : laidOutB Tryz.prog = true := by kernel_rfl

theorem fok_FnTreeCanonical (ds : List AD) (h : All2 AD.isK ds [.sl .u8]) : FOk EE 6 (AD.avs 0 ds) (AD.blks ds) (B true) (AD.blks ds) := by
 cases ds with | nil => exact h.elim | cons d0 ds => ?_
 cases ds with | cons _ _ => exact h.2.elim | nil => ?_
 obtain ⟨h0, _⟩ := h
 obtain ⟨x0, rfl, g0⟩ := isK_sl h0
 obtain ⟨n, hn⟩ := law_FnTreeCanonical x0 g0
 exact laws_FnTreeCanonical_ok n x0 true hn

theorem g_4 : Tryz.prog.globalNamed "internal/strconv.uint64pow10" = some 4 := by kernel_rfl
theorem gt_4 : (Tryz.prog.globals[4]?).map (·.type) = some 162 := by kernel_rfl
theorem lc_4 {W : World} (h : laidMet Tryz.prog Rows.fnTreeCanonicalRow.laid W) : W.var? Tryz.prog "internal/strconv.uint64pow10" = some ⟨aggCells litCells Rows.laid_internal_strconv_uint64pow10⟩ := laid_cells h 2 rfl g_4 gt_4 (cells_array Tryz.underlying162 (by kernel_rfl) (cells_int Tryz.underlying134))
theorem g_2 : Tryz.prog.globalNamed "strconv.ErrRange" = some 2 := by kernel_rfl
theorem gt_2 : (Tryz.prog.globals[2]?).map (·.type) = some 55 := by kernel_rfl
theorem lc_2 {W : World} (h : laidMet Tryz.prog Rows.fnTreeCanonicalRow.laid W) : ∃ ev, W.cell? ⟨2, 0, none⟩ = some ev ∧ (ev = .nilIface ∨ ∃ te pe, ev = .iface te pe) := laid_iface h 4 rfl g_2 gt_2 Tryz.underlying55
theorem g_1 : Tryz.prog.globalNamed "strconv.ErrSyntax" = some 1 := by kernel_rfl
theorem gt_1 : (Tryz.prog.globals[1]?).map (·.type) = some 55 := by kernel_rfl
theorem lc_1 {W : World} (h : laidMet Tryz.prog Rows.fnTreeCanonicalRow.laid W) : ∃ ev, W.cell? ⟨1, 0, none⟩ = some ev ∧ (ev = .nilIface ∨ ∃ te pe, ev = .iface te pe) := laid_iface h 5 rfl g_1 gt_1 Tryz.underlying55
theorem lc_0 {W : World} (h : W.ShapedOpen Tryz.prog) : ∃ m, W.cell? ⟨0, 0, none⟩ = some (.int .i64 m) := cell_of_shapedOpen_int (zero := #[.int .i64 0]) (t := 3) h (of_decide_eq_true (by kernel_rfl)) (by kernel_rfl) rfl (by kernel_rfl) (by kernel_rfl) Tryz.underlying3
theorem hK {W : World} (h : laidMet Tryz.prog Rows.fnTreeCanonicalRow.laid W) (hsh : W.ShapedOpen Tryz.prog) (w' : World) (hf : Frm W (fun _ => False) w') : EE.K w' := ⟨var_stays g_4 ((lc_4 h).trans (by kernel_rfl)) hf, (lc_0 hsh).imp fun _ k => cell_stays k hf, (lc_1 h).imp fun _ k => ⟨cell_stays k.1 hf, k.2⟩, (lc_2 h).imp fun _ k => ⟨cell_stays k.1 hf, k.2⟩⟩

theorem hG {W : World} (hL : laidMet Tryz.prog Rows.fnTreeCanonicalRow.laid W) (g : Nat) (R : RC) (xs : List R.A) (h : EE.G g = some ⟨R, xs⟩) :
  g < W.heap.size ∧ ∀ (k : Nat) (x : R.A), xs[k]? = some x → ∀ (o : Nat) (y : CV), (R.enc x)[o]? = some y → W.cell? ⟨g, k * R.sz + o, none⟩ = some y.val := by cases h

noncomputable def hsize (os : Os) : Nat := (World.holding Tryz.prog os ⟨#[], #[], []⟩).heap.size
noncomputable def laidWorld (os : Os) : World :=
 { World.holding Tryz.prog os ⟨#[], #[], []⟩ with heap := ((((((((((World.holding Tryz.prog os ⟨#[], #[], []⟩).heap.modify 8 (fun o => match o with | .cells _ t frozen => .cells ⟨aggCells litCells Rows.laid_math_bits_deBruijn32tab⟩ t frozen | o => o)).modify 9 (fun o => match o with | .cells _ t frozen => .cells ⟨aggCells litCells Rows.laid_math_bits_deBruijn64tab⟩ t frozen | o => o)).modify 4 (fun o => match o with | .cells _ t frozen => .cells ⟨aggCells litCells Rows.laid_internal_strconv_uint64pow10⟩ t frozen | o => o)).modify 7 (fun o => match o with | .cells _ t frozen => .cells ⟨aggCells (aggCells litCells) Rows.laid_unicode_utf8_acceptRanges⟩ t frozen | o => o)).modify 2 (fun o => match o with | .cells _ t frozen => .cells #[.iface 158 (.pointer (some ⟨hsize os + 0, 0, none⟩))] t frozen | o => o)).modify 1 (fun o => match o with | .cells _ t frozen => .cells #[.iface 158 (.pointer (some ⟨hsize os + 1, 0, none⟩))] t frozen | o => o)).modify 6 (fun o => match o with | .cells _ t frozen => .cells ⟨aggCells litCells Rows.laid_unicode_utf8_first⟩ t frozen | o => o)).push (.cells #[.string ⟨⟨[118, 97, 108, 117, 101, 32, 111, 117, 116, 32, 111, 102, 32, 114, 97, 110, 103, 101]⟩⟩] 160)).push (.cells #[.string ⟨⟨[105, 110, 118, 97, 108, 105, 100, 32, 115, 121, 110, 116, 97, 120]⟩⟩] 160)) }
theorem laid_met (os : Os) : laidMet Tryz.prog Rows.fnTreeCanonicalRow.laid ((laidWorld os).forCall (fun _ _ => 0) ⟨#[], #[.slice none 0 0], []⟩).memory :=
 laidMet_of_run' 8 (by kernel_rfl) (by kernel_rfl)
theorem reads (os : Os) {H : Type} (enc : TypeId × Value → H) : ∃ x, DataW.whole enc Tryz.prog ((laidWorld os).forCall (fun _ _ => 0) ⟨#[], #[.slice none 0 0], []⟩).memory Tryz.f6.params.toList Rows.fnTreeCanonicalSpec.vars false (#[.slice none 0 0] : Array Value).toList 8 = some x :=
 Option.isSome_iff_exists.1 (by kernel_rfl)

set_option maxRecDepth 100000 in
theorem lifted (os : Os) (started : os.Started) (H : Type) (enc : TypeId × Value → H) (F : Stop.Interp) :
  ReturnsInHanded {} Tryz.checked os 6 .any ((OpenSpec.ofChange Rows.fnTreeCanonicalSpec).preRow enc Tryz.prog Tryz.f6 Rows.fnTreeCanonicalRow.domain false Rows.fnTreeCanonicalRow.laid) (((OpenSpec.ofChange Rows.fnTreeCanonicalSpec).at F).post enc Tryz.prog Tryz.f6 false true false false) := by
 obtain ⟨x, hx⟩ := reads os enc
 refine returnsInHanded_of_row (C := Tryz.checked) (s := OpenSpec.ofChange Rows.fnTreeCanonicalSpec) own_knob started (by kernel_rfl) Tryz.func6
  (witness_row_atRef (enc := enc) (C := Tryz.checked) false (laidWorld os) #[.slice none 0 0] rfl (by kernel_rfl) (by kernel_rfl) (by kernel_rfl)
   (OpenSpec.preRow_of_cond 8 hx rfl (fun k hk => by cases hk) (by kernel_rfl) (laid_met os))) ?_
 intro W base args ds gs before hval hW _ _ _ hL hsh _
 exact law_contractV (E := EE) (s := Rows.fnTreeCanonicalSpec) [.sl .u8] 4 [] (by kernel_rfl) (by kernel_rfl) (by kernel_rfl) rfl (by kernel_rfl) (fun ds gs h1 h2 => by match ds, gs, h1, h2 with | [d0], [], _, _ => rfl) laid_out (by kernel_rfl) fok_FnTreeCanonical W base args ds gs before hval hW (hG hL) (hK hL hsh)

theorem said : Rows.FnTreeCanonicalSaid :=
 OpenClaim.holds_of_cond 6 Tryz.f6 rfl rfl rfl rfl rfl rfl rfl ⟨rfl, rfl, rfl, rfl, rfl⟩ rfl rfl rfl rfl rfl (by kernel_rfl) Tryz.func6 (by kernel_rfl)
  (of_decide_eq_true (by kernel_rfl)) (by unfold Func.isWrapper; first | (rw [if_pos (by decide +kernel)]; kernel_rfl) | (rw [if_neg (by decide +kernel)]; exact ⟨rfl, rfl⟩))
  (fun os started H enc _ F => by rw [OpenClaim.pre_eq_preRow]; exact lifted os started H enc F)

theorem wants_all : Tryz.f6.params.all (fun t => !Tryz.prog.wantsStandIn t) = true := by kernel_rfl
theorem plain_params (f : FuncId) (fn : Func) (hf : Tryz.pinned.checked.prog.funcNamed "loop.example/treelocks/laws.FnTreeCanonical" = some f) (hfn : Tryz.pinned.checked.prog.funcs[f]? = some fn) :
  true = Tryz.pinned.checked.prog.looks [] ∧ ∀ (j : Nat) t, fn.params[j]? = some t → Tryz.pinned.checked.prog.wantsStandIn t = false := by
 obtain rfl : f = 6 := Option.some.inj ((show Tryz.prog.funcNamed "loop.example/treelocks/laws.FnTreeCanonical" = some 6 by kernel_rfl).symm.trans hf) |>.symm
 obtain rfl : fn = Tryz.f6 := (Option.some.inj (Tryz.func6.symm.trans hfn)).symm
 refine ⟨by kernel_rfl, fun j t ht => ?_⟩
 obtain ⟨hj, rfl⟩ := Array.getElem?_eq_some_iff.1 ht
 exact (Bool.not_eq_true' _).mp (Array.all_eq_true.1 wants_all j hj)

theorem FnTreeCanonical_holds : Rows.FnTreeCanonicalCardSaid :=
 Claim7.holds_tied_plain_at .later [] _ _ _ _ said (fun _ h => by cases h) (by kernel_rfl) (fun _ h => by cases h) fnTreeCanonical_row_tie rfl ⟨rfl, rfl⟩ (by kernel_rfl) rfl plain_params (by kernel_rfl)
end Go.Proofs.YtghdgncfcfdlfaaGreatDoor
