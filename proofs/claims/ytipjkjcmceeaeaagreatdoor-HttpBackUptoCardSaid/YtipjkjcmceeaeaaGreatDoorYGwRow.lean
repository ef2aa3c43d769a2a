/- From a row's condition to what the library's variables hold. -/
import Derived.Test.YtipjkjcmceeaeaaGreatDoorYGw
import Derived.Test.YtipjkjcmceeaeaaGreatDoorRows
import Derived.Lib.LaidTab
namespace Go.Proofs.YtipjkjcmceeaeaaGreatDoor
open Go.RowKit

theorem tabIs_of_vars {P : Program} {W : World} {name : String} {k : IntKind} {zs : List Int} {rest : List (String × DataW Unit)} {ps : List MemPlace} {g : Nat} {t e : TypeId} {n : Nat}
    (hg : P.globalNamed name = some g) (hty : (P.globals[g]?).map (·.type) = some t) (ht : P.underlying t = some (.array n e)) (he : P.underlying e = some (.int k)) (hce : P.cellsOf e = 1) (hct : P.cellsOf t = n)
    (h : DataW.LaidVars P W ((name, Lib.tabData k zs) :: rest) ps) : Lib.TabIs P W name k zs := by
  obtain ⟨g', t', cs, fuel, p, q, hg', ht', hvar, hd, _, _⟩ := h
  obtain rfl := Option.some.inj (hg.symm.trans hg')
  obtain rfl := Option.some.inj (hty.symm.trans ht')
  unfold Lib.TabIs
  rw [hvar, ← Lib.cells_of_tab ht he hce hct hd]
theorem laidVars_tail {P : Program} {W : World} {x : String × DataW Unit} {rest : List (String × DataW Unit)} {ps : List MemPlace} (h : DataW.LaidVars P W (x :: rest) ps) : ∃ q, DataW.LaidVars P W rest q := by
  obtain ⟨n, d⟩ := x
  obtain ⟨_, _, _, _, _, q, _, _, _, _, h2, _⟩ := h
  exact ⟨q, h2⟩
set_option maxRecDepth 100000 in
theorem gw_row {W : World} (hl : laidMetH Tryz.prog Rows.httpGrowsUptoRow.laid W) (hs : W.ShapedOpen Tryz.prog) : Gw W := by
  have h1 : laidMet Tryz.prog Rows.httpGrowsUptoRow.laid W := by
    have e : (Rows.httpGrowsUptoRow.laid.filter fun x => x.2.handleName?.isSome) = [] := by kernel_rfl
    unfold laidMetH at hl
    rw [e] at hl
    exact hl
  obtain ⟨ps, hv, _⟩ := h1
  obtain ⟨q1, h2⟩ := laidVars_tail (x := ("math/bits.deBruijn32tab", Rows.laid_math_bits_deBruijn32tab)) (rest := Rows.httpGrowsUptoRow.laid.drop 1) hv
  obtain ⟨q2, h3⟩ := laidVars_tail (x := ("math/bits.deBruijn64tab", Rows.laid_math_bits_deBruijn64tab)) (rest := Rows.httpGrowsUptoRow.laid.drop 2) h2
  have h4 : DataW.LaidVars Tryz.prog W (("internal/strconv.uint64pow10", Lib.tabData .u64 Lib.pow10Tab) :: Rows.httpGrowsUptoRow.laid.drop 3) q2 := h3
  refine ⟨?_, ?_⟩
  · exact Go.Proofs.cell_of_shapedOpen_int (zero := #[.int .i64 0]) (t := 3) hs (of_decide_eq_true (by kernel_rfl)) (by kernel_rfl) rfl (by kernel_rfl) (by kernel_rfl) Tryz.underlying3
  · exact tabIs_of_vars (g := 1) (n := 20) (e := 134) (by kernel_rfl) (by kernel_rfl) Tryz.underlying150 Tryz.underlying134 (by kernel_rfl) (by kernel_rfl) h4
end Go.Proofs.YtipjkjcmceeaeaaGreatDoor
