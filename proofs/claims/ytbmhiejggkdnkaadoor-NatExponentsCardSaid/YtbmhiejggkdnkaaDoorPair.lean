/- An array of two texts, by value: opened and shut. -/
import Derived.Test.YtbmhiejggkdnkaaDoorPost
import Derived.SizedLaws
import Derived.ChangeMaps5
import Derived.Lib.SmallJoins
namespace Go.Proofs.YtbmhiejggkdnkaaDoor
open Go.ChangeShapes Go.WideShapes Go.ChangeAt Go.RowKit

section
variable {H : Type} {enc : TypeId × Value → H} {P : Program} {w : World} {base : Nat} {spare : Nat → Bool} {held : Bool}
theorem open_pair {r : Reach} {b0 : Nat} {t e : TypeId} {v : Value} {d : DataW H} {p : List MemPlace} (ht : P.underlying t = some (.array 2 e)) (he : P.underlying e = some .string) (hc : P.cellsOf t = 2) (hce : P.cellsOf e = 1)
    (hv : Value.okWide P w r b0 t v) (h : DataW.Trod enc P w base spare held t v d p) :
    ∃ s0 s1 : ByteArray, v = .agg #[.string s0, .string s1] ∧ d = .agg [.lit (.string s0.data.toList), .lit (.string s1.data.toList)] ∧ p = [] ∧ s0.size ≤ maxLen ∧ s1.size ≤ maxLen := by
  simp only [Value.okWide, ht] at hv
  obtain ⟨cs, rfl, hsz, _⟩ := hv
  obtain ⟨c0, c1, rfl⟩ : ∃ c0 c1, cs = #[c0, c1] := by
    rw [hc] at hsz
    match cs, hsz with
    | ⟨[c0, c1]⟩, _ => exact ⟨c0, c1, rfl⟩
  obtain ⟨fuel, hf⟩ := h
  obtain ⟨xs, m, _, hx, _, hl, hg⟩ := DataW.trod_array ht hf
  match xs, hl with
  | [y0, y1], _ =>
    have h0 := hg 0 (by omega)
    have h1 := hg 1 (by omega)
    simp only [hce, Value.cells, Nat.zero_mul, Nat.one_mul, List.drop_zero, List.getElem?_cons_zero, List.getElem?_cons_succ] at h0 h1
    obtain ⟨s0, e0, f0, z0⟩ := DataW.trod_string he h0
    obtain ⟨s1, e1, f1, z1⟩ := DataW.trod_string he h1
    simp at e0 e1
    subst e0 e1 f0 f1
    simp only [List.map_cons, List.map_nil, List.flatMap_cons, List.flatMap_nil, List.append_nil, Prod.mk.injEq] at hx
    exact ⟨s0, s1, rfl, hx.1, hx.2, z0, z1⟩
theorem shut_pair {t e : TypeId} {s0 s1 : ByteArray} (ht : P.underlying t = some (.array 2 e)) (he : P.underlying e = some .string) (hc : P.cellsOf t = 2) (hce : P.cellsOf e = 1) (h0 : s0.size ≤ maxLen) (h1 : s1.size ≤ maxLen) :
    DataW.Trod enc P w base spare held t (.agg #[.string s0, .string s1]) (.agg [.lit (.string s0.data.toList), .lit (.string s1.data.toList)]) [] :=
  ⟨2, by simp [DataW.trod, Value.cells, ht, he, hc, hce, h0, h1, List.range_succ]⟩
end
end Go.Proofs.YtbmhiejggkdnkaaDoor
