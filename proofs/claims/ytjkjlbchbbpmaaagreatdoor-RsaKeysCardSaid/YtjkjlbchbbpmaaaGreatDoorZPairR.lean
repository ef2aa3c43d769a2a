/- An RSA key, by value: opened and shut. -/
import Derived.Test.YtjkjlbchbbpmaaaGreatDoorZPost
import Derived.SizedLaws
import Derived.ChangeMaps5
import Derived.Lib.SmallJoins
namespace Go.Proofs.YtjkjlbchbbpmaaaGreatDoor
open Go.ChangeShapes Go.WideShapes Go.ChangeAt Go.RowKit

section
variable {H : Type} {enc : TypeId × Value → H} {w : World} {base : Nat} {spare : Nat → Bool} {held : Bool}
theorem rkey_cells : Tryz.prog.cellsOf 23 = 2 := by kernel_rfl
theorem rstr_cells : Tryz.prog.cellsOf 9 = 1 := by kernel_rfl
set_option maxRecDepth 100000 in
theorem open_rkey {r : Reach} {b0 : Nat} {v : Value} {d : DataW H} {p : List MemPlace}
    (hv : Value.okWide Tryz.prog w r b0 23 v) (h : DataW.Trod enc Tryz.prog w base spare held 23 v d p) :
    ∃ s0 s1 : ByteArray, v = .agg #[.string s0, .string s1] ∧ d = .agg [.lit (.string s0.data.toList), .lit (.string s1.data.toList)] ∧ p = [] ∧ s0.size ≤ maxLen ∧ s1.size ≤ maxLen := by
  have he := Tryz.underlying9
  simp only [Value.okWide, Tryz.underlying23] at hv
  obtain ⟨cs, rfl, hsz, _⟩ := hv
  obtain ⟨c0, c1, rfl⟩ : ∃ c0 c1, cs = #[c0, c1] := by
    rw [rkey_cells] at hsz
    match cs, hsz with
    | ⟨[c0, c1]⟩, _ => exact ⟨c0, c1, rfl⟩
  obtain ⟨fuel, hf⟩ := h
  obtain ⟨y0, y1, m, hx, _, h0, h1⟩ := trod_struct2 Tryz.underlying23 hf
  simp only [rstr_cells, Value.cells, List.drop_zero, List.drop_succ_cons, List.take_succ_cons, List.take_zero] at h0 h1
  obtain ⟨s0, e0, f0, z0⟩ := DataW.trod_string he h0
  obtain ⟨s1, e1, f1, z1⟩ := DataW.trod_string he h1
  simp at e0 e1
  subst e0 e1 f0 f1
  simp only [List.append_nil, Prod.mk.injEq] at hx
  exact ⟨s0, s1, rfl, hx.1, hx.2, z0, z1⟩
theorem shut_rkey {s0 s1 : ByteArray} (h0 : s0.size ≤ maxLen) (h1 : s1.size ≤ maxLen) :
    DataW.Trod enc Tryz.prog w base spare held 23 (.agg #[.string s0, .string s1]) (.agg [.lit (.string s0.data.toList), .lit (.string s1.data.toList)]) [] := by
  have he := Tryz.underlying9
  refine ⟨2, ?_⟩
  have := trod_struct2_mk (enc := enc) (w := w) (base := base) (spare := spare) (held := held) (n := 1) (cs := [.string s0, .string s1]) (y0 := (.lit (.string s0.data.toList), [])) (y1 := (.lit (.string s1.data.toList), [])) Tryz.underlying23 (by rw [rkey_cells]; rfl)
    (by simp [DataW.trod, he, h0, rstr_cells]) (by simp [DataW.trod, he, h1, rstr_cells])
  show DataW.trod enc Tryz.prog w base spare held 2 23 [.string s0, .string s1] = _
  simpa using this
end
end Go.Proofs.YtjkjlbchbbpmaaaGreatDoor
