/- Facts that came in, with what PolicyBlind wants: bounds by bulk, and of lists that are none. -/
import Derived.Test.YthpagppipifgeaaGreatDoorZLF
namespace Go.Proofs.YthpagppipifgeaaGreatDoor
open Go.ChangeShapes Go.WideShapes Go.ChangeAt Go.RowKit
open Go.ChangeMaps
section
variable {H : Type} {enc : TypeId × Value → H} {w : World} {base : Nat} {held : Bool}
theorem factl_nil {fuel : Nat} {cs : List Value} {x : DataW H × List MemPlace} {ad : Option Addr} {n c : Nat} (h : DataW.trod enc Tryz.prog w base (fun _ => true) held fuel 25 cs = some x) (hc : cs = [.slice ad n c]) : ad = none → c = 0 := by
  rintro rfl
  subst hc
  rcases DataW.trod_slice Tryz.underlying25 h with ⟨e, _⟩ | ⟨a, len, cap, elems, rest, m, _, e, _⟩
  · simp at e; exact e.2
  · simp at e
set_option maxRecDepth 100000 in
theorem open_facts2 {r : Reach} {b0 : Nat} {v : Value} {d : DataW H} {p : List MemPlace} (hv : Value.okWide Tryz.prog w r b0 27 v) (h : DataW.Trod enc Tryz.prog w base (fun _ => true) held 27 v d p) (hf : Fits Tryz.prog 27 d) :
    ∃ x : Fx, v = x.v ∧ FxAt w x ∧ (x.a1 = none → x.c1 = 0) ∧ (x.a2 = none → x.c2 = 0) ∧ 2 * x.cl.length + 2 * x.ce.length ≤ Rows.uptoBulk d := by
  have hu := Tryz.underlying27
  have hfc : Tryz.prog.cellsOf 25 = 1 := by kernel_rfl
  have hcz : Tryz.prog.cellsOf 27 = 4 := by kernel_rfl
  simp only [Value.okWide, hu] at hv
  obtain ⟨cs0, rfl, hsz, _⟩ := hv
  obtain ⟨fuel, hq⟩ := h
  obtain ⟨xs, n, rfl, hx, hl, hxl, hg⟩ := DataW.trod_struct hu hq
  simp only [Prod.mk.injEq] at hx
  obtain ⟨rfl, rfl⟩ := hx
  have hlen : xs.length = 4 := hxl
  rw [hcz] at hl
  obtain ⟨cs, hcs⟩ : ∃ cs, cs = (Value.agg cs0).cells.toList := ⟨_, rfl⟩
  rw [← hcs] at hl hg
  match xs, hlen with
  | [y0, y1, y2, y3], _ =>
  match cs, hl with
  | [c0, c1, c2, c3], _ =>
  have g0 := hg 0 { name := "Method", type := 9, offset := 0, embedded := false, tag := "", pkgPath := "", byteOffset := 0 } rfl
  have g1 := hg 1 { name := "Path", type := 9, offset := 1, embedded := false, tag := "", pkgPath := "", byteOffset := 16 } rfl
  have g2 := hg 2 { name := "Claims", type := 25, offset := 2, embedded := false, tag := "", pkgPath := "", byteOffset := 32 } rfl
  have g3 := hg 3 { name := "Cert", type := 25, offset := 3, embedded := false, tag := "", pkgPath := "", byteOffset := 56 } rfl
  simp only [str_cells1, hfc, List.drop_zero, List.drop_succ_cons, List.take_succ_cons, List.take_zero, List.getElem?_cons_zero, List.getElem?_cons_succ] at g0 g1 g2 g3
  obtain ⟨s0, e0, f0, _⟩ := DataW.trod_string Tryz.underlying9 g0
  obtain ⟨s1, e1, f1, _⟩ := DataW.trod_string Tryz.underlying9 g1
  simp only [List.cons.injEq, and_true] at e0 e1
  subst e0 e1 f0 f1
  obtain ⟨l2, a2, c2', e2, hx2, _, _, hb2⟩ := open_factl g2 (fits_part hu hf (i := 2) rfl rfl)
  obtain ⟨l3, a3, c3', e3, hx3, _, _, hb3⟩ := open_factl g3 (fits_part hu hf (i := 3) rfl rfl)
  have z2 := factl_nil g2 e2
  have z3 := factl_nil g3 e3
  simp only [List.cons.injEq, and_true] at e2 e3
  subst e2 e3
  refine ⟨⟨s0, s1, l2, l3, a2, c2', a3, c3'⟩, ?_, ⟨hx2, hx3⟩, z2, z3, ?_⟩
  · have : cs0 = #[.string s0, .string s1, .slice a2 l2.length c2', .slice a3 l3.length c3'] := by
      apply Array.ext'
      simpa [Value.cells] using hcs.symm
    rw [this]
  · simp only [List.map_cons, List.map_nil, Rows.uptoBulk, Rows.uptoBulkAll]
    omega
set_option maxRecDepth 100000 in
theorem open_flist {r : Reach} {b0 : Nat} {v : Value} {d : DataW H} {p : List MemPlace} (hv : Value.okWide Tryz.prog w r b0 25 v) (h : DataW.Trod enc Tryz.prog w base (fun _ => true) held 25 v d p) (hf : Fits Tryz.prog 25 d) :
    ∃ (l : List Fact) (ad : Option Addr) (c : Nat), v = .slice ad l.length c ∧ SlX w l ad c ∧ 2 * l.length ≤ Rows.uptoBulk d := by
  obtain ⟨fuel, hq⟩ := h
  obtain ⟨l, ad, c, e, hx, _, _, hb⟩ := open_factl hq hf
  refine ⟨l, ad, c, ?_, hx, hb⟩
  simp only [Value.okWide, Tryz.underlying25] at hv
  cases v with
  | slice a n k => simpa [Value.cells] using e
  | agg cs => simp [Cell.okWide, Cell.ok, Tryz.underlying25] at hv
  | _ => simp [Value.cells] at e
end
end Go.Proofs.YthpagppipifgeaaGreatDoor
