/- Requests and lists that came in: opened. -/
import Derived.Test.YtipjkjcmceeaeaaGreatDoorYOpen
namespace Go.Proofs.YtipjkjcmceeaeaaGreatDoor
open Go.ChangeShapes Go.WideShapes Go.ChangeAt Go.RowKit

section
variable {H : Type} {enc : TypeId × Value → H} {w : World} {base : Nat} {held : Bool}
theorem hd_cells2 : Tryz.prog.cellsOf 52 = 2 := by kernel_rfl
theorem str_cells1 : Tryz.prog.cellsOf 9 = 1 := by kernel_rfl
theorem int_cells1 : Tryz.prog.cellsOf 3 = 1 := by kernel_rfl
theorem hds_cells1 : Tryz.prog.cellsOf 22 = 1 := by kernel_rfl
theorem rq_cells4 : Tryz.prog.cellsOf 24 = 4 := by kernel_rfl
theorem rp_cells3 : Tryz.prog.cellsOf 36 = 3 := by kernel_rfl
theorem of_text (s : ByteArray) : ∃ l : Bs, s = bs l ∧ l.length = s.data.toList.length := ⟨s.data.toList, by cases s; simp [bs], rfl⟩
/-- How much fields weigh. -/
def hbk : List Hd → Nat
  | [] => 0
  | h :: r => h.1.length + h.2.length + 3 + hbk r
set_option maxRecDepth 100000 in
theorem open_head {fuel : Nat} {cs : List Value} {x : DataW H × List MemPlace} (h : DataW.trod enc Tryz.prog w base (fun _ => true) held fuel 52 cs = some x) :
    ∃ n v : Bs, cs = [.string (bs n), .string (bs v)] ∧ n.length + v.length + 3 ≤ Rows.uptoBulk x.1 := by
  have hu := Tryz.underlying52
  obtain ⟨xs, n, rfl, rfl, hl, hxl, hg⟩ := DataW.trod_struct hu h
  have hlen : xs.length = 2 := hxl
  rw [hd_cells2] at hl
  match xs, hlen with
  | [y0, y1], _ =>
  match cs, hl with
  | [c0, c1], _ =>
  have g0 := hg 0 { name := "Name", type := 9, offset := 0, embedded := false, tag := "", pkgPath := "", byteOffset := 0 } rfl
  have g1 := hg 1 { name := "Value", type := 9, offset := 1, embedded := false, tag := "", pkgPath := "", byteOffset := 16 } rfl
  simp only [str_cells1, List.drop_zero, List.drop_succ_cons, List.take_succ_cons, List.take_zero, List.getElem?_cons_zero, List.getElem?_cons_succ] at g0 g1
  obtain ⟨s0, e0, f0, _⟩ := DataW.trod_string Tryz.underlying9 g0
  obtain ⟨s1, e1, f1, _⟩ := DataW.trod_string Tryz.underlying9 g1
  simp only [List.cons.injEq, and_true] at e0 e1
  subst e0 e1 f0 f1
  obtain ⟨l0, rfl, k0⟩ := of_text s0
  obtain ⟨l1, rfl, k1⟩ := of_text s1
  refine ⟨l0, l1, rfl, ?_⟩
  simp only [List.map_cons, List.map_nil, Rows.uptoBulk, Rows.uptoBulkAll]
  omega
theorem row_cons {h : Hd} {hs : List Hd} {b f : Nat} (h0 : w.cell? ⟨b, f, none⟩ = some (.string (bs h.1))) (h1 : w.cell? ⟨b, f + 1, none⟩ = some (.string (bs h.2))) (hr : RowC w (HdC hs) b (f + 2)) : RowC w (HdC (h :: hs)) b f := fun j u hj => by
  have e : HdC (h :: hs) = .string (bs h.1) :: .string (bs h.2) :: HdC hs := rfl
  rw [e] at hj
  match j, hj with
  | 0, hj => simp at hj; subst hj; exact h0
  | 1, hj => simp at hj; subst hj; exact h1
  | j + 2, hj =>
    have := hr j u (by simpa using hj)
    rw [show f + (j + 2) = f + 2 + j by omega]; exact this
set_option maxRecDepth 100000 in
theorem open_heads {fuel : Nat} {cs : List Value} {x : DataW H × List MemPlace} (h : DataW.trod enc Tryz.prog w base (fun _ => true) held fuel 22 cs = some x) :
    ∃ (hs : List Hd) (ad : Option Addr) (c : Nat), cs = [.slice ad hs.length c] ∧ SlH w hs ad c ∧ hbk hs ≤ Rows.uptoBulk x.1 := by
  rcases DataW.trod_slice Tryz.underlying22 h with ⟨rfl, rfl⟩ | ⟨a, len, cap, elems, rest, m, rfl, rfl, rfl, hb, hlc, hcm, hel, hge, _, _⟩
  · exact ⟨[], none, 0, rfl, ⟨Nat.le_refl _, Nat.zero_le _, 0, 0, Or.inr ⟨rfl, rfl⟩, fun j u hj => by simp [HdC] at hj⟩, Nat.zero_le _⟩
  · have hel2 : ∀ i, i < len → ∃ (n v : Bs) (y : DataW H × List MemPlace), elems[i]? = some y ∧ w.cell? ⟨a.block, a.off + i * 2, none⟩ = some (.string (bs n)) ∧ w.cell? ⟨a.block, a.off + i * 2 + 1, none⟩ = some (.string (bs v)) ∧ n.length + v.length + 3 ≤ Rows.uptoBulk y.1 ∧ (i = 0 → a.spot = none) := by
      intro i hi
      have hsome : (elems[i]?).isSome = true := by rw [List.getElem?_eq_getElem (by omega)]; rfl
      have hq := hge i hi
      rw [hd_cells2] at hq
      obtain ⟨cs, y, hy, hcl, hcc, htr, hs⟩ := elem_cells (by omega) hq hsome
      obtain ⟨n, v, rfl, hbk⟩ := open_head htr
      exact ⟨n, v, y, hy, hcc 0 (by omega), hcc 1 (by omega), hbk, hs⟩
    have hl : ∀ m, ∀ i, m + i = len → ∃ hs : List Hd, hs.length = m ∧ RowC w (HdC hs) a.block (a.off + i * 2) ∧ hbk hs ≤ (((elems.map (·.1)).map Rows.uptoBulk).drop i).sum := by
      intro m
      induction m with
      | zero => exact fun i _ => ⟨[], rfl, fun j s hj => by simp [HdC] at hj, Nat.zero_le _⟩
      | succ m ih =>
        intro i hi
        obtain ⟨l, hl, hlc, hlb⟩ := ih (i + 1) (by omega)
        obtain ⟨n, v, y, hy, h0, h1, hbu, _⟩ := hel2 i (by omega)
        refine ⟨(n, v) :: l, by simp [hl], row_cons (h := (n, v)) h0 h1 (by rw [show a.off + i * 2 + 2 = a.off + (i + 1) * 2 by omega]; exact hlc), ?_⟩
        have hm : ((elems.map (·.1)).map Rows.uptoBulk)[i]? = some (Rows.uptoBulk y.1) := by rw [List.getElem?_map, List.getElem?_map, hy]; rfl
        obtain ⟨hil, hie⟩ := List.getElem?_eq_some_iff.1 hm
        rw [List.drop_eq_getElem_cons hil, List.sum_cons, hie]
        show n.length + v.length + 3 + hbk l ≤ _
        omega
    obtain ⟨l, hl1, hl2, hl3⟩ := hl len 0 (by omega)
    subst hl1
    refine ⟨l, some a, cap, rfl, ⟨hlc, hcm, a.block, a.off, ?_, by simpa using hl2⟩, ?_⟩
    · rcases Nat.eq_zero_or_pos l.length with h0 | h0
      · exact Or.inr ⟨rfl, h0⟩
      · left
        obtain ⟨_, _, _, _, _, _, _, hs⟩ := hel2 0 h0
        have hs := hs rfl
        obtain ⟨bl, of, sp⟩ := a; simp only at hs; subst hs; rfl
    · simp only [Rows.uptoBulk]
      rw [bulkAll_drop]
      rw [List.drop_zero] at hl3
      omega
/-- What is known of a request that came in. -/
def OpenQ (w : World) (cs : List Value) (bulk : Nat) : Prop := ∃ (q : Rq) (ad : Option Addr) (c : Nat), cs = [.string (bs q.m), .string (bs q.t), .slice ad q.hs.length c, .string (bs q.b)] ∧ SlH w q.hs ad c ∧ q.m.length + q.t.length + q.b.length + hbk q.hs + 4 ≤ bulk
set_option maxRecDepth 100000 in
theorem open_rq {fuel : Nat} {cs : List Value} {x : DataW H × List MemPlace} (h : DataW.trod enc Tryz.prog w base (fun _ => true) held fuel 24 cs = some x) : OpenQ w cs (Rows.uptoBulk x.1) := by
  have hu := Tryz.underlying24
  obtain ⟨xs, n, rfl, rfl, hl, hxl, hg⟩ := DataW.trod_struct hu h
  have hlen : xs.length = 4 := hxl
  rw [rq_cells4] at hl
  match xs, hlen with
  | [y0, y1, y2, y3], _ =>
  match cs, hl with
  | [c0, c1, c2, c3], _ =>
  have g0 := hg 0 { name := "Method", type := 9, offset := 0, embedded := false, tag := "", pkgPath := "", byteOffset := 0 } rfl
  have g1 := hg 1 { name := "Target", type := 9, offset := 1, embedded := false, tag := "", pkgPath := "", byteOffset := 16 } rfl
  have g2 := hg 2 { name := "Heads", type := 22, offset := 2, embedded := false, tag := "", pkgPath := "", byteOffset := 32 } rfl
  have g3 := hg 3 { name := "Body", type := 9, offset := 3, embedded := false, tag := "", pkgPath := "", byteOffset := 56 } rfl
  simp only [str_cells1, hds_cells1, List.drop_zero, List.drop_succ_cons, List.take_succ_cons, List.take_zero, List.getElem?_cons_zero, List.getElem?_cons_succ] at g0 g1 g2 g3
  obtain ⟨s0, e0, f0, _⟩ := DataW.trod_string Tryz.underlying9 g0
  obtain ⟨s1, e1, f1, _⟩ := DataW.trod_string Tryz.underlying9 g1
  obtain ⟨s3, e3, f3, _⟩ := DataW.trod_string Tryz.underlying9 g3
  obtain ⟨hs, ad, c, e2, hsl, hbb⟩ := open_heads g2
  simp only [List.cons.injEq, and_true] at e0 e1 e2 e3
  subst e0 e1 e2 e3 f0 f1 f3
  obtain ⟨l0, rfl, k0⟩ := of_text s0
  obtain ⟨l1, rfl, k1⟩ := of_text s1
  obtain ⟨l3, rfl, k3⟩ := of_text s3
  refine ⟨⟨l0, l1, hs, l3⟩, ad, c, rfl, hsl, ?_⟩
  simp only [List.map_cons, List.map_nil, Rows.uptoBulk, Rows.uptoBulkAll]
  omega
theorem hbk_mem : ∀ {hs : List Hd} {x : Hd}, x ∈ hs → x.1.length + x.2.length + 3 ≤ hbk hs
  | h :: r, x, hx => by
    show _ ≤ h.1.length + h.2.length + 3 + hbk r
    rcases List.mem_cons.1 hx with rfl | hx
    · omega
    · have := hbk_mem hx; omega
theorem hbk_len : ∀ hs : List Hd, hs.length ≤ hbk hs
  | [] => Nat.le_refl _
  | h :: r => by have := hbk_len r; show r.length + 1 ≤ h.1.length + h.2.length + 3 + hbk r; omega
theorem hbk_lines : ∀ hs : List Hd, (linesS hs).length ≤ 2 * hbk hs
  | [] => Nat.le_refl _
  | h :: r => by
    have h1 := hbk_lines r
    have h3 : linesS (h :: r) = lineS h ++ linesS r := rfl
    have h4 : (lineS h).length = h.1.length + 2 + h.2.length + 2 := by unfold lineS CRLF; simp only [List.length_append, List.length_cons, List.length_nil]
    rw [h3, List.length_append, h4]
    show _ ≤ 2 * (h.1.length + h.2.length + 3 + hbk r)
    omega
theorem small_bulk {q : Rq} {n : Nat} (h : q.m.length + q.t.length + q.b.length + hbk q.hs + 4 ≤ n) (hn : n ≤ 1048576) : SmallQ q := by
  have h1 := hbk_len q.hs
  have h2 := hbk_lines q.hs
  exact ⟨by omega, by omega, by omega, by omega, fun x hx => by have := hbk_mem hx; omega, by omega⟩
set_option maxRecDepth 100000 in
theorem open_request {r : Reach} {b0 : Nat} {v : Value} {d : DataW H} {p : List MemPlace} (hv : Value.okWide Tryz.prog w r b0 24 v) (h : DataW.Trod enc Tryz.prog w base (fun _ => true) held 24 v d p) :
    ∃ (q : Rq) (ad : Option Addr) (c : Nat), v = rqv q ad c ∧ SlH w q.hs ad c ∧ (Rows.uptoBulk d ≤ 1048576 → SmallQ q) := by
  simp only [Value.okWide, Tryz.underlying24] at hv
  obtain ⟨cs, rfl, hsz, _⟩ := hv
  obtain ⟨fuel, hq⟩ := h
  obtain ⟨q, ad, c, h1, h2, h3⟩ := open_rq hq
  refine ⟨q, ad, c, ?_, h2, fun hn => small_bulk h3 hn⟩
  have : cs = rqC q ad c := by
    apply Array.ext'
    simpa [Value.cells] using h1
  rw [this]
end
end Go.Proofs.YtipjkjcmceeaeaaGreatDoor
