/- Requests, replies and lists that came in: opened, and read behind the call as before. Requests and lists that came in: opened. From a row's condition to what the library's variables hold. Replies that came in: opened. -/
import Derived.Test.YtipjkjcmceeaeaaGreatDoorPost
import Derived.Test.YtipjkjcmceeaeaaGreatDoorYReq
import Derived.SizedLaws
import Derived.ChangeMaps5
import Derived.Carry
import Derived.Test.YtipjkjcmceeaeaaGreatDoorYGw
import Derived.Test.YtipjkjcmceeaeaaGreatDoorRows
import Derived.Lib.LaidTab
import Derived.Test.YtipjkjcmceeaeaaGreatDoorYAns
namespace Go.Proofs.YtipjkjcmceeaeaaGreatDoor
open Go.ChangeShapes Go.WideShapes Go.ChangeAt Go.RowKit

section
variable {H : Type} {enc : TypeId × Value → H} {w : World} {base : Nat} {spare : Nat → Bool} {held : Bool}
def Fits (P : Program) (t : TypeId) (d : DataW H) : Prop := (d.weights P t).all (· ≤ reachBytes) = true
theorem fits_str {s : ByteArray} {P : Program} {t : TypeId} (h : Fits P t (DataW.lit (H := H) (.string s.data.toList))) : s.size ≤ SB := by
  have := List.all_eq_true.1 h s.data.toList.length (by simp [DataW.weights])
  have := of_decide_eq_true this
  have e : s.data.toList.length = s.size := by simp
  have hs := SB_eq
  unfold reachBytes at this; omega
/-- A reading of a slice's elements. -/
theorem elem_cells {a : Addr} {z i n : Nat} {e : TypeId} {y : Option (DataW H × List MemPlace)} {P : Program} (hz : 0 < z) (h : (w.cells? base (a.add (i * z)) z).bind (DataW.trod enc P w base spare held n e) = y) (hy : y.isSome = true) :
    ∃ cs x, y = some x ∧ cs.length = z ∧ (∀ j, j < z → w.cell? ⟨a.block, a.off + i * z + j, none⟩ = cs[j]?) ∧ DataW.trod enc P w base spare held n e cs = some x ∧ (i = 0 → a.spot = none) := by
  cases hc : w.cells? base (a.add (i * z)) z with
  | none => rw [hc] at h; simp at h; rw [← h] at hy; simp at hy
  | some cs =>
    rw [hc] at h
    simp only [Option.bind_some] at h
    obtain ⟨x, rfl⟩ := Option.isSome_iff_exists.1 hy
    obtain ⟨_, hl, hg⟩ := World.cells?_some hc
    have hsp : i = 0 → a.spot = none := by
      intro hi
      subst hi
      have h0 := hg 0 hz
      rw [List.getElem?_eq_getElem (by omega)] at h0
      simp only [Nat.zero_mul, Addr.add, if_true] at h0
      unfold World.cell? at h0
      split at h0
      · split at h0
        · cases h0
        · next hs => simpa using hs
      · cases h0
    refine ⟨cs, x, rfl, hl, fun j hj => ?_, h, hsp⟩
    rw [← hg j hj]
    unfold Addr.add
    by_cases hi : i * z = 0
    · rw [if_pos hi]
      have hi0 : i = 0 := by rcases Nat.mul_eq_zero.1 hi with h | h; exact h; omega
      have hs := hsp hi0
      by_cases hj0 : j = 0
      · rw [if_pos hj0, hj0]
        obtain ⟨bl, of, sp⟩ := a
        simp only at hs; subst hs
        simp [hi]
      · rw [if_neg hj0]; simp [hi]
    · rw [if_neg hi]
      by_cases hj0 : j = 0
      · rw [if_pos hj0, hj0]; rfl
      · rw [if_neg hj0]
theorem bulkAll_drop (l : List (DataW H)) : Rows.uptoBulkAll l = (l.map Rows.uptoBulk).sum := by
  induction l with
  | nil => simp [Rows.uptoBulkAll]
  | cons x r ih => simp [Rows.uptoBulkAll, ih]
theorem weightsAll_mem {P : Program} {e : TypeId} : ∀ {l : List (DataW H)} {d : DataW H}, d ∈ l → ∀ n ∈ d.weights P e, n ∈ DataW.weightsAll P e l
  | d :: r, _, .head _, n, hn => by simp only [DataW.weightsAll, List.mem_append]; exact Or.inl hn
  | d :: r, d', .tail _ h, n, hn => by simp only [DataW.weightsAll, List.mem_append]; exact Or.inr (weightsAll_mem h n hn)
theorem fits_elem {P : Program} {t e : TypeId} {elems rest : List (DataW H)} (hu : P.underlying t = some (.slice e)) (h : Fits P t (DataW.slice elems rest)) : (elems.length + rest.length) * P.bytesOf e ≤ reachBytes ∧ ∀ d ∈ elems, Fits P e d := by
  unfold Fits at h
  simp only [DataW.weights, hu, List.all_cons, List.all_append, Bool.and_eq_true] at h
  refine ⟨of_decide_eq_true h.1, fun d hd => ?_⟩
  refine List.all_eq_true.2 fun n hn => ?_
  exact List.all_eq_true.1 h.2.1 n (weightsAll_mem hd n hn)
theorem fits_part {P : Program} {t : TypeId} {fs : Array Field} {parts : List (DataW H)} (hu : P.underlying t = some (.struct fs)) (h : Fits P t (DataW.agg parts)) {i : Nat} {f : Field} {d : DataW H} (hf : fs[i]? = some f) (hd : parts[i]? = some d) : Fits P f.type d := by
  unfold Fits at h
  simp only [DataW.weights, hu] at h
  refine List.all_eq_true.2 fun n hn => ?_
  refine List.all_eq_true.1 h n (DataW.weights_mem_each (j := i) (t := f.type) ?_ hd n hn)
  rw [List.getElem?_map, Array.getElem?_toList, hf]; rfl
end
theorem laidOut : laidOutB Tryz.prog = true := by kernel_rfl
theorem post_new2 {H : Type} {enc : TypeId × Value → H} {P : Program} {f : Func} {s : ChangeSpec} {apart fresh handsOn : Bool} {W W' : World} {args : Array Value} {v : Value} {ds gs : List (DataW H)} {before pa pv : List MemPlace}
    (hW : DataW.Whole enc P f.params.toList s.vars apart W args.toList ds gs before) (hb : Below W.heap.size W W') (hps : before = pa ++ pv)
    (hres : ∀ (b : Nat) (sp : Nat → Bool) (hd : Bool), DataW.TrodAll enc P W' b sp hd f.resultTypes.toList (v.resultList f.resultTypes.size) (s.fn H (ds ++ gs)).results [])
    (hargs : DataW.TrodAll enc P W' 0 (fun b => decide (b < W.heap.size)) true f.params.toList args.toList (s.fn H (ds ++ gs)).args pa)
    (hvars : ∀ sp : Nat → Bool, (∀ p ∈ before, sp p.block = true) → DataW.TrodVars enc P W' sp s.vars (s.fn H (ds ++ gs)).vars pv) :
    s.post enc P f apart fresh handsOn false W args v W' := by
  have hin : ∀ p ∈ before, (fun b => decide (b < W.heap.size)) p.block = true := fun p hp => decide_eq_true (hW.lt p hp)
  refine ⟨ds, gs, before, [], pa, pv, hW, hres _ _ _, hargs, hvars _ hin, World.keptBut_mono (fun p hp => ⟨hp, Or.inr ?_⟩) (hb.frame (· ∈ before)), fun h => by cases h⟩
  rw [hps, List.mem_append] at hp
  exact hp
theorem carry {H : Type} {enc : TypeId × Value → H} {P : Program} {t : TypeId} (hl : laidOutB P = true) (hr : P.readableRec t = true) (hrow : t < P.types.size) {W W' : World} {v : Value} {d : DataW H} {ps : List MemPlace}
    (h : DataW.Trod enc P W 0 (fun _ => true) true t v d ps) (hb : Below W.heap.size W W') (hlt : ∀ x ∈ ps, x.block < W.heap.size) :
    DataW.Trod enc P W' 0 (fun b => decide (b < W.heap.size)) true t v d ps := Below.trod hl hr hrow h hb hlt
theorem fits_arg {H : Type} {P : Program} {ts vs : List TypeId} {ds gs : List (DataW H)} (hz : (DataW.weightsEach P (ts ++ vs) (ds ++ gs)).all (· ≤ reachBytes) = true) (j : Nat) {t : TypeId} {d : DataW H} (ht : (ts ++ vs)[j]? = some t) (hd : (ds ++ gs)[j]? = some d) : Fits P t d :=
  List.all_eq_true.2 fun n hn => List.all_eq_true.1 hz n (DataW.weights_mem_each ht hd n hn)
end Go.Proofs.YtipjkjcmceeaeaaGreatDoor

namespace Go.Proofs.YtipjkjcmceeaeaaGreatDoor
open Go.ChangeShapes Go.WideShapes Go.ChangeAt Go.RowKit

section
variable {H : Type} {enc : TypeId × Value → H} {w : World} {base : Nat} {held : Bool}
theorem hd_cells2 : Tryz.prog.cellsOf 52 = 2 := by kernel_rfl
theorem str_cells1 : Tryz.prog.cellsOf 9 = 1 := by kernel_rfl
theorem int_cells1 : Tryz.prog.cellsOf 3 = 1 := by kernel_rfl
theorem hds_cells1 : Tryz.prog.cellsOf 22 = 1 := by kernel_rfl
theorem rq_cells4 : Tryz.prog.cellsOf 24 = 4 := by kernel_rfl
theorem rp_cells3 : Tryz.prog.cellsOf 36 = 3 := by kernel_rfl
theorem of_text (s : ByteArray) : ∃ l : Bs, s = bs l ∧ l.length = s.data.toList.length := ⟨s.data.toList, by cases s; simp [bs], rfl⟩
/-- How much fields weigh. -/
def hbk : List Hd → Nat
  | [] => 0
  | h :: r => h.1.length + h.2.length + 3 + hbk r
set_option maxRecDepth 100000 in
theorem open_head {fuel : Nat} {cs : List Value} {x : DataW H × List MemPlace} (h : DataW.trod enc Tryz.prog w base (fun _ => true) held fuel 52 cs = some x) :
    ∃ n v : Bs, cs = [.string (bs n), .string (bs v)] ∧ n.length + v.length + 3 ≤ Rows.uptoBulk x.1 := by
  have hu := Tryz.underlying52
  obtain ⟨xs, n, rfl, rfl, hl, hxl, hg⟩ := DataW.trod_struct hu h
  have hlen : xs.length = 2 := hxl
  rw [hd_cells2] at hl
  match xs, hlen with
  | [y0, y1], _ =>
  match cs, hl with
  | [c0, c1], _ =>
  have g0 := hg 0 { name := "Name", type := 9, offset := 0, embedded := false, tag := "", pkgPath := "", byteOffset := 0 } rfl
  have g1 := hg 1 { name := "Value", type := 9, offset := 1, embedded := false, tag := "", pkgPath := "", byteOffset := 16 } rfl
  simp only [str_cells1, List.drop_zero, List.drop_succ_cons, List.take_succ_cons, List.take_zero, List.getElem?_cons_zero, List.getElem?_cons_succ] at g0 g1
  obtain ⟨s0, e0, f0, _⟩ := DataW.trod_string Tryz.underlying9 g0
  obtain ⟨s1, e1, f1, _⟩ := DataW.trod_string Tryz.underlying9 g1
  simp only [List.cons.injEq, and_true] at e0 e1
  subst e0 e1 f0 f1
  obtain ⟨l0, rfl, k0⟩ := of_text s0
  obtain ⟨l1, rfl, k1⟩ := of_text s1
  refine ⟨l0, l1, rfl, ?_⟩
  simp only [List.map_cons, List.map_nil, Rows.uptoBulk, Rows.uptoBulkAll]
  omega
theorem row_cons {h : Hd} {hs : List Hd} {b f : Nat} (h0 : w.cell? ⟨b, f, none⟩ = some (.string (bs h.1))) (h1 : w.cell? ⟨b, f + 1, none⟩ = some (.string (bs h.2))) (hr : RowC w (HdC hs) b (f + 2)) : RowC w (HdC (h :: hs)) b f := fun j u hj => by
  have e : HdC (h :: hs) = .string (bs h.1) :: .string (bs h.2) :: HdC hs := rfl
  rw [e] at hj
  match j, hj with
  | 0, hj => simp at hj; subst hj; exact h0
  | 1, hj => simp at hj; subst hj; exact h1
  | j + 2, hj =>
    have := hr j u (by simpa using hj)
    rw [show f + (j + 2) = f + 2 + j by omega]; exact this
set_option maxRecDepth 100000 in
theorem open_heads {fuel : Nat} {cs : List Value} {x : DataW H × List MemPlace} (h : DataW.trod enc Tryz.prog w base (fun _ => true) held fuel 22 cs = some x) :
    ∃ (hs : List Hd) (ad : Option Addr) (c : Nat), cs = [.slice ad hs.length c] ∧ SlH w hs ad c ∧ hbk hs ≤ Rows.uptoBulk x.1 := by
  rcases DataW.trod_slice Tryz.underlying22 h with ⟨rfl, rfl⟩ | ⟨a, len, cap, elems, rest, m, rfl, rfl, rfl, hb, hlc, hcm, hel, hge, _, _⟩
  · exact ⟨[], none, 0, rfl, ⟨Nat.le_refl _, Nat.zero_le _, 0, 0, Or.inr ⟨rfl, rfl⟩, fun j u hj => by simp [HdC] at hj⟩, Nat.zero_le _⟩
  · have hel2 : ∀ i, i < len → ∃ (n v : Bs) (y : DataW H × List MemPlace), elems[i]? = some y ∧ w.cell? ⟨a.block, a.off + i * 2, none⟩ = some (.string (bs n)) ∧ w.cell? ⟨a.block, a.off + i * 2 + 1, none⟩ = some (.string (bs v)) ∧ n.length + v.length + 3 ≤ Rows.uptoBulk y.1 ∧ (i = 0 → a.spot = none) := by
      intro i hi
      have hsome : (elems[i]?).isSome = true := by rw [List.getElem?_eq_getElem (by omega)]; rfl
      have hq := hge i hi
      rw [hd_cells2] at hq
      obtain ⟨cs, y, hy, hcl, hcc, htr, hs⟩ := elem_cells (by omega) hq hsome
      obtain ⟨n, v, rfl, hbk⟩ := open_head htr
      exact ⟨n, v, y, hy, hcc 0 (by omega), hcc 1 (by omega), hbk, hs⟩
    have hl : ∀ m, ∀ i, m + i = len → ∃ hs : List Hd, hs.length = m ∧ RowC w (HdC hs) a.block (a.off + i * 2) ∧ hbk hs ≤ (((elems.map (·.1)).map Rows.uptoBulk).drop i).sum := by
      intro m
      induction m with
      | zero => exact fun i _ => ⟨[], rfl, fun j s hj => by simp [HdC] at hj, Nat.zero_le _⟩
      | succ m ih =>
        intro i hi
        obtain ⟨l, hl, hlc, hlb⟩ := ih (i + 1) (by omega)
        obtain ⟨n, v, y, hy, h0, h1, hbu, _⟩ := hel2 i (by omega)
        refine ⟨(n, v) :: l, by simp [hl], row_cons (h := (n, v)) h0 h1 (by rw [show a.off + i * 2 + 2 = a.off + (i + 1) * 2 by omega]; exact hlc), ?_⟩
        have hm : ((elems.map (·.1)).map Rows.uptoBulk)[i]? = some (Rows.uptoBulk y.1) := by rw [List.getElem?_map, List.getElem?_map, hy]; rfl
        obtain ⟨hil, hie⟩ := List.getElem?_eq_some_iff.1 hm
        rw [List.drop_eq_getElem_cons hil, List.sum_cons, hie]
        show n.length + v.length + 3 + hbk l ≤ _
        omega
    obtain ⟨l, hl1, hl2, hl3⟩ := hl len 0 (by omega)
    subst hl1
    refine ⟨l, some a, cap, rfl, ⟨hlc, hcm, a.block, a.off, ?_, by simpa using hl2⟩, ?_⟩
    · rcases Nat.eq_zero_or_pos l.length with h0 | h0
      · exact Or.inr ⟨rfl, h0⟩
      · left
        obtain ⟨_, _, _, _, _, _, _, hs⟩ := hel2 0 h0
        have hs := hs rfl
        obtain ⟨bl, of, sp⟩ := a; simp only at hs; subst hs; rfl
    · simp only [Rows.uptoBulk]
      rw [bulkAll_drop]
      rw [List.drop_zero] at hl3
      omega
/-- What is known of a request that came in. -/
def OpenQ (w : World) (cs : List Value) (bulk : Nat) : Prop := ∃ (q : Rq) (ad : Option Addr) (c : Nat), cs = [.string (bs q.m), .string (bs q.t), .slice ad q.hs.length c, .string (bs q.b)] ∧ SlH w q.hs ad c ∧ q.m.length + q.t.length + q.b.length + hbk q.hs + 4 ≤ bulk
set_option maxRecDepth 100000 in
theorem open_rq {fuel : Nat} {cs : List Value} {x : DataW H × List MemPlace} (h : DataW.trod enc Tryz.prog w base (fun _ => true) held fuel 24 cs = some x) : OpenQ w cs (Rows.uptoBulk x.1) := by
  have hu := Tryz.underlying24
  obtain ⟨xs, n, rfl, rfl, hl, hxl, hg⟩ := DataW.trod_struct hu h
  have hlen : xs.length = 4 := hxl
  rw [rq_cells4] at hl
  match xs, hlen with
  | [y0, y1, y2, y3], _ =>
  match cs, hl with
  | [c0, c1, c2, c3], _ =>
  have g0 := hg 0 { name := "Method", type := 9, offset := 0, embedded := false, tag := "", pkgPath := "", byteOffset := 0 } rfl
  have g1 := hg 1 { name := "Target", type := 9, offset := 1, embedded := false, tag := "", pkgPath := "", byteOffset := 16 } rfl
  have g2 := hg 2 { name := "Heads", type := 22, offset := 2, embedded := false, tag := "", pkgPath := "", byteOffset := 32 } rfl
  have g3 := hg 3 { name := "Body", type := 9, offset := 3, embedded := false, tag := "", pkgPath := "", byteOffset := 56 } rfl
  simp only [str_cells1, hds_cells1, List.drop_zero, List.drop_succ_cons, List.take_succ_cons, List.take_zero, List.getElem?_cons_zero, List.getElem?_cons_succ] at g0 g1 g2 g3
  obtain ⟨s0, e0, f0, _⟩ := DataW.trod_string Tryz.underlying9 g0
  obtain ⟨s1, e1, f1, _⟩ := DataW.trod_string Tryz.underlying9 g1
  obtain ⟨s3, e3, f3, _⟩ := DataW.trod_string Tryz.underlying9 g3
  obtain ⟨hs, ad, c, e2, hsl, hbb⟩ := open_heads g2
  simp only [List.cons.injEq, and_true] at e0 e1 e2 e3
  subst e0 e1 e2 e3 f0 f1 f3
  obtain ⟨l0, rfl, k0⟩ := of_text s0
  obtain ⟨l1, rfl, k1⟩ := of_text s1
  obtain ⟨l3, rfl, k3⟩ := of_text s3
  refine ⟨⟨l0, l1, hs, l3⟩, ad, c, rfl, hsl, ?_⟩
  simp only [List.map_cons, List.map_nil, Rows.uptoBulk, Rows.uptoBulkAll]
  omega
theorem hbk_mem : ∀ {hs : List Hd} {x : Hd}, x ∈ hs → x.1.length + x.2.length + 3 ≤ hbk hs
  | h :: r, x, hx => by
    show _ ≤ h.1.length + h.2.length + 3 + hbk r
    rcases List.mem_cons.1 hx with rfl | hx
    · omega
    · have := hbk_mem hx; omega
theorem hbk_len : ∀ hs : List Hd, hs.length ≤ hbk hs
  | [] => Nat.le_refl _
  | h :: r => by have := hbk_len r; show r.length + 1 ≤ h.1.length + h.2.length + 3 + hbk r; omega
theorem hbk_lines : ∀ hs : List Hd, (linesS hs).length ≤ 2 * hbk hs
  | [] => Nat.le_refl _
  | h :: r => by
    have h1 := hbk_lines r
    have h3 : linesS (h :: r) = lineS h ++ linesS r := rfl
    have h4 : (lineS h).length = h.1.length + 2 + h.2.length + 2 := by unfold lineS CRLF; simp only [List.length_append, List.length_cons, List.length_nil]
    rw [h3, List.length_append, h4]
    show _ ≤ 2 * (h.1.length + h.2.length + 3 + hbk r)
    omega
theorem small_bulk {q : Rq} {n : Nat} (h : q.m.length + q.t.length + q.b.length + hbk q.hs + 4 ≤ n) (hn : n ≤ 1048576) : SmallQ q := by
  have h1 := hbk_len q.hs
  have h2 := hbk_lines q.hs
  exact ⟨by omega, by omega, by omega, by omega, fun x hx => by have := hbk_mem hx; omega, by omega⟩
set_option maxRecDepth 100000 in
theorem open_request {r : Reach} {b0 : Nat} {v : Value} {d : DataW H} {p : List MemPlace} (hv : Value.okWide Tryz.prog w r b0 24 v) (h : DataW.Trod enc Tryz.prog w base (fun _ => true) held 24 v d p) :
    ∃ (q : Rq) (ad : Option Addr) (c : Nat), v = rqv q ad c ∧ SlH w q.hs ad c ∧ (Rows.uptoBulk d ≤ 1048576 → SmallQ q) := by
  simp only [Value.okWide, Tryz.underlying24] at hv
  obtain ⟨cs, rfl, hsz, _⟩ := hv
  obtain ⟨fuel, hq⟩ := h
  obtain ⟨q, ad, c, h1, h2, h3⟩ := open_rq hq
  refine ⟨q, ad, c, ?_, h2, fun hn => small_bulk h3 hn⟩
  have : cs = rqC q ad c := by
    apply Array.ext'
    simpa [Value.cells] using h1
  rw [this]
end
end Go.Proofs.YtipjkjcmceeaeaaGreatDoor

namespace Go.Proofs.YtipjkjcmceeaeaaGreatDoor
open Go.RowKit

theorem tabIs_of_vars {P : Program} {W : World} {name : String} {k : IntKind} {zs : List Int} {rest : List (String × DataW Unit)} {ps : List MemPlace} {g : Nat} {t e : TypeId} {n : Nat}
    (hg : P.globalNamed name = some g) (hty : (P.globals[g]?).map (·.type) = some t) (ht : P.underlying t = some (.array n e)) (he : P.underlying e = some (.int k)) (hce : P.cellsOf e = 1) (hct : P.cellsOf t = n)
    (h : DataW.LaidVars P W ((name, Lib.tabData k zs) :: rest) ps) : Lib.TabIs P W name k zs := by
  obtain ⟨g', t', cs, fuel, p, q, hg', ht', hvar, hd, _, _⟩ := h
  obtain rfl := Option.some.inj (hg.symm.trans hg')
  obtain rfl := Option.some.inj (hty.symm.trans ht')
  unfold Lib.TabIs
  rw [hvar, ← Lib.cells_of_tab ht he hce hct hd]
theorem laidVars_tail {P : Program} {W : World} {x : String × DataW Unit} {rest : List (String × DataW Unit)} {ps : List MemPlace} (h : DataW.LaidVars P W (x :: rest) ps) : ∃ q, DataW.LaidVars P W rest q := by
  obtain ⟨n, d⟩ := x
  obtain ⟨_, _, _, _, _, q, _, _, _, _, h2, _⟩ := h
  exact ⟨q, h2⟩
set_option maxRecDepth 100000 in
theorem gw_row {W : World} (hl : laidMetH Tryz.prog Rows.httpGrowsUptoRow.laid W) (hs : W.ShapedOpen Tryz.prog) : Gw W := by
  have h1 : laidMet Tryz.prog Rows.httpGrowsUptoRow.laid W := by
    have e : (Rows.httpGrowsUptoRow.laid.filter fun x => x.2.handleName?.isSome) = [] := by kernel_rfl
    unfold laidMetH at hl
    rw [e] at hl
    exact hl
  obtain ⟨ps, hv, _⟩ := h1
  obtain ⟨q1, h2⟩ := laidVars_tail (x := ("math/bits.deBruijn32tab", Rows.laid_math_bits_deBruijn32tab)) (rest := Rows.httpGrowsUptoRow.laid.drop 1) hv
  obtain ⟨q2, h3⟩ := laidVars_tail (x := ("math/bits.deBruijn64tab", Rows.laid_math_bits_deBruijn64tab)) (rest := Rows.httpGrowsUptoRow.laid.drop 2) h2
  have h4 : DataW.LaidVars Tryz.prog W (("internal/strconv.uint64pow10", Lib.tabData .u64 Lib.pow10Tab) :: Rows.httpGrowsUptoRow.laid.drop 3) q2 := h3
  refine ⟨?_, ?_⟩
  · exact Go.Proofs.cell_of_shapedOpen_int (zero := #[.int .i64 0]) (t := 3) hs (of_decide_eq_true (by kernel_rfl)) (by kernel_rfl) rfl (by kernel_rfl) (by kernel_rfl) Tryz.underlying3
  · exact tabIs_of_vars (g := 1) (n := 20) (e := 134) (by kernel_rfl) (by kernel_rfl) Tryz.underlying150 Tryz.underlying134 (by kernel_rfl) (by kernel_rfl) h4
end Go.Proofs.YtipjkjcmceeaeaaGreatDoor

namespace Go.Proofs.YtipjkjcmceeaeaaGreatDoor
open Go.ChangeShapes Go.WideShapes Go.ChangeAt Go.RowKit

section
variable {H : Type} {enc : TypeId × Value → H} {w : World} {base : Nat} {held : Bool}
set_option maxRecDepth 100000 in
theorem open_rp {fuel : Nat} {cs : List Value} {x : DataW H × List MemPlace} (h : DataW.trod enc Tryz.prog w base (fun _ => true) held fuel 36 cs = some x) :
    ∃ r : Rp, cs = [.int .i64 r.s, .string (bs r.n), .string (bs r.b)] ∧ r.n.length + r.b.length ≤ Rows.uptoBulk x.1 := by
  have hu := Tryz.underlying36
  obtain ⟨xs, n, rfl, rfl, hl, hxl, hg⟩ := DataW.trod_struct hu h
  have hlen : xs.length = 3 := hxl
  rw [rp_cells3] at hl
  match xs, hlen with
  | [y0, y1, y2], _ =>
  match cs, hl with
  | [c0, c1, c2], _ =>
  have g0 := hg 0 { name := "Status", type := 3, offset := 0, embedded := false, tag := "", pkgPath := "", byteOffset := 0 } rfl
  have g1 := hg 1 { name := "Nonce", type := 9, offset := 1, embedded := false, tag := "", pkgPath := "", byteOffset := 8 } rfl
  have g2 := hg 2 { name := "Body", type := 9, offset := 2, embedded := false, tag := "", pkgPath := "", byteOffset := 24 } rfl
  simp only [str_cells1, int_cells1, List.drop_zero, List.drop_succ_cons, List.take_succ_cons, List.take_zero, List.getElem?_cons_zero, List.getElem?_cons_succ] at g0 g1 g2
  obtain ⟨s0, e0, f0, _⟩ := DataW.trod_int Tryz.underlying3 g0
  obtain ⟨s1, e1, f1, _⟩ := DataW.trod_string Tryz.underlying9 g1
  obtain ⟨s2, e2, f2, _⟩ := DataW.trod_string Tryz.underlying9 g2
  simp only [List.cons.injEq, and_true] at e0 e1 e2
  subst e0 e1 e2 f0 f1 f2
  obtain ⟨l1, rfl, k1⟩ := of_text s1
  obtain ⟨l2, rfl, k2⟩ := of_text s2
  refine ⟨⟨s0, l1, l2⟩, rfl, ?_⟩
  simp only [List.map_cons, List.map_nil, Rows.uptoBulk, Rows.uptoBulkAll]
  omega
set_option maxRecDepth 100000 in
theorem open_reply {r : Reach} {b0 : Nat} {v : Value} {d : DataW H} {p : List MemPlace} (hv : Value.okWide Tryz.prog w r b0 36 v) (h : DataW.Trod enc Tryz.prog w base (fun _ => true) held 36 v d p) :
    ∃ r : Rp, v = rpv r ∧ r.n.length + r.b.length ≤ Rows.uptoBulk d := by
  simp only [Value.okWide, Tryz.underlying36] at hv
  obtain ⟨cs, rfl, hsz, _⟩ := hv
  obtain ⟨fuel, hq⟩ := h
  obtain ⟨q, h1, h2⟩ := open_rp hq
  refine ⟨q, ?_, h2⟩
  have : cs = rpC q := by
    apply Array.ext'
    simpa [Value.cells] using h1
  rw [this]
end
end Go.Proofs.YtipjkjcmceeaeaaGreatDoor
