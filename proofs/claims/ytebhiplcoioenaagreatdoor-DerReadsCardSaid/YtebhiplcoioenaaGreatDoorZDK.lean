/- Post ZOpen, in one text. -/
import Derived.Test.YtebhiplcoioenaaGreatDoorRows
import Derived.ProofKit
import Derived.OpenShut
import Derived.Below
import Derived.ChangeSame
import Derived.Test.YtebhiplcoioenaaGreatDoorZDG
import Derived.Test.YtebhiplcoioenaaGreatDoorZZGd
import Derived.Lib.LaidTab
import Derived.LaidHandle
import Derived.SizedLaws
import Derived.ChangeMaps5
import Derived.Carry
/- A row's last step where nothing that was there has changed, and nothing is said of a second reading. -/
namespace Go.Proofs.YtebhiplcoioenaaGreatDoor
open Go.ChangeShapes Go.WideShapes Go.ChangeAt Go.RowKit

theorem post_new {H : Type} {enc : TypeId × Value → H} {P : Program} {f : Func} {s : ChangeSpec} {apart fresh handsOn : Bool} {W W' : World} {args : Array Value} {v : Value} {ds gs : List (DataW H)} {before pa pv : List MemPlace}
    (hW : DataW.Whole enc P f.params.toList s.vars apart W args.toList ds gs before) (hb : Below W.heap.size W W') (hps : before = pa ++ pv)
    (hres : ∀ (b : Nat) (sp : Nat → Bool) (hd : Bool), DataW.TrodAll enc P W' b sp hd f.resultTypes.toList (v.resultList f.resultTypes.size) (s.fn H (ds ++ gs)).results [])
    (hargs : ∀ sp : Nat → Bool, (∀ p ∈ before, sp p.block = true) → DataW.TrodAll enc P W' 0 sp true f.params.toList args.toList (s.fn H (ds ++ gs)).args pa)
    (hvars : ∀ sp : Nat → Bool, (∀ p ∈ before, sp p.block = true) → DataW.TrodVars enc P W' sp s.vars (s.fn H (ds ++ gs)).vars pv) :
    s.post enc P f apart fresh handsOn false W args v W' := by
  have hin : ∀ p ∈ before, (fun b => decide (b < W.heap.size)) p.block = true := fun p hp => decide_eq_true (hW.lt p hp)
  refine ⟨ds, gs, before, [], pa, pv, hW, hres _ _ _, hargs _ hin, hvars _ hin, World.keptBut_mono (fun p hp => ⟨hp, Or.inr ?_⟩) (hb.frame (· ∈ before)), fun h => by cases h⟩
  rw [hps, List.mem_append] at hp
  exact hp
end Go.Proofs.YtebhiplcoioenaaGreatDoor
/- Values that came in: opened; from a row's condition to what the library's variables hold; a reading behind the call. -/
namespace Go.Proofs.YtebhiplcoioenaaGreatDoor
open Go.ChangeShapes Go.WideShapes Go.ChangeAt Go.RowKit

section
variable {H : Type} {enc : TypeId × Value → H} {w : World} {base : Nat} {spare : Nat → Bool} {held : Bool}
theorem der_cells : Tryz.prog.cellsOf 24 = 5 := by kernel_rfl
theorem str_cells1 : Tryz.prog.cellsOf 9 = 1 := by kernel_rfl
theorem int_cells1 : Tryz.prog.cellsOf 3 = 1 := by kernel_rfl
theorem ders_cells1 : Tryz.prog.cellsOf 22 = 1 := by kernel_rfl
theorem bool_cells1 : Tryz.prog.cellsOf 4 = 1 := by kernel_rfl
def Fits (P : Program) (t : TypeId) (d : DataW H) : Prop := (d.weights P t).all (· ≤ reachBytes) = true
theorem fits_str {s : ByteArray} {P : Program} {t : TypeId} (h : Fits P t (DataW.lit (H := H) (.string s.data.toList))) : s.size ≤ SB := by
  have := List.all_eq_true.1 h s.data.toList.length (by simp [DataW.weights])
  have := of_decide_eq_true this
  have e : s.data.toList.length = s.size := by simp
  have hs := SB_eq
  unfold reachBytes at this; omega
/-- What is known of a value that came in, and how much it weighs. -/
def OpenD (w : World) (cs : List Value) (bulk : Nat) : Prop := ∃ (v : Dv) (ad : Option Addr) (c : Nat),
  cs = dcl v ad c ∧ v.b.length ≤ SB ∧ SlD w v.l ad c ∧ v.b.length + v.l.wt + 6 ≤ bulk
/-- Such values, one behind the other, are a row. -/
theorem open_row {bk : List Nat} (b f : Nat) (L : Nat) (h : ∀ i, i < L → ∃ cs bu, bk[i]? = some bu ∧ (∀ j, j < 5 → w.cell? ⟨b, f + 5 * i + j, none⟩ = cs[j]?) ∧ OpenD w cs bu) :
    ∀ m i, m + i = L → ∃ F : Dr, F.len = m ∧ Row w F b (f + 5 * i) ∧ F.wt ≤ (bk.drop i).sum := by
  intro m
  induction m with
  | zero => exact fun i _ => ⟨.nil, rfl, trivial, Nat.zero_le _⟩
  | succ m ih =>
    intro i hi
    obtain ⟨F, hl, hr, hc⟩ := ih (i + 1) (by omega)
    obtain ⟨cs, bu, hb, hcs, ⟨vc, vt, vk, vb, vl⟩, ad, c, rfl, h1, ⟨s1, s2, b1, f1, s3, s4⟩, h6⟩ := h i (by omega)
    refine ⟨.cons vc vt vk vb vl F, by simp only [Dr.len]; omega, ⟨⟨ad, c, b1, f1, ?_, ?_, ?_, ?_, ?_, h1, s1, s2, s3, s4⟩, ?_⟩, ?_⟩
    · exact hcs 0 (by omega)
    · exact hcs 1 (by omega)
    · exact hcs 2 (by omega)
    · exact hcs 3 (by omega)
    · exact hcs 4 (by omega)
    · rw [show f + 5 * i + 5 = f + 5 * (i + 1) by omega]; exact hr
    · have hil : i < bk.length := (List.getElem?_eq_some_iff.1 hb).1
      have e : bk.drop i = bu :: bk.drop (i + 1) := by
        rw [List.drop_eq_getElem_cons hil]
        rw [List.getElem?_eq_getElem hil] at hb
        rw [Option.some.inj hb]
      rw [e, List.sum_cons]
      simp only [Dr.wt]
      simp only at h6
      omega
/-- A reading of a slice's elements. -/
theorem elem_cells {a : Addr} {z i n : Nat} {e : TypeId} {y : Option (DataW H × List MemPlace)} {P : Program} (hz : 0 < z) (h : (w.cells? base (a.add (i * z)) z).bind (DataW.trod enc P w base spare held n e) = y) (hy : y.isSome = true) :
    ∃ cs x, y = some x ∧ cs.length = z ∧ (∀ j, j < z → w.cell? ⟨a.block, a.off + i * z + j, none⟩ = cs[j]?) ∧ DataW.trod enc P w base spare held n e cs = some x ∧ (i = 0 → a.spot = none) := by
  cases hc : w.cells? base (a.add (i * z)) z with
  | none => rw [hc] at h; simp at h; rw [← h] at hy; simp at hy
  | some cs =>
    rw [hc] at h
    simp only [Option.bind_some] at h
    obtain ⟨x, rfl⟩ := Option.isSome_iff_exists.1 hy
    obtain ⟨_, hl, hg⟩ := World.cells?_some hc
    have hsp : i = 0 → a.spot = none := by
      intro hi
      subst hi
      have h0 := hg 0 hz
      rw [List.getElem?_eq_getElem (by omega)] at h0
      simp only [Nat.zero_mul, Addr.add, if_true] at h0
      unfold World.cell? at h0
      split at h0
      · split at h0
        · cases h0
        · next hs => simpa using hs
      · cases h0
    refine ⟨cs, x, rfl, hl, fun j hj => ?_, h, hsp⟩
    rw [← hg j hj]
    unfold Addr.add
    by_cases hi : i * z = 0
    · rw [if_pos hi]
      have hi0 : i = 0 := by rcases Nat.mul_eq_zero.1 hi with h | h; exact h; omega
      have hs := hsp hi0
      by_cases hj0 : j = 0
      · rw [if_pos hj0, hj0]
        obtain ⟨bl, of, sp⟩ := a
        simp only at hs; subst hs
        simp [hi]
      · rw [if_neg hj0]; simp [hi]
    · rw [if_neg hi]
      by_cases hj0 : j = 0
      · rw [if_pos hj0, hj0]; rfl
      · rw [if_neg hj0]
theorem bulkAll_drop (l : List (DataW H)) : Rows.uptoBulkAll l = (l.map Rows.uptoBulk).sum := by
  induction l with
  | nil => simp [Rows.uptoBulkAll]
  | cons x r ih => simp [Rows.uptoBulkAll, ih]
theorem weightsAll_mem {P : Program} {e : TypeId} : ∀ {l : List (DataW H)} {d : DataW H}, d ∈ l → ∀ n ∈ d.weights P e, n ∈ DataW.weightsAll P e l
  | d :: r, _, .head _, n, hn => by simp only [DataW.weightsAll, List.mem_append]; exact Or.inl hn
  | d :: r, d', .tail _ h, n, hn => by simp only [DataW.weightsAll, List.mem_append]; exact Or.inr (weightsAll_mem h n hn)
theorem fits_elem {P : Program} {t e : TypeId} {elems rest : List (DataW H)} (hu : P.underlying t = some (.slice e)) (h : Fits P t (DataW.slice elems rest)) : (elems.length + rest.length) * P.bytesOf e ≤ reachBytes ∧ ∀ d ∈ elems, Fits P e d := by
  unfold Fits at h
  simp only [DataW.weights, hu, List.all_cons, List.all_append, Bool.and_eq_true] at h
  refine ⟨of_decide_eq_true h.1, fun d hd => ?_⟩
  refine List.all_eq_true.2 fun n hn => ?_
  exact List.all_eq_true.1 h.2.1 n (weightsAll_mem hd n hn)
theorem fits_part {P : Program} {t : TypeId} {fs : Array Field} {parts : List (DataW H)} (hu : P.underlying t = some (.struct fs)) (h : Fits P t (DataW.agg parts)) {i : Nat} {f : Field} {d : DataW H} (hf : fs[i]? = some f) (hd : parts[i]? = some d) : Fits P f.type d := by
  unfold Fits at h
  simp only [DataW.weights, hu] at h
  refine List.all_eq_true.2 fun n hn => ?_
  refine List.all_eq_true.1 h n (DataW.weights_mem_each (j := i) (t := f.type) ?_ hd n hn)
  rw [List.getElem?_map, Array.getElem?_toList, hf]; rfl
set_option maxRecDepth 100000 in
theorem open_dv : ∀ (fuel : Nat) (cs : List Value) (x : DataW H × List MemPlace), DataW.trod enc Tryz.prog w base (fun _ => true) held fuel 24 cs = some x → Fits Tryz.prog 24 x.1 →
    OpenD w cs (Rows.uptoBulk x.1) := by
  intro fuel
  induction fuel using Nat.strongRecOn with
  | ind fuel ih =>
  intro cs x h hfit
  have hu := Tryz.underlying24
  obtain ⟨xs, n, rfl, rfl, hl, hxl, hg⟩ := DataW.trod_struct hu h
  have hlen : xs.length = 5 := hxl
  match xs, hlen with
  | [y0, y1, y2, y3, y4], _ =>
  have g0 := hg 0 { name := "Class", type := 3, offset := 0, embedded := false, tag := "", pkgPath := "", byteOffset := 0 } rfl
  have g1 := hg 1 { name := "Tag", type := 3, offset := 1, embedded := false, tag := "", pkgPath := "", byteOffset := 8 } rfl
  have g2 := hg 2 { name := "Cons", type := 4, offset := 2, embedded := false, tag := "", pkgPath := "", byteOffset := 16 } rfl
  have g3 := hg 3 { name := "Bytes", type := 9, offset := 3, embedded := false, tag := "", pkgPath := "", byteOffset := 24 } rfl
  have g4 := hg 4 { name := "List", type := 22, offset := 4, embedded := false, tag := "", pkgPath := "", byteOffset := 40 } rfl
  rw [der_cells] at hl
  match cs, hl with
  | [c0, c1, c2, c3, c4], _ =>
  simp only [int_cells1, bool_cells1, str_cells1, ders_cells1, List.drop_zero, List.drop_succ_cons, List.take_succ_cons, List.take_zero, List.getElem?_cons_zero, List.getElem?_cons_succ] at g0 g1 g2 g3 g4
  obtain ⟨k, e0, f0, z0⟩ := DataW.trod_int Tryz.underlying3 g0
  obtain ⟨o, e1, f1, z1⟩ := DataW.trod_int Tryz.underlying3 g1
  obtain ⟨q, e2, f2⟩ := DataW.trod_bool Tryz.underlying4 g2
  obtain ⟨s3, e3, f3, z3⟩ := DataW.trod_string Tryz.underlying9 g3
  simp only [List.cons.injEq, and_true] at e0 e1 e2 e3
  subst e0 e1 e2 e3 f0 f1 f2 f3
  have w3 := fits_str (fits_part hu hfit (i := 3) rfl rfl)
  have w4 := fits_part hu hfit (i := 4) rfl rfl
  have el3 : s3.data.toList.length = s3.size := by simp
  have es : s3 = bs s3.data.toList := by cases s3; simp [bs]
  rcases DataW.trod_slice Tryz.underlying22 g4 with ⟨e4, f4⟩ | ⟨a, len, cap, elems, rest, m, rfl, e4, f4, hb, hlc, hcm, hel, hge, _, _⟩
  · simp only [List.cons.injEq, and_true] at e4
    subst e4 f4
    refine ⟨⟨k, o, q, s3.data.toList, .nil⟩, none, 0, by rw [show dcl ⟨k, o, q, s3.data.toList, .nil⟩ none 0 = [.int .i64 k, .int .i64 o, .bool q, .string (bs s3.data.toList), .slice none 0 0] from rfl, ← es], by rw [el3]; exact w3, SlD.nil w, ?_⟩
    simp only [List.map_cons, List.map_nil, Rows.uptoBulk, Rows.uptoBulkAll, Dr.wt]
    omega
  · simp only [List.cons.injEq, and_true] at e4
    subst e4 f4
    obtain ⟨hw, hwe⟩ := fits_elem Tryz.underlying22 w4
    have hrow : ∀ i, i < len → ∃ cs bu, (elems.map fun y => Rows.uptoBulk y.1)[i]? = some bu ∧ (∀ j, j < 5 → w.cell? ⟨a.block, a.off + 5 * i + j, none⟩ = cs[j]?) ∧ OpenD w cs bu := by
      intro i hi
      have hsome : (elems[i]?).isSome = true := by rw [List.getElem?_eq_getElem (by omega)]; rfl
      have hq := hge i hi
      rw [der_cells] at hq
      obtain ⟨cs, y, hy, hcl, hcc, htr, _⟩ := elem_cells (by omega) hq hsome
      refine ⟨cs, Rows.uptoBulk y.1, by rw [List.getElem?_map, hy]; rfl, fun j hj => ?_, ih m (by omega) cs y htr (hwe _ ?_)⟩
      · rw [← hcc j hj, Nat.mul_comm]
      · rw [List.mem_map]
        exact ⟨y, List.mem_of_getElem? hy, rfl⟩
    obtain ⟨F, hFl, hFr, hFc⟩ := open_row a.block a.off len hrow len 0 (by omega)
    subst hFl
    have hspot : F.len = 0 ∨ a.spot = none := by
      rcases Nat.eq_zero_or_pos F.len with h0 | h0
      · exact Or.inl h0
      · right
        have hsome : (elems[0]?).isSome = true := by rw [List.getElem?_eq_getElem (by omega)]; rfl
        have hq := hge 0 h0
        rw [der_cells] at hq
        obtain ⟨_, _, _, _, _, _, hs⟩ := elem_cells (by omega) hq hsome
        exact hs rfl
    refine ⟨⟨k, o, q, s3.data.toList, F⟩, some a, cap, by rw [show dcl ⟨k, o, q, s3.data.toList, F⟩ (some a) cap = [.int .i64 k, .int .i64 o, .bool q, .string (bs s3.data.toList), .slice (some a) F.len cap] from rfl, ← es], by rw [el3]; exact w3, ⟨hlc, hcm, a.block, a.off, ?_, by simpa using hFr⟩, ?_⟩
    · rcases hspot with h0 | h0
      · exact Or.inr ⟨rfl, h0⟩
      · left; obtain ⟨bl, of, sp⟩ := a; simp only at h0; subst h0; rfl
    · simp only [List.map_cons, List.map_nil, Rows.uptoBulk, bulkAll_drop, List.map_map, List.sum_cons, List.sum_nil]
      rw [List.drop_zero] at hFc
      have : (List.map (Rows.uptoBulk ∘ fun y => y.1) elems).sum = (List.map (fun y => Rows.uptoBulk y.1) elems).sum := rfl
      omega
set_option maxRecDepth 100000 in
/-- A value that came in. -/
theorem open_der {r : Reach} {b0 : Nat} {v : Value} {d : DataW H} {p : List MemPlace} (hv : Value.okWide Tryz.prog w r b0 24 v) (h : DataW.Trod enc Tryz.prog w base (fun _ => true) held 24 v d p) (hf : Fits Tryz.prog 24 d) :
    ∃ (x : Dv) (ad : Option Addr) (c : Nat), v = dvv x ad c ∧ x.b.length ≤ SB ∧ SlD w x.l ad c ∧ x.b.length + x.l.wt + 6 ≤ Rows.uptoBulk d := by
  simp only [Value.okWide, Tryz.underlying24] at hv
  obtain ⟨cs, rfl, hsz, _⟩ := hv
  obtain ⟨fuel, hq⟩ := h
  obtain ⟨x, ad, c, h1, h2⟩ := open_dv fuel _ _ hq hf
  refine ⟨x, ad, c, ?_, h2⟩
  have : cs = dvC x ad c := by
    apply Array.ext'
    simpa [Value.cells, dcl] using h1
  rw [this]
end
theorem laidOut : laidOutB Tryz.prog = true := by kernel_rfl
theorem post_new2 {H : Type} {enc : TypeId × Value → H} {P : Program} {f : Func} {s : ChangeSpec} {apart fresh handsOn : Bool} {W W' : World} {args : Array Value} {v : Value} {ds gs : List (DataW H)} {before pa pv : List MemPlace}
    (hW : DataW.Whole enc P f.params.toList s.vars apart W args.toList ds gs before) (hb : Below W.heap.size W W') (hps : before = pa ++ pv)
    (hres : ∀ (b : Nat) (sp : Nat → Bool) (hd : Bool), DataW.TrodAll enc P W' b sp hd f.resultTypes.toList (v.resultList f.resultTypes.size) (s.fn H (ds ++ gs)).results [])
    (hargs : DataW.TrodAll enc P W' 0 (fun b => decide (b < W.heap.size)) true f.params.toList args.toList (s.fn H (ds ++ gs)).args pa)
    (hvars : ∀ sp : Nat → Bool, (∀ p ∈ before, sp p.block = true) → DataW.TrodVars enc P W' sp s.vars (s.fn H (ds ++ gs)).vars pv) :
    s.post enc P f apart fresh handsOn false W args v W' := by
  have hin : ∀ p ∈ before, (fun b => decide (b < W.heap.size)) p.block = true := fun p hp => decide_eq_true (hW.lt p hp)
  refine ⟨ds, gs, before, [], pa, pv, hW, hres _ _ _, hargs, hvars _ hin, World.keptBut_mono (fun p hp => ⟨hp, Or.inr ?_⟩) (hb.frame (· ∈ before)), fun h => by cases h⟩
  rw [hps, List.mem_append] at hp
  exact hp
theorem carry {H : Type} {enc : TypeId × Value → H} {P : Program} {t : TypeId} (hl : laidOutB P = true) (hr : P.readableRec t = true) (hrow : t < P.types.size) {W W' : World} {v : Value} {d : DataW H} {ps : List MemPlace}
    (h : DataW.Trod enc P W 0 (fun _ => true) true t v d ps) (hb : Below W.heap.size W W') (hlt : ∀ x ∈ ps, x.block < W.heap.size) :
    DataW.Trod enc P W' 0 (fun b => decide (b < W.heap.size)) true t v d ps := Below.trod hl hr hrow h hb hlt
theorem fits_arg {H : Type} {P : Program} {ts vs : List TypeId} {ds gs : List (DataW H)} (hz : (DataW.weightsEach P (ts ++ vs) (ds ++ gs)).all (· ≤ reachBytes) = true) (j : Nat) {t : TypeId} {d : DataW H} (ht : (ts ++ vs)[j]? = some t) (hd : (ds ++ gs)[j]? = some d) : Fits P t d :=
  List.all_eq_true.2 fun n hn => List.all_eq_true.1 hz n (DataW.weights_mem_each ht hd n hn)
theorem tabIs_of_vars {P : Program} {W : World} {name : String} {k : IntKind} {zs : List Int} {rest : List (String × DataW Unit)} {ps : List MemPlace} {g : Nat} {t e : TypeId} {n : Nat}
    (hg : P.globalNamed name = some g) (hty : (P.globals[g]?).map (·.type) = some t) (ht : P.underlying t = some (.array n e)) (he : P.underlying e = some (.int k)) (hce : P.cellsOf e = 1) (hct : P.cellsOf t = n)
    (h : DataW.LaidVars P W ((name, Lib.tabData k zs) :: rest) ps) : Lib.TabIs P W name k zs := by
  obtain ⟨g', t', cs, fuel, p, q, hg', ht', hvar, hd, _, _⟩ := h
  obtain rfl := Option.some.inj (hg.symm.trans hg')
  obtain rfl := Option.some.inj (hty.symm.trans ht')
  unfold Lib.TabIs
  rw [hvar, ← Lib.cells_of_tab ht he hce hct hd]
theorem laidVars_tail {P : Program} {W : World} {x : String × DataW Unit} {rest : List (String × DataW Unit)} {ps : List MemPlace} (h : DataW.LaidVars P W (x :: rest) ps) : ∃ q, DataW.LaidVars P W rest q := by
  obtain ⟨n, d⟩ := x
  obtain ⟨_, _, _, _, _, q, _, _, _, _, h2, _⟩ := h
  exact ⟨q, h2⟩
set_option maxRecDepth 100000 in
theorem gd_row {W : World} (hl : laidMetH Tryz.prog Rows.derBackUptoRow.laid W) (hs : W.ShapedOpen Tryz.prog) : Gd W := by
  have e6 : (Rows.derBackUptoRow.laid.filter fun x => x.2.handleName?.isNone) = [("math/bits.deBruijn32tab", Rows.laid_math_bits_deBruijn32tab), ("math/bits.deBruijn64tab", Rows.laid_math_bits_deBruijn64tab), ("internal/strconv.uint64pow10", Lib.tabData .u64 Lib.pow10Tab), ("unicode/utf8.acceptRanges", Rows.laid_unicode_utf8_acceptRanges), ("unicode/utf8.first", Rows.laid_unicode_utf8_first)] := by kernel_rfl
  have e5 : (Rows.derBackUptoRow.laid.filter fun x => x.2.handleName?.isSome) = [("errors.errorType", Rows.laid_errors_errorType)] := by kernel_rfl
  unfold laidMetH at hl
  rw [e5] at hl
  obtain ⟨h1, h2⟩ := hl
  rw [e6] at h1
  obtain ⟨ps, hv, _⟩ := h1
  obtain ⟨q1, h3⟩ := laidVars_tail hv
  obtain ⟨q2, h4⟩ := laidVars_tail h3
  refine ⟨?_, ?_, ?_⟩
  · obtain ⟨name, u, ty, k1, k2, k3, k4, k5⟩ := h2 _ (List.mem_singleton.2 rfl)
    have en : name = [101, 114, 114, 111, 114] := (Option.some.inj k1).symm
    subst en
    have rt : (Tryz.prog.cutTypes.find? (·.1 == "internal/reflectlite.rtype")).map (·.2) = some 144 := by kernel_rfl
    obtain rfl := Option.some.inj (rt.symm.trans k2)
    have hone : ((List.range Tryz.prog.types.size).filter fun t => Tryz.prog.rowNamed t [101, 114, 114, 111, 114]) = [50] := by kernel_rfl
    have hm : ty ∈ (List.range Tryz.prog.types.size).filter fun t => Tryz.prog.rowNamed t [101, 114, 114, 111, 114] := List.mem_filter.2 ⟨List.mem_range.2 k3, k4⟩
    rw [hone] at hm
    obtain rfl := List.mem_singleton.1 hm
    have hh : typeHandle Tryz.prog 50 = .pointer (some ⟨7, 50, none⟩) := by kernel_rfl
    rw [hh] at k5
    have et : Tryz.prog.globalNamed "errors.errorType" = some 0 := by kernel_rfl
    unfold ErrTy
    simpa using World.var?_cell et k5 0
  · exact Go.Proofs.cell_of_shapedOpen_int (zero := #[.int .i64 0]) (t := 3) hs (of_decide_eq_true (by kernel_rfl)) (by kernel_rfl) rfl (by kernel_rfl) (by kernel_rfl) Tryz.underlying3
  · exact tabIs_of_vars (g := 1) (n := 20) (e := 78) (by kernel_rfl) (by kernel_rfl) Tryz.underlying172 Tryz.underlying78 (by kernel_rfl) (by kernel_rfl) h4
end Go.Proofs.YtebhiplcoioenaaGreatDoor
