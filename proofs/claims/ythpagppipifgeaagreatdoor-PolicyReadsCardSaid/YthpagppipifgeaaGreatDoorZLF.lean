/- LOpen LShut, in one text. -/
import Derived.Test.YthpagppipifgeaaGreatDoorZPost
import Derived.Test.YthpagppipifgeaaGreatDoorZLB
import Derived.Test.YthpagppipifgeaaGreatDoorZLFacts
import Derived.SizedLaws
import Derived.ChangeMaps5
import Derived.Carry
/- Policies and facts that came in: opened. -/
namespace Go.Proofs.YthpagppipifgeaaGreatDoor
open Go.ChangeShapes Go.WideShapes Go.ChangeAt Go.RowKit

/-- Each list of parts has at most so many. -/
def Fo.lens (B : Nat) : Fo → Prop
  | .nil => True
  | .cons _ _ _ _ kids nx => kids.len ≤ B ∧ kids.lens B ∧ nx.lens B
section
variable {H : Type} {enc : TypeId × Value → H} {w : World} {base : Nat} {spare : Nat → Bool} {held : Bool}
theorem pol_cells : Tryz.prog.cellsOf 24 = 5 := by kernel_rfl
theorem str_cells1 : Tryz.prog.cellsOf 9 = 1 := by kernel_rfl
theorem int_cells1 : Tryz.prog.cellsOf 3 = 1 := by kernel_rfl
theorem pls_cells1 : Tryz.prog.cellsOf 22 = 1 := by kernel_rfl
theorem pol_bytes : Tryz.prog.bytesOf 24 = 72 := by kernel_rfl
def Fits (P : Program) (t : TypeId) (d : DataW H) : Prop := (d.weights P t).all (· ≤ reachBytes) = true
theorem fits_str {s : ByteArray} {P : Program} {t : TypeId} (h : Fits P t (DataW.lit (H := H) (.string s.data.toList))) : s.size ≤ SB := by
  have := List.all_eq_true.1 h s.data.toList.length (by simp [DataW.weights])
  have := of_decide_eq_true this
  have e : s.data.toList.length = s.size := by simp
  have hs := SB_eq
  unfold reachBytes at this; omega
/-- What is known of a policy that came in: its parts, its letters' bounds, and how much it weighs. -/
def OpenP (w : World) (B : Nat) (cs : List Value) (bulk : Nat) : Prop := ∃ (k o : Int) (n t : ByteArray) (ad : Option Addr) (c : Nat) (F : Fo),
  cs = [.int .i64 k, .int .i64 o, .string n, .string t, .slice ad F.len c] ∧ n.size ≤ SB ∧ t.size ≤ SB ∧ SlF w F ad c ∧ F.len ≤ B ∧ F.lens B ∧ 6 * F.cnt + n.size + t.size + 6 ≤ bulk
/-- Such policies, one behind the other, are a row. -/
theorem open_row {B : Nat} {bk : List Nat} (b f : Nat) (L : Nat) (h : ∀ i, i < L → ∃ cs bu, bk[i]? = some bu ∧ (∀ j, j < 5 → w.cell? ⟨b, f + 5 * i + j, none⟩ = cs[j]?) ∧ OpenP w B cs bu) :
    ∀ m i, m + i = L → ∃ F : Fo, F.len = m ∧ Row w F b (f + 5 * i) ∧ F.lens B ∧ 6 * F.cnt ≤ (bk.drop i).sum := by
  intro m
  induction m with
  | zero => exact fun i _ => ⟨.nil, rfl, trivial, trivial, Nat.zero_le _⟩
  | succ m ih =>
    intro i hi
    obtain ⟨F, hl, hr, hF, hc⟩ := ih (i + 1) (by omega)
    obtain ⟨cs, bu, hb, hcs, k, o, n, t, ad, c, K, rfl, h1, h2, ⟨s1, s2, b1, f1, s3, s4⟩, h4, h5, h6⟩ := h i (by omega)
    refine ⟨.cons k o n t K F, by simp only [Fo.len]; omega, ⟨⟨ad, c, b1, f1, ?_, ?_, ?_, ?_, ?_, h1, h2, s1, s2, s3, s4⟩, ?_⟩, ⟨h4, h5, hF⟩, ?_⟩
    · exact hcs 0 (by omega)
    · exact hcs 1 (by omega)
    · exact hcs 2 (by omega)
    · exact hcs 3 (by omega)
    · exact hcs 4 (by omega)
    · rw [show f + 5 * i + 5 = f + 5 * (i + 1) by omega]; exact hr
    · have hil : i < bk.length := (List.getElem?_eq_some_iff.1 hb).1
      have e : bk.drop i = bu :: bk.drop (i + 1) := by
        rw [List.drop_eq_getElem_cons hil]
        rw [List.getElem?_eq_getElem hil] at hb
        rw [Option.some.inj hb]
      rw [e, List.sum_cons]
      simp only [Fo.cnt]
      omega
/-- A reading of a slice's elements. -/
theorem elem_cells {a : Addr} {z i n : Nat} {e : TypeId} {y : Option (DataW H × List MemPlace)} {P : Program} (hz : 0 < z) (h : (w.cells? base (a.add (i * z)) z).bind (DataW.trod enc P w base spare held n e) = y) (hy : y.isSome = true) :
    ∃ cs x, y = some x ∧ cs.length = z ∧ (∀ j, j < z → w.cell? ⟨a.block, a.off + i * z + j, none⟩ = cs[j]?) ∧ DataW.trod enc P w base spare held n e cs = some x ∧ (i = 0 → a.spot = none) := by
  cases hc : w.cells? base (a.add (i * z)) z with
  | none => rw [hc] at h; simp at h; rw [← h] at hy; simp at hy
  | some cs =>
    rw [hc] at h
    simp only [Option.bind_some] at h
    obtain ⟨x, rfl⟩ := Option.isSome_iff_exists.1 hy
    obtain ⟨_, hl, hg⟩ := World.cells?_some hc
    have hsp : i = 0 → a.spot = none := by
      intro hi
      subst hi
      have h0 := hg 0 hz
      rw [List.getElem?_eq_getElem (by omega)] at h0
      simp only [Nat.zero_mul, Addr.add, if_true] at h0
      unfold World.cell? at h0
      split at h0
      · split at h0
        · cases h0
        · next hs => simpa using hs
      · cases h0
    refine ⟨cs, x, rfl, hl, fun j hj => ?_, h, hsp⟩
    rw [← hg j hj]
    unfold Addr.add
    by_cases hi : i * z = 0
    · rw [if_pos hi]
      have hi0 : i = 0 := by rcases Nat.mul_eq_zero.1 hi with h | h; exact h; omega
      have hs := hsp hi0
      by_cases hj0 : j = 0
      · rw [if_pos hj0, hj0]
        obtain ⟨bl, of, sp⟩ := a
        simp only at hs; subst hs
        simp [hi]
      · rw [if_neg hj0]; simp [hi]
    · rw [if_neg hi]
      by_cases hj0 : j = 0
      · rw [if_pos hj0, hj0]; rfl
      · rw [if_neg hj0]
theorem bulkAll_drop (l : List (DataW H)) : Rows.uptoBulkAll l = (l.map Rows.uptoBulk).sum := by
  induction l with
  | nil => simp [Rows.uptoBulkAll]
  | cons x r ih => simp [Rows.uptoBulkAll, ih]
theorem weightsAll_mem {P : Program} {e : TypeId} : ∀ {l : List (DataW H)} {d : DataW H}, d ∈ l → ∀ n ∈ d.weights P e, n ∈ DataW.weightsAll P e l
  | d :: r, _, .head _, n, hn => by simp only [DataW.weightsAll, List.mem_append]; exact Or.inl hn
  | d :: r, d', .tail _ h, n, hn => by simp only [DataW.weightsAll, List.mem_append]; exact Or.inr (weightsAll_mem h n hn)
theorem fits_elem {P : Program} {t e : TypeId} {elems rest : List (DataW H)} (hu : P.underlying t = some (.slice e)) (h : Fits P t (DataW.slice elems rest)) : (elems.length + rest.length) * P.bytesOf e ≤ reachBytes ∧ ∀ d ∈ elems, Fits P e d := by
  unfold Fits at h
  simp only [DataW.weights, hu, List.all_cons, List.all_append, Bool.and_eq_true] at h
  refine ⟨of_decide_eq_true h.1, fun d hd => ?_⟩
  refine List.all_eq_true.2 fun n hn => ?_
  exact List.all_eq_true.1 h.2.1 n (weightsAll_mem hd n hn)
theorem fits_part {P : Program} {t : TypeId} {fs : Array Field} {parts : List (DataW H)} (hu : P.underlying t = some (.struct fs)) (h : Fits P t (DataW.agg parts)) {i : Nat} {f : Field} {d : DataW H} (hf : fs[i]? = some f) (hd : parts[i]? = some d) : Fits P f.type d := by
  unfold Fits at h
  simp only [DataW.weights, hu] at h
  refine List.all_eq_true.2 fun n hn => ?_
  refine List.all_eq_true.1 h n (DataW.weights_mem_each (j := i) (t := f.type) ?_ hd n hn)
  rw [List.getElem?_map, Array.getElem?_toList, hf]; rfl
set_option maxRecDepth 100000 in
theorem open_pol : ∀ (fuel : Nat) (cs : List Value) (x : DataW H × List MemPlace), DataW.trod enc Tryz.prog w base (fun _ => true) held fuel 24 cs = some x → Fits Tryz.prog 24 x.1 →
    OpenP w (reachBytes / 72) cs (Rows.uptoBulk x.1) := by
  intro fuel
  induction fuel using Nat.strongRecOn with
  | ind fuel ih =>
  intro cs x h hfit
  have hu := Tryz.underlying24
  obtain ⟨xs, n, rfl, rfl, hl, hxl, hg⟩ := DataW.trod_struct hu h
  have hlen : xs.length = 5 := hxl
  match xs, hlen with
  | [y0, y1, y2, y3, y4], _ =>
  have g0 := hg 0 { name := "Kind", type := 3, offset := 0, embedded := false, tag := "", pkgPath := "", byteOffset := 0 } rfl
  have g1 := hg 1 { name := "Of", type := 3, offset := 1, embedded := false, tag := "", pkgPath := "", byteOffset := 8 } rfl
  have g2 := hg 2 { name := "Name", type := 9, offset := 2, embedded := false, tag := "", pkgPath := "", byteOffset := 16 } rfl
  have g3 := hg 3 { name := "Text", type := 9, offset := 3, embedded := false, tag := "", pkgPath := "", byteOffset := 32 } rfl
  have g4 := hg 4 { name := "List", type := 22, offset := 4, embedded := false, tag := "", pkgPath := "", byteOffset := 48 } rfl
  rw [pol_cells] at hl
  match cs, hl with
  | [c0, c1, c2, c3, c4], _ =>
  simp only [int_cells1, str_cells1, pls_cells1, List.drop_zero, List.drop_succ_cons, List.take_succ_cons, List.take_zero, List.getElem?_cons_zero, List.getElem?_cons_succ] at g0 g1 g2 g3 g4
  obtain ⟨k, e0, f0, z0⟩ := DataW.trod_int Tryz.underlying3 g0
  obtain ⟨o, e1, f1, z1⟩ := DataW.trod_int Tryz.underlying3 g1
  obtain ⟨s2, e2, f2, z2⟩ := DataW.trod_string Tryz.underlying9 g2
  obtain ⟨s3, e3, f3, z3⟩ := DataW.trod_string Tryz.underlying9 g3
  simp only [List.cons.injEq, and_true] at e0 e1 e2 e3
  subst e0 e1 e2 e3 f0 f1 f2 f3
  have w2 := fits_str (fits_part hu hfit (i := 2) rfl rfl)
  have w3 := fits_str (fits_part hu hfit (i := 3) rfl rfl)
  have w4 := fits_part hu hfit (i := 4) rfl rfl
  have el2 : s2.data.toList.length = s2.size := by simp
  have el3 : s3.data.toList.length = s3.size := by simp
  rcases DataW.trod_slice Tryz.underlying22 g4 with ⟨e4, f4⟩ | ⟨a, len, cap, elems, rest, m, rfl, e4, f4, hb, hlc, hcm, hel, hge, _, _⟩
  · simp only [List.cons.injEq, and_true] at e4
    subst e4 f4
    refine ⟨k, o, s2, s3, none, 0, .nil, rfl, w2, w3, ⟨Nat.le_refl _, by decide, 0, 0, Or.inr ⟨rfl, rfl⟩, trivial⟩, Nat.zero_le _, trivial, ?_⟩
    simp only [List.map_cons, List.map_nil, Rows.uptoBulk, Rows.uptoBulkAll, Fo.cnt]
    omega
  · simp only [List.cons.injEq, and_true] at e4
    subst e4 f4
    obtain ⟨hw, hwe⟩ := fits_elem Tryz.underlying22 w4
    rw [pol_bytes] at hw
    simp only [List.length_map] at hw
    have hrow : ∀ i, i < len → ∃ cs bu, (elems.map fun y => Rows.uptoBulk y.1)[i]? = some bu ∧ (∀ j, j < 5 → w.cell? ⟨a.block, a.off + 5 * i + j, none⟩ = cs[j]?) ∧ OpenP w (reachBytes / 72) cs bu := by
      intro i hi
      have hsome : (elems[i]?).isSome = true := by rw [List.getElem?_eq_getElem (by omega)]; rfl
      have hq := hge i hi
      rw [pol_cells] at hq
      obtain ⟨cs, y, hy, hcl, hcc, htr, _⟩ := elem_cells (by omega) hq hsome
      refine ⟨cs, Rows.uptoBulk y.1, by rw [List.getElem?_map, hy]; rfl, fun j hj => ?_, ih m (by omega) cs y htr (hwe _ ?_)⟩
      · rw [← hcc j hj, Nat.mul_comm]
      · rw [List.mem_map]
        exact ⟨y, List.mem_of_getElem? hy, rfl⟩
    obtain ⟨F, hFl, hFr, hFb, hFc⟩ := open_row a.block a.off len hrow len 0 (by omega)
    subst hFl
    have hspot : F.len = 0 ∨ a.spot = none := by
      rcases Nat.eq_zero_or_pos F.len with h0 | h0
      · exact Or.inl h0
      · right
        have hsome : (elems[0]?).isSome = true := by rw [List.getElem?_eq_getElem (by omega)]; rfl
        have hq := hge 0 h0
        rw [pol_cells] at hq
        obtain ⟨_, _, _, _, _, _, hs⟩ := elem_cells (by omega) hq hsome
        exact hs rfl
    refine ⟨k, o, s2, s3, some a, cap, F, rfl, w2, w3, ⟨hlc, hcm, a.block, a.off, ?_, by simpa using hFr⟩, ?_, hFb, ?_⟩
    · rcases hspot with h0 | h0
      · exact Or.inr ⟨rfl, h0⟩
      · left; obtain ⟨bl, of, sp⟩ := a; simp only at h0; subst h0; rfl
    · unfold reachBytes at hw ⊢; omega
    · simp only [List.map_cons, List.map_nil, Rows.uptoBulk, bulkAll_drop, List.map_map, List.sum_cons, List.sum_nil]
      rw [List.drop_zero] at hFc
      have : (List.map (Rows.uptoBulk ∘ fun y => y.1) elems).sum = (List.map (fun y => Rows.uptoBulk y.1) elems).sum := rfl
      omega
set_option maxRecDepth 100000 in
/-- A policy that came in. -/
theorem open_policy {r : Reach} {b0 : Nat} {v : Value} {d : DataW H} {p : List MemPlace} (hv : Value.okWide Tryz.prog w r b0 24 v) (h : DataW.Trod enc Tryz.prog w base (fun _ => true) held 24 v d p) (hf : Fits Tryz.prog 24 d) :
    ∃ (k o : Int) (n t : ByteArray) (ad : Option Addr) (c : Nat) (F : Fo), v = pv k o n t ad F.len c ∧ n.size ≤ SB ∧ t.size ≤ SB ∧ SlF w F ad c ∧ F.len ≤ reachBytes / 72 ∧ F.lens (reachBytes / 72) ∧ 6 * F.cnt + n.size + t.size + 6 ≤ Rows.uptoBulk d := by
  simp only [Value.okWide, Tryz.underlying24] at hv
  obtain ⟨cs, rfl, hsz, _⟩ := hv
  obtain ⟨fuel, hq⟩ := h
  obtain ⟨k, o, n, t, ad, c, F, h1, h2⟩ := open_pol fuel _ _ hq hf
  refine ⟨k, o, n, t, ad, c, F, ?_, h2⟩
  have : cs = #[.int .i64 k, .int .i64 o, .string n, .string t, .slice ad F.len c] := by
    apply Array.ext'
    simpa [Value.cells] using h1
  rw [this]
/-- Texts that came in. -/
theorem open_texts {fuel : Nat} {cs : List Value} {x : DataW H × List MemPlace} (h : DataW.trod enc Tryz.prog w base (fun _ => true) held fuel 43 cs = some x) :
    ∃ (l : List ByteArray) (ad : Option Addr) (c : Nat), cs = [.slice ad l.length c] ∧ SlS w l ad c := by
  rcases DataW.trod_slice Tryz.underlying43 h with ⟨rfl, _⟩ | ⟨a, len, cap, elems, rest, m, rfl, rfl, _, hb, hlc, hcm, hel, hge, _, _⟩
  · exact ⟨[], none, 0, rfl, Nat.le_refl _, by decide, 0, 0, Or.inr ⟨rfl, rfl⟩, fun j s hj => by simp at hj⟩
  · have hel2 : ∀ i, i < len → ∃ s : ByteArray, w.cell? ⟨a.block, a.off + i, none⟩ = some (.string s) ∧ (i = 0 → a.spot = none) := by
      intro i hi
      have hsome : (elems[i]?).isSome = true := by rw [List.getElem?_eq_getElem (by omega)]; rfl
      have hq := hge i hi
      rw [str_cells1] at hq
      obtain ⟨cs, y, hy, hcl, hcc, htr, hs⟩ := elem_cells (by omega) hq hsome
      obtain ⟨s, rfl, _⟩ := DataW.trod_string Tryz.underlying9 htr
      exact ⟨s, by simpa using hcc 0 (by omega), hs⟩
    have hl : ∀ m, ∀ i, m + i = len → ∃ l : List ByteArray, l.length = m ∧ ∀ j s, l[j]? = some s → w.cell? ⟨a.block, a.off + i + j, none⟩ = some (.string s) := by
      intro m
      induction m with
      | zero => exact fun i _ => ⟨[], rfl, fun j s hj => by simp at hj⟩
      | succ m ih =>
        intro i hi
        obtain ⟨l, hl, hlc⟩ := ih (i + 1) (by omega)
        obtain ⟨s, hs, _⟩ := hel2 i (by omega)
        refine ⟨s :: l, by simp [hl], fun j u hj => ?_⟩
        cases j with
        | zero => simp at hj; subst hj; exact hs
        | succ j => rw [List.getElem?_cons_succ] at hj; rw [show a.off + i + (j + 1) = a.off + (i + 1) + j by omega]; exact hlc j u hj
    obtain ⟨l, hl1, hl2⟩ := hl len 0 (by omega)
    subst hl1
    refine ⟨l, some a, cap, rfl, hlc, hcm, a.block, a.off, ?_, by simpa using hl2⟩
    rcases Nat.eq_zero_or_pos l.length with h0 | h0
    · exact Or.inr ⟨rfl, h0⟩
    · left
      obtain ⟨_, _, hs⟩ := hel2 0 h0
      have hs := hs rfl
      obtain ⟨bl, of, sp⟩ := a; simp only at hs; subst hs; rfl
set_option maxRecDepth 100000 in
/-- Facts that came in. -/
theorem open_factl {fuel : Nat} {cs : List Value} {x : DataW H × List MemPlace} (h : DataW.trod enc Tryz.prog w base (fun _ => true) held fuel 25 cs = some x) (hf : Fits Tryz.prog 25 x.1) :
    ∃ (l : List Fact) (ad : Option Addr) (c : Nat), cs = [.slice ad l.length c] ∧ SlX w l ad c ∧ (∀ f ∈ l, f.1.size ≤ SB) ∧ l.length ≤ reachBytes / 40 ∧ 2 * l.length ≤ Rows.uptoBulk x.1 := by
  rcases DataW.trod_slice Tryz.underlying25 h with ⟨rfl, rfl⟩ | ⟨a, len, cap, elems, rest, m, rfl, rfl, rfl, hb, hlc, hcm, hel, hge, _, _⟩
  · exact ⟨[], none, 0, rfl, ⟨Nat.le_refl _, by decide, 0, 0, Or.inr ⟨rfl, rfl⟩, trivial⟩, fun f hf => by simp at hf, Nat.zero_le _, Nat.zero_le _⟩
  · obtain ⟨hw, hwe⟩ := fits_elem Tryz.underlying25 hf
    have hfb : Tryz.prog.bytesOf 45 = 40 := by kernel_rfl
    rw [hfb] at hw
    simp only [List.length_map] at hw
    have hcz : Tryz.prog.cellsOf 45 = 2 := by kernel_rfl
    have htc : Tryz.prog.cellsOf 43 = 1 := by kernel_rfl
    have hu := Tryz.underlying45
    have hel2 : ∀ i, i < len → ∃ (s : ByteArray) (l : List ByteArray) (ad : Option Addr) (c : Nat), w.cell? ⟨a.block, a.off + 2 * i, none⟩ = some (.string s) ∧ w.cell? ⟨a.block, a.off + 2 * i + 1, none⟩ = some (.slice ad l.length c) ∧ SlS w l ad c ∧ s.size ≤ SB ∧ (i = 0 → a.spot = none) := by
      intro i hi
      have hsome : (elems[i]?).isSome = true := by rw [List.getElem?_eq_getElem (by omega)]; rfl
      have hq := hge i hi
      rw [hcz] at hq
      obtain ⟨cs, y, hy, hcl, hcc, htr, hs⟩ := elem_cells (by omega) hq hsome
      have hfy := hwe y.1 (by rw [List.mem_map]; exact ⟨y, List.mem_of_getElem? hy, rfl⟩)
      obtain ⟨xs, n, rfl, rfl, hl, hxl, hg⟩ := DataW.trod_struct hu htr
      have hlen : xs.length = 2 := hxl
      match xs, hlen with
      | [y0, y1], _ =>
      match cs, hcl with
      | [c0, c1], _ =>
      have g0 := hg 0 { name := "Name", type := 9, offset := 0, embedded := false, tag := "", pkgPath := "", byteOffset := 0 } rfl
      have g1 := hg 1 { name := "Texts", type := 43, offset := 1, embedded := false, tag := "", pkgPath := "", byteOffset := 16 } rfl
      simp only [str_cells1, htc, List.drop_zero, List.drop_succ_cons, List.take_succ_cons, List.take_zero, List.getElem?_cons_zero, List.getElem?_cons_succ] at g0 g1
      obtain ⟨s, e0, f0, _⟩ := DataW.trod_string Tryz.underlying9 g0
      simp only [List.cons.injEq, and_true] at e0
      subst e0 f0
      have ws := fits_str (fits_part hu hfy (i := 0) rfl rfl)
      obtain ⟨l, ad, c, e1, hss⟩ := open_texts g1
      simp only [List.cons.injEq, and_true] at e1
      subst e1
      refine ⟨s, l, ad, c, ?_, ?_, hss, ws, hs⟩
      · have := hcc 0 (by omega); rw [Nat.mul_comm]; exact this
      · have := hcc 1 (by omega); rw [Nat.mul_comm 2 i]; exact this
    have hl : ∀ m, ∀ i, m + i = len → ∃ l : List Fact, l.length = m ∧ RowX w l a.block (a.off + 2 * i) ∧ (∀ f ∈ l, f.1.size ≤ SB) := by
      intro m
      induction m with
      | zero => exact fun i _ => ⟨[], rfl, trivial, fun f hf => by simp at hf⟩
      | succ m ih =>
        intro i hi
        obtain ⟨l, hl, hlr, hls⟩ := ih (i + 1) (by omega)
        obtain ⟨s, tl, ad, c, h0, h1, h2, h3, _⟩ := hel2 i (by omega)
        refine ⟨(s, tl) :: l, by simp [hl], ⟨⟨ad, c, h0, h1, h2⟩, by rw [show a.off + 2 * i + 2 = a.off + 2 * (i + 1) by omega]; exact hlr⟩, fun f hf => ?_⟩
        rcases List.mem_cons.1 hf with rfl | hf
        · exact h3
        · exact hls f hf
    obtain ⟨l, hl1, hl2, hl3⟩ := hl len 0 (by omega)
    subst hl1
    refine ⟨l, some a, cap, rfl, ⟨hlc, hcm, a.block, a.off, ?_, by simpa using hl2⟩, hl3, ?_, ?_⟩
    · rcases Nat.eq_zero_or_pos l.length with h0 | h0
      · exact Or.inr ⟨rfl, h0⟩
      · left
        obtain ⟨_, _, _, _, _, _, _, _, hs⟩ := hel2 0 h0
        have hs := hs rfl
        obtain ⟨bl, of, sp⟩ := a; simp only at hs; subst hs; rfl
    · unfold reachBytes at hw ⊢; omega
    · have hb2 : ∀ L : List (DataW H × List MemPlace), (∀ y ∈ L, 2 ≤ Rows.uptoBulk y.1) → 2 * L.length ≤ (L.map fun y => Rows.uptoBulk y.1).sum := by
        intro L
        induction L with
        | nil => exact fun _ => Nat.zero_le _
        | cons y r ih =>
          intro hh
          have h1 := hh y (List.mem_cons_self ..)
          have h2 := ih fun z hz => hh z (List.mem_cons_of_mem _ hz)
          simp only [List.map_cons, List.sum_cons, List.length_cons]
          omega
      have hb3 : ∀ y ∈ elems, 2 ≤ Rows.uptoBulk y.1 := by
        intro y hy
        obtain ⟨i, hi, rfl⟩ := List.mem_iff_getElem.1 hy
        have hq := hge i (by omega)
        rw [hcz] at hq
        obtain ⟨cs, y, hy, hcl, hcc, htr, hs⟩ := elem_cells (by omega) hq (by rw [List.getElem?_eq_getElem hi]; rfl)
        obtain ⟨xs, n, rfl, rfl, hl, hxl, hg⟩ := DataW.trod_struct hu htr
        have hlen : xs.length = 2 := hxl
        match xs, hlen with
        | [y0, y1], _ =>
        rw [List.getElem?_eq_getElem hi] at hy
        rw [Option.some.inj hy]
        have h1 : ∀ d : DataW H, 1 ≤ Rows.uptoBulk d := fun d => by rw [Rows.uptoBulk.eq_def]; split <;> omega
        have := h1 y0.1
        simp only [List.map_cons, List.map_nil, Rows.uptoBulk, bulkAll_drop, List.sum_cons, List.sum_nil]
        omega
      have := hb2 elems hb3
      simp only [Rows.uptoBulk, bulkAll_drop, List.map_map]
      have e : (List.map (Rows.uptoBulk ∘ fun y => y.1) elems).sum = (List.map (fun y => Rows.uptoBulk y.1) elems).sum := rfl
      omega
set_option maxRecDepth 100000 in
theorem open_facts {r : Reach} {b0 : Nat} {v : Value} {d : DataW H} {p : List MemPlace} (hv : Value.okWide Tryz.prog w r b0 27 v) (h : DataW.Trod enc Tryz.prog w base (fun _ => true) held 27 v d p) (hf : Fits Tryz.prog 27 d) :
    ∃ x : Fx, v = x.v ∧ FxAt w x ∧ x.m.size ≤ SB ∧ x.p.size ≤ SB ∧ (∀ f ∈ x.cl, f.1.size ≤ SB) ∧ (∀ f ∈ x.ce, f.1.size ≤ SB) ∧ x.cl.length ≤ reachBytes / 40 ∧ x.ce.length ≤ reachBytes / 40 := by
  have hu := Tryz.underlying27
  have hfc : Tryz.prog.cellsOf 25 = 1 := by kernel_rfl
  have hcz : Tryz.prog.cellsOf 27 = 4 := by kernel_rfl
  simp only [Value.okWide, hu] at hv
  obtain ⟨cs0, rfl, hsz, _⟩ := hv
  obtain ⟨fuel, hq⟩ := h
  obtain ⟨xs, n, rfl, hx, hl, hxl, hg⟩ := DataW.trod_struct hu hq
  simp only [Prod.mk.injEq] at hx
  obtain ⟨rfl, rfl⟩ := hx
  have hlen : xs.length = 4 := hxl
  rw [hcz] at hl
  obtain ⟨cs, hcs⟩ : ∃ cs, cs = (Value.agg cs0).cells.toList := ⟨_, rfl⟩
  rw [← hcs] at hl hg
  match xs, hlen with
  | [y0, y1, y2, y3], _ =>
  match cs, hl with
  | [c0, c1, c2, c3], _ =>
  have g0 := hg 0 { name := "Method", type := 9, offset := 0, embedded := false, tag := "", pkgPath := "", byteOffset := 0 } rfl
  have g1 := hg 1 { name := "Path", type := 9, offset := 1, embedded := false, tag := "", pkgPath := "", byteOffset := 16 } rfl
  have g2 := hg 2 { name := "Claims", type := 25, offset := 2, embedded := false, tag := "", pkgPath := "", byteOffset := 32 } rfl
  have g3 := hg 3 { name := "Cert", type := 25, offset := 3, embedded := false, tag := "", pkgPath := "", byteOffset := 56 } rfl
  simp only [str_cells1, hfc, List.drop_zero, List.drop_succ_cons, List.take_succ_cons, List.take_zero, List.getElem?_cons_zero, List.getElem?_cons_succ] at g0 g1 g2 g3
  obtain ⟨s0, e0, f0, _⟩ := DataW.trod_string Tryz.underlying9 g0
  obtain ⟨s1, e1, f1, _⟩ := DataW.trod_string Tryz.underlying9 g1
  simp only [List.cons.injEq, and_true] at e0 e1
  subst e0 e1 f0 f1
  have w0 := fits_str (fits_part hu hf (i := 0) rfl rfl)
  have w1 := fits_str (fits_part hu hf (i := 1) rfl rfl)
  obtain ⟨l2, a2, c2', e2, hx2, hs2, hn2, _⟩ := open_factl g2 (fits_part hu hf (i := 2) rfl rfl)
  obtain ⟨l3, a3, c3', e3, hx3, hs3, hn3, _⟩ := open_factl g3 (fits_part hu hf (i := 3) rfl rfl)
  simp only [List.cons.injEq, and_true] at e2 e3
  subst e2 e3
  refine ⟨⟨s0, s1, l2, l3, a2, c2', a3, c3'⟩, ?_, ⟨hx2, hx3⟩, w0, w1, hs2, hs3, hn2, hn3⟩
  have : cs0 = #[.string s0, .string s1, .slice a2 l2.length c2', .slice a3 l3.length c3'] := by
    apply Array.ext'
    simpa [Value.cells] using hcs.symm
  rw [this]
end
end Go.Proofs.YthpagppipifgeaaGreatDoor
/- Arguments that came in read behind the call as before. -/
namespace Go.Proofs.YthpagppipifgeaaGreatDoor
open Go.ChangeShapes Go.WideShapes Go.ChangeAt Go.RowKit

theorem laidOut : laidOutB Tryz.prog = true := by kernel_rfl
theorem post_new2 {H : Type} {enc : TypeId × Value → H} {P : Program} {f : Func} {s : ChangeSpec} {apart fresh handsOn : Bool} {W W' : World} {args : Array Value} {v : Value} {ds gs : List (DataW H)} {before pa pv : List MemPlace}
    (hW : DataW.Whole enc P f.params.toList s.vars apart W args.toList ds gs before) (hb : Below W.heap.size W W') (hps : before = pa ++ pv)
    (hres : ∀ (b : Nat) (sp : Nat → Bool) (hd : Bool), DataW.TrodAll enc P W' b sp hd f.resultTypes.toList (v.resultList f.resultTypes.size) (s.fn H (ds ++ gs)).results [])
    (hargs : DataW.TrodAll enc P W' 0 (fun b => decide (b < W.heap.size)) true f.params.toList args.toList (s.fn H (ds ++ gs)).args pa)
    (hvars : ∀ sp : Nat → Bool, (∀ p ∈ before, sp p.block = true) → DataW.TrodVars enc P W' sp s.vars (s.fn H (ds ++ gs)).vars pv) :
    s.post enc P f apart fresh handsOn false W args v W' := by
  have hin : ∀ p ∈ before, (fun b => decide (b < W.heap.size)) p.block = true := fun p hp => decide_eq_true (hW.lt p hp)
  refine ⟨ds, gs, before, [], pa, pv, hW, hres _ _ _, hargs, hvars _ hin, World.keptBut_mono (fun p hp => ⟨hp, Or.inr ?_⟩) (hb.frame (· ∈ before)), fun h => by cases h⟩
  rw [hps, List.mem_append] at hp
  exact hp
theorem carry {H : Type} {enc : TypeId × Value → H} {P : Program} {t : TypeId} (hl : laidOutB P = true) (hr : P.readableRec t = true) (hrow : t < P.types.size) {W W' : World} {v : Value} {d : DataW H} {ps : List MemPlace}
    (h : DataW.Trod enc P W 0 (fun _ => true) true t v d ps) (hb : Below W.heap.size W W') (hlt : ∀ x ∈ ps, x.block < W.heap.size) :
    DataW.Trod enc P W' 0 (fun b => decide (b < W.heap.size)) true t v d ps := Below.trod hl hr hrow h hb hlt
theorem fits_arg {H : Type} {P : Program} {ts vs : List TypeId} {ds gs : List (DataW H)} (hz : (DataW.weightsEach P (ts ++ vs) (ds ++ gs)).all (· ≤ reachBytes) = true) (j : Nat) {t : TypeId} {d : DataW H} (ht : (ts ++ vs)[j]? = some t) (hd : (ds ++ gs)[j]? = some d) : Fits P t d :=
  List.all_eq_true.2 fun n hn => List.all_eq_true.1 hz n (DataW.weights_mem_each ht hd n hn)
end Go.Proofs.YthpagppipifgeaaGreatDoor
