/- http.read: the walk. -/
import Derived.Test.YtipjkjcmceeaeaaGreatDoorYReadK
import Derived.Test.YtipjkjcmceeaeaaGreatDoorYRHead
namespace Go.Proofs.YtipjkjcmceeaeaaGreatDoor
open Go.RowKit

def zQ : Array Value := #[.string ⟨#[]⟩, .string ⟨#[]⟩, .slice none 0 0, .string ⟨#[]⟩]
theorem zero_rq (w : World) : (zeroValue 24).run Tryz.prog w = .ok (.agg zQ) w := by kernel_rfl
theorem len_inf : (Tryz.prog.info? 57).map (·.size) = some 2 := by kernel_rfl
theorem results_cell_cell_tmp {fn : Func} {p u x : Tmp} {ty ty2 : TypeId} (h : fn.results = #[.cell p ty, .cell u ty2, .tmp x]) (tmps : Array Value) (P : Program) (w : World) :
    (results fn tmps).run P w =
      ((asAddr (tmps.getD p undef)).run P w).andThen fun a w₁ => ((loadVar ty a).run P w₁).andThen fun v w₂ => ((asAddr (tmps.getD u undef)).run P w₂).andThen fun a2 w₃ => ((loadVar ty2 a2).run P w₃).andThen fun v2 w₄ => .ok (.tuple #[v, v2, tmps.getD x undef]) w₄ := by
  simp only [results, h]
  simp [Sem.run_bind, Result.andThen]
section
variable {P : Program} {o : Oper} {a : Act} {B : Nat} {w0 w : World} {L L' : List (Nat × Array Value × TypeId)}
/-- A call's end with two structs in variables, and another result. -/
theorem bodyPost_cct {fn : Func} {R : Ending → World → Prop} {p u x : Tmp} {ty ty2 : TypeId} (hf : fn.results = #[.cell p ty, .cell u ty2, .tmp x]) (h : Rws B w0 w L) (g g' : Nat) (hp : a.tmps.getD p undef = .pointer (some ⟨g, 0, none⟩)) (hp' : a.tmps.getD u undef = .pointer (some ⟨g', 0, none⟩))
    (cs : Array Value) (t : TypeId) (hm : (g, cs, t) ∈ L) (cs' : Array Value) (t' : TypeId) (hm' : (g', cs', t') ∈ L) (d d' : TypeDesc) (hu : P.underlying ty = some d) (hd : (match d with | .struct _ | .array _ _ => true | _ => false) = true)
    (hu' : P.underlying ty2 = some d') (hd' : (match d' with | .struct _ | .array _ _ => true | _ => false) = true) (hi : (P.info? ty).map (·.size) = some cs.size) (hi' : (P.info? ty2).map (·.size) = some cs'.size)
    (v : Value) (hv : a.tmps.getD x undef = v) (hdef : a.defers = []) (hR : Below B w0 w → R (.returned (.tuple #[.agg cs, .agg cs', v])) w) : bodyPost P fn R .ret a w := by
  refine bodyPost_ret (v := .tuple #[.agg cs, .agg cs', v]) ?_ hdef (hR h.below)
  rw [results_cell_cell_tmp hf, hp, hp', hv]
  simp [asAddr, Result.andThen, run_loadVar_row w g t ty cs (0, 0) d (h.row _ hm).2 hu hd hi, run_loadVar_row w g' t' ty2 cs' (0, 0) d' (h.row _ hm').2 hu' hd' hi']
end
def QC (qc : Array Value) : Prop := ∃ m t ad n c, qc = #[.string m, .string t, .slice ad n c, .string ⟨#[]⟩]
def LC (lc : Array Value) : Prop := ∃ k b, lc = #[.int .i64 k, .bool b]
def WrH : Prd := fun _ v => ∃ why, v = wrV why sHead
theorem stb_wrh : Stb WrH := fun _ _ _ _ h => h
theorem lines_bound : ∀ (hs : List Hd), (∀ x, x ∈ hs → x.1.length ≤ 8192 ∧ x.2.length ≤ 8192) → (linesS hs).length ≤ hs.length * 16388
  | [], _ => Nat.le_refl _
  | h :: r, hh => by
    have h1 := lines_bound r fun x hx => hh x (List.mem_cons_of_mem _ hx)
    have h2 := hh h (List.mem_cons_self ..)
    have h3 : linesS (h :: r) = lineS h ++ linesS r := rfl
    have h4 : (lineS h).length = h.1.length + 2 + h.2.length + 2 := by unfold lineS CRLF; simp only [List.length_append, List.length_cons, List.length_nil]
    rw [h3, List.length_append, h4, List.length_cons]
    omega
theorem small_read {m t : Bs} {hs : List Hd} (hm : m.length ≤ 8192) (ht : t.length ≤ 8192) (hh : ∀ x, x ∈ hs → x.1.length ≤ 8192 ∧ x.2.length ≤ 8192) (h31 : hs.length ≤ 31) : SmallQ ⟨m, t, hs, []⟩ :=
  ⟨show m.length ≤ 1048576 by omega, show t.length ≤ 1048576 by omega, Nat.zero_le _, show hs.length ≤ 1048576 by omega, fun x hx => by have := hh x hx; omega, by have := lines_bound hs hh; show (linesS hs).length ≤ 8388608; omega⟩
theorem lenC_lc (b : Option Nat) : LC (lenC b) := by cases b <;> exact ⟨_, _, rfl⟩
theorem lenC_one (b : Option Nat) : (lenC b).all (·.oneCell') = true := by cases b <;> kernel_rfl
theorem lenC_inf (b : Option Nat) : (Tryz.prog.info? 57).map (·.size) = some (lenC b).size := by cases b <;> kernel_rfl
theorem lenC_size (b : Option Nat) : (lenC b).size = zL.size := by cases b <;> rfl
theorem lenC_size2 (b b' : Option Nat) : (lenC b).size = (lenC b').size := by cases b <;> cases b' <;> rfl
def ReadOut (s : Bs) (w' : World) (qc lc : Array Value) (v : Value) : Prop :=
  (readH s = .error 152 ∧ v = lkV sLong) ∨ (readH s = .error 151 ∧ ∃ why, v = wrV why sHead) ∨ ∃ q bl ad c, readH s = .ok (q, bl) ∧ v = .nilIface ∧ qc = rqC q ad c ∧ lc = lenC bl ∧ LiesT w' q.hs ad ∧ q.hs.length ≤ c ∧ c ≤ MX ∧ q.hs.length ≤ 31
def ReadPost (s : Bs) (w : World) : Ending → World → Prop := fun e w' => ∃ qc lc v, e = .returned (.tuple #[.agg qc, .agg lc, v]) ∧ QC qc ∧ LC lc ∧ ReadOut s w' qc lc v ∧ Below w.heap.size w w'
theorem qc_zero : QC zQ := ⟨_, _, _, _, _, rfl⟩
theorem lc_zero : LC zL := ⟨_, _, rfl⟩
theorem readLines_none {m t : Bs} {r : List Bs} (h : readL r [] (some 0) 0 = none) : readLines m t r = .error 151 := by
  unfold readLines
  rw [h]
set_option maxRecDepth 100000 in
set_option maxHeartbeats 8000000 in
theorem read_any (s : Bs) (w : World) (hl : s.length ≤ 8192) (hgw : Gw w) : Calls Tryz.prog 29 #[.string (bs s)] w (ReadPost s w) := by
  have hSB := SB_eq
  have HGW := Lib.hid hgw
  have hR := Rws.start w
  obtain ⟨ls, hls⟩ : ∃ ls, ls = splitS CRLF s := ⟨_, rfl⟩
  have HSP : Hid (∀ u L, Rws w.heap.size w u L → Calls Tryz.prog 54 #[.string (bs s), .string ⟨#[13, 10]⟩] u fun e w' => ∃ g, e = .returned (.slice (some ⟨g, 0, none⟩) ls.length ls.length) ∧ Rws w.heap.size w w' ((g, (StC ls).toArray, 9) :: L) ∧ Below u.heap.size u w') := Lib.hid fun u L h => (splitR_any s CRLF (by decide) (by omega) u (HGW.out.below h.below)).mono fun e w' hh => by
    obtain ⟨rfl, rfl⟩ := hh
    rw [← hls]
    exact ⟨_, rfl, h.alloc _ _, b_alloc _ _⟩
  obtain ⟨n, hn⟩ : ∃ n, n = ls.length := ⟨_, rfl⟩
  rw [← hn] at HSP
  have hle : ∀ x, x ∈ ls → x.length ≤ s.length := by rw [hls]; exact (split_le (by decide)).1
  have hn1 : 1 ≤ n := by rw [hn, hls]; exact (split_le (by decide)).2.2
  have hnm : n ≤ 8193 := by
    have := (split_le (sep := CRLF) (s := s) (by decide)).2.1
    rw [← hls, ← hn] at this
    omega
  by_cases hlong : 33 < n
  · have z1 : (32 : Int) < (n : Int) - 1 := by omega
    have HRH : Hid (readH s = .error 152) := Lib.hid (by unfold readH; rw [← hls, ← hn, if_pos hlong])
    clear hls hn hlong hle
    go_enter Tryz.func29, Tryz.ntmps29
    go_upto_region 2 with (first
      | (refine wQ_alloc (cs := zQ) rfl _ (by rfl) (by exact hR) zero_rq ?_; intro g2 w1 hR hb1 hg1)
      | (refine wQ_alloc (cs := zL) rfl _ (by rfl) (by exact hR) zero_len ?_; intro g3 w2 hR hb2 hg2)
      | (go_at_call 54; refine (HSP.out _ _ hR).mono ?_; rintro e w3 ⟨gl, rfl, hR, hb3⟩))
    clear hb1 hg1 hb2 hg2 hb3
    go_upto_region 3 with fail
    refine wp_region_softG 5 (by kernel_rfl) (by kernel_rfl) (by rfl) hR ?_
    refine g_ldw (g := g2) (cs := zQ) (R := Is (.agg zQ)) (by rfl) (by exact fun _ _ _ h => h) (by repeat (first | exact List.Mem.head _ | refine List.Mem.tail _ ?_)) Tryz.underlying24 rfl rq_inf (stb_is _) (by exact fun _ _ => rfl) ?_
    refine g_ldw (g := g3) (cs := zL) (R := Is (.agg zL)) (by rfl) (by exact fun _ _ _ h => h) (by repeat (first | exact List.Mem.head _ | refine List.Mem.tail _ ?_)) Tryz.underlying57 rfl len_inf (stb_is _) (by exact fun _ _ => rfl) ?_
    refine g_mki (t := 65) (v := .string ⟨#[116, 111, 111, 32, 108, 111, 110, 103]⟩) (by rfl) (by exact fun _ _ _ h => h) (by exact fun _ => by kernel_rfl) ?_
    refine g_same (g := g2) (cs := zQ) (by rfl) rfl rfl (by exact fun _ _ _ h => h) (by exact fun _ _ _ h => h) (by repeat (first | exact List.Mem.head _ | refine List.Mem.tail _ ?_)) (by kernel_rfl) (by kernel_rfl) ?_
    refine g_same (g := g3) (cs := zL) (by rfl) rfl rfl (by exact fun _ _ _ h => h) (by exact fun _ _ _ h => h) (by repeat (first | exact List.Mem.head _ | refine List.Mem.tail _ ?_)) (by kernel_rfl) (by kernel_rfl) ?_
    intro w9 hR9 hb9 v20 h20 v21 h21 v22 h22 vs3 hs3 vs4 hs4
    simp only [softEnd, Act.put, List.setIfInBounds_toArray, List.set_cons_succ, List.set_cons_zero, List.drop_succ_cons, List.drop_zero]
    obtain rfl : v22 = .iface 65 (.string ⟨#[116, 111, 111, 32, 108, 111, 110, 103]⟩) := h22
    clear h20 h21 hs3 hs4
    go_wp2_with fail
    refine bodyPost_cct rfl hR9 g2 g3 rfl rfl _ _ (by repeat (first | exact List.Mem.head _ | refine List.Mem.tail _ ?_)) _ _ (by repeat (first | exact List.Mem.head _ | refine List.Mem.tail _ ?_)) _ _ Tryz.underlying24 rfl Tryz.underlying57 rfl (by kernel_rfl) (by first | exact lenC_inf _ | kernel_rfl) _ rfl rfl (fun hbz => ?_)
    exact ⟨_, _, _, rfl, qc_zero, lc_zero, Or.inl ⟨HRH.out, rfl⟩, hbz⟩
  have z1 : ¬ (32 : Int) < (n : Int) - 1 := by omega
  obtain ⟨l0, r, hlr⟩ : ∃ l0 r, ls = l0 :: r := by
    cases ls with
    | nil => simp at hn; omega
    | cons a b => exact ⟨a, b, rfl⟩
  subst hlr
  have h33 : ¬ 33 < (l0 :: r).length := by rw [← hn]; exact hlong
  have hl0 := hle l0 (List.Mem.head _)
  have zl0 := bs_size l0
  obtain ⟨fs, hfs⟩ : ∃ fs, fs = splitS [32] l0 := ⟨_, rfl⟩
  have HSF : Hid (∀ u L, Rws w.heap.size w u L → Calls Tryz.prog 54 #[.string (bs l0), .string ⟨#[32]⟩] u fun e w' => ∃ g, e = .returned (.slice (some ⟨g, 0, none⟩) fs.length fs.length) ∧ Rws w.heap.size w w' ((g, (StC fs).toArray, 9) :: L) ∧ Below u.heap.size u w') := Lib.hid fun u L h => (splitR_any l0 [32] (by decide) (by omega) u (HGW.out.below h.below)).mono fun e w' hh => by
    obtain ⟨rfl, rfl⟩ := hh
    rw [← hfs]
    exact ⟨_, rfl, h.alloc _ _, b_alloc _ _⟩
  by_cases hk3 : fs.length = 3
  case neg =>
    have HRH : Hid (readH s = .error 151) := Lib.hid (read_first hls.symm h33 (by rw [← hfs]; exact hk3))
    have hkm : fs.length ≤ 8193 := by
      have := (split_le (sep := [32]) (s := l0) (by decide)).2.1
      rw [← hfs] at this; omega
    obtain ⟨k, hk⟩ : ∃ k, k = fs.length := ⟨_, rfl⟩
    rw [← hk] at HSF hk3 hkm
    have zk : ((k : Int) != 3) = true := by simp; omega
    clear hls hn hlong h33 hfs hk hk3 hle
    go_enter Tryz.func29, Tryz.ntmps29
    go_upto_region 2 with (first
      | (refine wQ_alloc (cs := zQ) rfl _ (by rfl) (by exact hR) zero_rq ?_; intro g2 w1 hR hb1 hg1)
      | (refine wQ_alloc (cs := zL) rfl _ (by rfl) (by exact hR) zero_len ?_; intro g3 w2 hR hb2 hg2)
      | (go_at_call 54; refine (HSP.out _ _ hR).mono ?_; rintro e w3 ⟨gl, rfl, hR, hb3⟩))
    clear hb1 hg1 hb2 hg2 hb3
    have c0 : w3.cell? ⟨gl, 0, none⟩ = some (.string (bs l0)) := hR.cellAt (g := gl) (by repeat (first | exact List.Mem.head _ | refine List.Mem.tail _ ?_)) 0 rfl
    go_upto_region 6 with (go_at_call 54; refine (HSF.out _ _ hR).mono ?_; rintro e w4 ⟨gf, rfl, hR, hb4⟩)
    refine wp_region_softG 7 (by kernel_rfl) (by kernel_rfl) (by rfl) hR ?_
    refine g_ldw (g := g2) (cs := zQ) (R := Is (.agg zQ)) (by rfl) (by exact fun _ _ _ h => h) (by repeat (first | exact List.Mem.head _ | refine List.Mem.tail _ ?_)) Tryz.underlying24 rfl rq_inf (stb_is _) (by exact fun _ _ => rfl) ?_
    refine g_ldw (g := g3) (cs := zL) (R := Is (.agg zL)) (by rfl) (by exact fun _ _ _ h => h) (by repeat (first | exact List.Mem.head _ | refine List.Mem.tail _ ?_)) Tryz.underlying57 rfl len_inf (stb_is _) (by exact fun _ _ => rfl) ?_
    refine g_mki (t := 65) (v := .string ⟨#[97, 32, 104, 101, 97, 100, 32, 116, 104, 97, 116, 32, 105, 115, 32, 110, 111, 116, 32, 114, 105, 103, 104, 116]⟩) (by rfl) (by exact fun _ _ _ h => h) (by exact fun _ => by kernel_rfl) ?_
    refine g_bld2 (t := 78) (v := .string ⟨#[116, 104, 101, 32, 102, 105, 114, 115, 116, 32, 108, 105, 110, 101]⟩) (u := .iface 65 (.string ⟨#[97, 32, 104, 101, 97, 100, 32, 116, 104, 97, 116, 32, 105, 115, 32, 110, 111, 116, 32, 114, 105, 103, 104, 116]⟩)) (r := .agg #[.string ⟨#[116, 104, 101, 32, 102, 105, 114, 115, 116, 32, 108, 105, 110, 101]⟩, .iface 65 (.string ⟨#[97, 32, 104, 101, 97, 100, 32, 116, 104, 97, 116, 32, 105, 115, 32, 110, 111, 116, 32, 114, 105, 103, 104, 116]⟩)]) (by rfl) (by exact fun _ _ _ h => h) (by exact fun _ _ _ h => h) (by exact fun w => run_build w _ _ _ (by kernel_rfl)) ?_
    refine g_mki (t := 78) (v := .agg #[.string ⟨#[116, 104, 101, 32, 102, 105, 114, 115, 116, 32, 108, 105, 110, 101]⟩, .iface 65 (.string ⟨#[97, 32, 104, 101, 97, 100, 32, 116, 104, 97, 116, 32, 105, 115, 32, 110, 111, 116, 32, 114, 105, 103, 104, 116]⟩)]) (by rfl) (by exact fun _ _ _ h => h) (by exact fun _ => by kernel_rfl) ?_
    refine g_same (g := g2) (cs := zQ) (by rfl) rfl rfl (by exact fun _ _ _ h => h) (by exact fun _ _ _ h => h) (by repeat (first | exact List.Mem.head _ | refine List.Mem.tail _ ?_)) (by kernel_rfl) (by kernel_rfl) ?_
    refine g_same (g := g3) (cs := zL) (by rfl) rfl rfl (by exact fun _ _ _ h => h) (by exact fun _ _ _ h => h) (by repeat (first | exact List.Mem.head _ | refine List.Mem.tail _ ?_)) (by kernel_rfl) (by kernel_rfl) ?_
    intro w9 hR9 hb9 v36 h36 v37 h37 v38 h38 v39 h39 v40 h40 vs5 hs5 vs6 hs6
    simp only [softEnd, Act.put, List.setIfInBounds_toArray, List.set_cons_succ, List.set_cons_zero, List.drop_succ_cons, List.drop_zero]
    obtain rfl : v40 = .iface 78 (.agg #[.string ⟨#[116, 104, 101, 32, 102, 105, 114, 115, 116, 32, 108, 105, 110, 101]⟩, .iface 65 (.string ⟨#[97, 32, 104, 101, 97, 100, 32, 116, 104, 97, 116, 32, 105, 115, 32, 110, 111, 116, 32, 114, 105, 103, 104, 116]⟩)]) := h40
    clear h36 h37 h38 h39 hs5 hs6
    go_wp2_with fail
    refine bodyPost_cct rfl hR9 g2 g3 rfl rfl _ _ (by repeat (first | exact List.Mem.head _ | refine List.Mem.tail _ ?_)) _ _ (by repeat (first | exact List.Mem.head _ | refine List.Mem.tail _ ?_)) _ _ Tryz.underlying24 rfl Tryz.underlying57 rfl (by kernel_rfl) (by first | exact lenC_inf _ | kernel_rfl) _ rfl rfl (fun hbz => ?_)
    exact ⟨_, _, _, rfl, qc_zero, lc_zero, Or.inr (Or.inl ⟨HRH.out, _, rfl⟩), hbz⟩
  obtain ⟨m, t, v, hmtv⟩ : ∃ m t v, fs = [m, t, v] := by
    match fs, hk3 with
    | [a, b, c], _ => exact ⟨a, b, c, rfl⟩
  subst hmtv
  have HRV := Lib.hid (read_ver hls.symm h33 hfs.symm)
  have hfl := (split_le (sep := [32]) (s := l0) (by decide)).1
  rw [← hfs] at hfl
  have hml := hfl m (List.Mem.head _)
  have htl := hfl t (List.Mem.tail _ (List.Mem.head _))
  have HSF3 : Hid (∀ u L, Rws w.heap.size w u L → Calls Tryz.prog 54 #[.string (bs l0), .string ⟨#[32]⟩] u fun e w' => ∃ g, e = .returned (.slice (some ⟨g, 0, none⟩) 3 3) ∧ Rws w.heap.size w w' ((g, #[.string (bs m), .string (bs t), .string (bs v)], 9) :: L) ∧ Below u.heap.size u w') := Lib.hid HSF.out
  clear HSF hfl hfs hk3
  by_cases hv : v = wHttp
  case neg =>
    have zv : ((bs v).toList == [72, 84, 84, 80, 47, 49, 46, 49]) = false := by rw [bs_list, beqL]; exact decide_eq_false hv
    have HRH : Hid (readH s = .error 151) := Lib.hid (by rw [HRV.out, if_neg hv])
    clear hls hn hlong h33 hle hv HRV
    go_enter Tryz.func29, Tryz.ntmps29
    go_upto_region 2 with (first
      | (refine wQ_alloc (cs := zQ) rfl _ (by rfl) (by exact hR) zero_rq ?_; intro g2 w1 hR hb1 hg1)
      | (refine wQ_alloc (cs := zL) rfl _ (by rfl) (by exact hR) zero_len ?_; intro g3 w2 hR hb2 hg2)
      | (go_at_call 54; refine (HSP.out _ _ hR).mono ?_; rintro e w3 ⟨gl, rfl, hR, hb3⟩))
    clear hb1 hg1 hb2 hg2 hb3
    have c0 : w3.cell? ⟨gl, 0, none⟩ = some (.string (bs l0)) := hR.cellAt (g := gl) (by repeat (first | exact List.Mem.head _ | refine List.Mem.tail _ ?_)) 0 rfl
    go_upto_region 5 with (go_at_call 54; refine (HSF3.out _ _ hR).mono ?_; rintro e w4 ⟨gf, rfl, hR, hb4⟩)
    have d2 : w4.cell? ⟨gf, 2, none⟩ = some (.string (bs v)) := hR.cellAt (g := gf) (by repeat (first | exact List.Mem.head _ | refine List.Mem.tail _ ?_)) 2 rfl
    clear c0
    go_upto_region 6 with fail
    refine wp_region_softG 7 (by kernel_rfl) (by kernel_rfl) (by rfl) hR ?_
    refine g_ldw (g := g2) (cs := zQ) (R := Is (.agg zQ)) (by rfl) (by exact fun _ _ _ h => h) (by repeat (first | exact List.Mem.head _ | refine List.Mem.tail _ ?_)) Tryz.underlying24 rfl rq_inf (stb_is _) (by exact fun _ _ => rfl) ?_
    refine g_ldw (g := g3) (cs := zL) (R := Is (.agg zL)) (by rfl) (by exact fun _ _ _ h => h) (by repeat (first | exact List.Mem.head _ | refine List.Mem.tail _ ?_)) Tryz.underlying57 rfl len_inf (stb_is _) (by exact fun _ _ => rfl) ?_
    refine g_mki (t := 65) (v := .string ⟨#[97, 32, 104, 101, 97, 100, 32, 116, 104, 97, 116, 32, 105, 115, 32, 110, 111, 116, 32, 114, 105, 103, 104, 116]⟩) (by rfl) (by exact fun _ _ _ h => h) (by exact fun _ => by kernel_rfl) ?_
    refine g_bld2 (t := 78) (v := .string ⟨#[116, 104, 101, 32, 102, 105, 114, 115, 116, 32, 108, 105, 110, 101]⟩) (u := .iface 65 (.string ⟨#[97, 32, 104, 101, 97, 100, 32, 116, 104, 97, 116, 32, 105, 115, 32, 110, 111, 116, 32, 114, 105, 103, 104, 116]⟩)) (r := .agg #[.string ⟨#[116, 104, 101, 32, 102, 105, 114, 115, 116, 32, 108, 105, 110, 101]⟩, .iface 65 (.string ⟨#[97, 32, 104, 101, 97, 100, 32, 116, 104, 97, 116, 32, 105, 115, 32, 110, 111, 116, 32, 114, 105, 103, 104, 116]⟩)]) (by rfl) (by exact fun _ _ _ h => h) (by exact fun _ _ _ h => h) (by exact fun w => run_build w _ _ _ (by kernel_rfl)) ?_
    refine g_mki (t := 78) (v := .agg #[.string ⟨#[116, 104, 101, 32, 102, 105, 114, 115, 116, 32, 108, 105, 110, 101]⟩, .iface 65 (.string ⟨#[97, 32, 104, 101, 97, 100, 32, 116, 104, 97, 116, 32, 105, 115, 32, 110, 111, 116, 32, 114, 105, 103, 104, 116]⟩)]) (by rfl) (by exact fun _ _ _ h => h) (by exact fun _ => by kernel_rfl) ?_
    refine g_same (g := g2) (cs := zQ) (by rfl) rfl rfl (by exact fun _ _ _ h => h) (by exact fun _ _ _ h => h) (by repeat (first | exact List.Mem.head _ | refine List.Mem.tail _ ?_)) (by kernel_rfl) (by kernel_rfl) ?_
    refine g_same (g := g3) (cs := zL) (by rfl) rfl rfl (by exact fun _ _ _ h => h) (by exact fun _ _ _ h => h) (by repeat (first | exact List.Mem.head _ | refine List.Mem.tail _ ?_)) (by kernel_rfl) (by kernel_rfl) ?_
    intro w9 hR9 hb9 v36 h36 v37 h37 v38 h38 v39 h39 v40 h40 vs5 hs5 vs6 hs6
    simp only [softEnd, Act.put, List.setIfInBounds_toArray, List.set_cons_succ, List.set_cons_zero, List.drop_succ_cons, List.drop_zero]
    obtain rfl : v40 = .iface 78 (.agg #[.string ⟨#[116, 104, 101, 32, 102, 105, 114, 115, 116, 32, 108, 105, 110, 101]⟩, .iface 65 (.string ⟨#[97, 32, 104, 101, 97, 100, 32, 116, 104, 97, 116, 32, 105, 115, 32, 110, 111, 116, 32, 114, 105, 103, 104, 116]⟩)]) := h40
    clear h36 h37 h38 h39 hs5 hs6
    go_wp2_with fail
    refine bodyPost_cct rfl hR9 g2 g3 rfl rfl _ _ (by repeat (first | exact List.Mem.head _ | refine List.Mem.tail _ ?_)) _ _ (by repeat (first | exact List.Mem.head _ | refine List.Mem.tail _ ?_)) _ _ Tryz.underlying24 rfl Tryz.underlying57 rfl (by kernel_rfl) (by first | exact lenC_inf _ | kernel_rfl) _ rfl rfl (fun hbz => ?_)
    exact ⟨_, _, _, rfl, qc_zero, lc_zero, Or.inr (Or.inl ⟨HRH.out, _, rfl⟩), hbz⟩
  have zv : ((bs v).toList == [72, 84, 84, 80, 47, 49, 46, 49]) = true := by rw [bs_list, hv]; rfl
  have HRL : Hid (readH s = readLines m t r) := Lib.hid (by rw [HRV.out, if_pos hv])
  have HLE := Lib.hid hle
  have HNR : Hid (n = r.length + 1) := Lib.hid hn
  clear hls hn hlong h33 hle hv HRV
  go_enter Tryz.func29, Tryz.ntmps29
  go_upto_region 2 with (first
    | (refine wQ_alloc (cs := zQ) rfl _ (by rfl) (by exact hR) zero_rq ?_; intro g2 w1 hR hb1 hg1)
    | (refine wQ_alloc (cs := zL) rfl _ (by rfl) (by exact hR) zero_len ?_; intro g3 w2 hR hb2 hg2)
    | (go_at_call 54; refine (HSP.out _ _ hR).mono ?_; rintro e w3 ⟨gl, rfl, hR, hb3⟩))
  clear hb1 hg1 hb2 hg2 hb3
  have c0 : w3.cell? ⟨gl, 0, none⟩ = some (.string (bs l0)) := hR.cellAt (g := gl) (by repeat (first | exact List.Mem.head _ | refine List.Mem.tail _ ?_)) 0 rfl
  go_upto_region 5 with (go_at_call 54; refine (HSF3.out _ _ hR).mono ?_; rintro e w4 ⟨gf, rfl, hR, hb4⟩)
  have d0 : w4.cell? ⟨gf, 0, none⟩ = some (.string (bs m)) := hR.cellAt (g := gf) (by repeat (first | exact List.Mem.head _ | refine List.Mem.tail _ ?_)) 0 rfl
  have d1 : w4.cell? ⟨gf, 1, none⟩ = some (.string (bs t)) := hR.cellAt (g := gf) (by repeat (first | exact List.Mem.head _ | refine List.Mem.tail _ ?_)) 1 rfl
  have d2 : w4.cell? ⟨gf, 2, none⟩ = some (.string (bs v)) := hR.cellAt (g := gf) (by repeat (first | exact List.Mem.head _ | refine List.Mem.tail _ ?_)) 2 rfl
  clear c0
  go_upto_region 7 with fail
  clear d2
  have e0 : w4.cell? ⟨g2, 0, none⟩ = some (.string ⟨#[]⟩) := hR.cellAt (g := g2) (by repeat (first | exact List.Mem.head _ | refine List.Mem.tail _ ?_)) 0 rfl
  have e1 : w4.cell? ⟨g2, 1, none⟩ = some (.string ⟨#[]⟩) := hR.cellAt (g := g2) (by repeat (first | exact List.Mem.head _ | refine List.Mem.tail _ ?_)) 1 rfl
  have t0 := hR.thaw (g := g2) (by repeat (first | exact List.Mem.head _ | refine List.Mem.tail _ ?_)) 0
  have t1 := hR.thaw (g := g2) (by repeat (first | exact List.Mem.head _ | refine List.Mem.tail _ ?_)) 1
  have hne : gf ≠ g2 := (List.pairwise_cons.1 hR.nd).1 _ (List.Mem.tail _ (List.Mem.tail _ (List.Mem.head _)))
  have hne2 := Ne.symm hne
  have hR5 : ∀ w5, w5 = ((w4.setCell ⟨g2, 0, none⟩ (.string (bs m))).setCell ⟨g2, 1, none⟩ (.string (bs t))).drew → Rws w.heap.size w w5 [(g2, #[.string (bs m), .string (bs t), .slice none 0 0, .string ⟨#[]⟩], 24), (gl, (StC (l0 :: r)).toArray, 9), (g3, lenC (some 0), 57)] := by
    rintro _ rfl
    exact ((((hR.sub (List.Sublist.cons _ (List.Sublist.refl _))).front (.there (.there .here))).setc 0 (.string (bs m))).setc 1 (.string (bs t))).drew
  go_region
  generalize hW5 : (World.setCell (World.setCell w4 _ _) _ _).drew = w5
  have hR := hR5 w5 hW5.symm
  clear hR5 hW5 e0 e1 t0 t1 hne hne2 d0 d1 hb4
  obtain ⟨B, hB⟩ : ∃ B, B = w5.heap.size := ⟨_, rfl⟩
  have hg2 : g2 < B := by rw [hB]; exact hR.lt (x := (g2, _, _)) (by repeat (first | exact List.Mem.head _ | refine List.Mem.tail _ ?_))
  have hg3 : g3 < B := by rw [hB]; exact hR.lt (x := (g3, _, _)) (by repeat (first | exact List.Mem.head _ | refine List.Mem.tail _ ?_))
  have hgl : gl < B := by rw [hB]; exact hR.lt (x := (gl, _, _)) (by repeat (first | exact List.Mem.head _ | refine List.Mem.tail _ ?_))
  have HB0 := Lib.hid hR.len
  have HR5 := Lib.hid hR
  have HBE := Lib.hid hB
  clear hR hB
  cases r with
  | nil =>
    have hn1z : (n : Int) - 1 = 0 := by have := HNR.out; simp at this; omega
    have hn1n : n = 1 := by have := HNR.out; simpa using this
    have HBAD : Hid (readH s = .error 151) := Lib.hid (by
      rw [HRL.out]
      unfold readLines readL
      show (if 1 < 0 ∨ 31 < ([] : List Hd).length ∨ formB ⟨m, t, [], []⟩ = false then (Except.error 151 : Except Int (Rq × Option Nat)) else _) = _
      rw [if_pos (Or.inr (Or.inr (by unfold formB hosts; simp)))])
    have HFM : Hid (∀ u, Calls Tryz.prog 51 #[.agg #[.string (bs m), .string (bs t), .slice none 0 0, .string ⟨#[]⟩]] u (RW WrH u)) := Lib.hid fun u => (form_any ⟨m, t, [], []⟩ none 0 u ⟨Nat.le_refl _, Nat.zero_le _, 0, 0, Or.inr ⟨rfl, rfl⟩, fun j x hj => by simp [HdC] at hj⟩ (small_read (by omega) (by omega) (fun x hx => by cases hx) (by decide)) (Nat.zero_le _)).mono fun e w' hh => by
      obtain ⟨⟨h1, _⟩ | ⟨_, why, h2⟩, hb⟩ := hh
      · rw [show formB ⟨m, t, [], []⟩ = false by unfold formB hosts; simp] at h1; cases h1
      · exact ⟨_, h2, ⟨why, rfl⟩, hb⟩
    subst hn1n
    go_upto_region 10 with fail
    go_loopg [4, 7, 52] 0 (fun gg s4 s7 s52 wr => gg = 0 ∧ s4 = .nilIface ∧ s7 = .int .i64 0 ∧ s52 = .int .i64 0 ∧ Aside (Rws w.heap.size w wr [(g2, #[.string (bs m), .string (bs t), .slice none 0 0, .string ⟨#[]⟩], 24), (gl, (StC [l0]).toArray, 9), (g3, lenC (some 0), 57)]))
    case atStart => exact ⟨rfl, rfl, rfl, rfl, HR5.out⟩
    case round =>
      obtain ⟨rfl, rfl, rfl, rfl, HRR⟩ := hrel
      have hR := HRR.out
      have n2 : wr.cell? ⟨g2, 2, none⟩ = some (.slice none 0 0) := hR.cellAt (g := g2) (by repeat (first | exact List.Mem.head _ | refine List.Mem.tail _ ?_)) 2 rfl
      go_upto_region 27 with fail
      clear n2
      refine wp_region_softG 6 (by kernel_rfl) (by kernel_rfl) (by rfl) hR ?_
      refine g_ldw (g := g2) (cs := #[.string (bs m), .string (bs t), .slice none 0 0, .string ⟨#[]⟩]) (R := Is (.agg #[.string (bs m), .string (bs t), .slice none 0 0, .string ⟨#[]⟩])) (by rfl) (by exact fun _ _ _ h => h) (by repeat (first | exact List.Mem.head _ | refine List.Mem.tail _ ?_)) Tryz.underlying24 rfl rq_inf (stb_is _) (by exact fun _ _ => rfl) ?_
      refine g_ldw (g := g3) (cs := (lenC (some 0))) (R := Is (.agg (lenC (some 0)))) (by rfl) (by exact fun _ _ _ h => h) (by repeat (first | exact List.Mem.head _ | refine List.Mem.tail _ ?_)) Tryz.underlying57 rfl (lenC_inf (some 0)) (stb_is _) (by exact fun _ _ => rfl) ?_
      refine g_ldw (g := g2) (cs := #[.string (bs m), .string (bs t), .slice none 0 0, .string ⟨#[]⟩]) (R := Is (.agg #[.string (bs m), .string (bs t), .slice none 0 0, .string ⟨#[]⟩])) (by rfl) (by exact fun _ _ _ h => h) (by repeat (first | exact List.Mem.head _ | refine List.Mem.tail _ ?_)) Tryz.underlying24 rfl rq_inf (stb_is _) (by exact fun _ _ => rfl) ?_
      refine g_callK (f := 51) (xs := [.tmp 127]) [.agg #[.string (bs m), .string (bs t), .slice none 0 0, .string ⟨#[]⟩]] (R := WrH) (by rfl) Tryz.func51 (by kernel_rfl) rfl (by first | exact stb_wrh | exact stb_is _) ⟨(by exact fun _ _ _ h => h), trivial⟩ (fun u _ => HFM.out u) ?_
      refine g_same (g := g2) (cs := #[.string (bs m), .string (bs t), .slice none 0 0, .string ⟨#[]⟩]) (by rfl) rfl rfl (by exact fun _ _ _ h => h) (by exact fun _ _ _ h => h) (by repeat (first | exact List.Mem.head _ | refine List.Mem.tail _ ?_)) (by kernel_rfl) (by kernel_rfl) ?_
      refine g_same (g := g3) (cs := (lenC (some 0))) (by rfl) rfl rfl (by exact fun _ _ _ h => h) (by exact fun _ _ _ h => h) (by repeat (first | exact List.Mem.head _ | refine List.Mem.tail _ ?_)) (lenC_inf (some 0)) (lenC_one (some 0)) ?_
      intro w9 hR9 hb9 v125 h125 v126 h126 v127 h127 v128 h128 vs4 hs4 vs5 hs5
      simp only [softEnd, Act.put, List.setIfInBounds_toArray, List.set_cons_succ, List.set_cons_zero, List.drop_succ_cons, List.drop_zero]
      obtain ⟨why, rfl⟩ := h128
      clear h125 h126 h127 hs4 hs5
      go_wp2_with fail
      refine bodyPost_cct rfl hR9 g2 g3 rfl rfl _ _ (by repeat (first | exact List.Mem.head _ | refine List.Mem.tail _ ?_)) _ _ (by repeat (first | exact List.Mem.head _ | refine List.Mem.tail _ ?_)) _ _ Tryz.underlying24 rfl Tryz.underlying57 rfl (by kernel_rfl) (by first | exact lenC_inf _ | kernel_rfl) _ rfl rfl (fun hbz => ?_)
      exact ⟨_, _, _, rfl, ⟨_, _, _, _, _, rfl⟩, lenC_lc _, Or.inr (Or.inl ⟨HBAD.out, _, rfl⟩), hbz⟩
  | cons l1 r1 =>
    have hz1 : ¬ (n : Int) - 1 = 0 := by have := HNR.out; simp at this; omega
    obtain ⟨r, hr⟩ : ∃ r, r = l1 :: r1 := ⟨_, rfl⟩
    rw [← hr] at HRL HLE HR5 HNR HSP
    have hrn : n - 1 = r.length := by have := HNR.out; omega
    have hrz : (n : Int) - 1 = (r.length : Int) := by omega
    have hr33 : r.length ≤ 32 := by omega
    have HRZ := Lib.hid hrz
    clear hr hrz hrn
    go_upto_region 10 with fail
    go_loopg [4, 7, 52] r.length (fun gg s4 s7 s52 wr => ∃ (i k : Nat) (hs : List Hd) (b : Option Nat) (hv : Value), i ≤ r.length ∧ gg = r.length - i ∧ s4 = .nilIface ∧ s7 = .int .i64 (k : Nat) ∧ s52 = .int .i64 (i : Nat) ∧ k ≤ i ∧ hs.length ≤ i ∧ Aside (readL (r.drop i) hs b k = readL r [] (some 0) 0) ∧ Aside (OwnH B wr hv hs) ∧ Aside (Rws w.heap.size w wr [(g2, #[.string (bs m), .string (bs t), hv, .string ⟨#[]⟩], 24), (gl, (StC (l0 :: r)).toArray, 9), (g3, lenC b, 57)]) ∧ Aside (B ≤ wr.heap.size) ∧ Aside (∀ x, x ∈ hs → x.1.length ≤ 8192 ∧ x.2.length ≤ 8192))
    case atStart => exact ⟨0, 0, [], some 0, .slice none 0 0, Nat.zero_le _, rfl, rfl, rfl, rfl, Nat.le_refl _, Nat.le_refl _, rfl, own_nil _ _ _ _, HR5.out, by rw [HBE.out]; exact Nat.le_refl _, fun x hx => by cases hx⟩
    case round =>
      obtain ⟨i, k, hs, b, hv, hil, rfl, rfl, rfl, rfl, hki, hhi, HRD, HO, HRR, HBW, HSZ⟩ := hrel
      obtain ⟨ad, c, rfl, hslc⟩ := slc_of_own HO.out
      have hR := HRR.out
      have HSL := Lib.hid hslc
      clear hslc
      by_cases hlt : i < r.length
      · have hltz : (i : Int) < (n : Int) - 1 := by have := HRZ.out; omega
        have hltn : i < n - 1 := by omega
        obtain ⟨x, hx⟩ : ∃ x, r[i]? = some x := ⟨r[i], List.getElem?_eq_getElem hlt⟩
        have HDR : Hid (r.drop i = x :: r.drop (i + 1)) := Lib.hid (by
          obtain ⟨hi, e⟩ := List.getElem?_eq_some_iff.1 hx
          rw [← e]; exact (List.drop_eq_getElem_cons hi))
        have hxl : x.length ≤ 8192 := by
          have := HLE.out x (List.mem_cons_of_mem _ (List.mem_of_getElem? hx))
          omega
        have f0 : wr.cell? ⟨gl, 1 + i, none⟩ = some (.string (bs x)) := hR.cellAt (g := gl) (by repeat (first | exact List.Mem.head _ | refine List.Mem.tail _ ?_)) (1 + i) (by rw [Nat.add_comm]; simp [StC, hx])
        clear hx
        have zx := bs_size x
        have HCU : Hid (∀ u, Below w.heap.size w u → Calls Tryz.prog 28 #[.string (bs x), .string ⟨#[58]⟩] u fun e w' => e = .returned (cutV [58] x) ∧ Below u.heap.size u w') := Lib.hid fun u hb => cut_any x [58] (by omega) u (HGW.out.below hb)
        go_upto_region 12 with fail
        clear f0
        cases hcut : cutA [58] x with
        | none =>
          have HBAD : Hid (readH s = .error 151) := Lib.hid (by rw [HRL.out, readLines_none (by rw [← HRD.out, HDR.out, readL_bad (lineH_nc hcut)])])
          have HCU2 : Hid (∀ u, Below w.heap.size w u → Calls Tryz.prog 28 #[.string (bs x), .string ⟨#[58]⟩] u fun e w' => e = .returned (.tuple #[.string (bs x), .string ⟨#[]⟩, .bool false]) ∧ Below u.heap.size u w') := Lib.hid (by rw [← cutV_none hcut]; exact HCU.out)
          clear hcut HCU
          go_upto_region 14 with (go_at_call 28; refine (HCU2.out _ hR.below).mono ?_; rintro e w6 ⟨rfl, hb6⟩; have hR := hR.call hb6)
          refine wp_region_softG 7 (by kernel_rfl) (by kernel_rfl) (by rfl) hR ?_
          refine g_ldw (g := g2) (cs := #[.string (bs m), .string (bs t), .slice ad hs.length c, .string ⟨#[]⟩]) (R := Is (.agg #[.string (bs m), .string (bs t), .slice ad hs.length c, .string ⟨#[]⟩])) (by rfl) (by exact fun _ _ _ h => h) (by repeat (first | exact List.Mem.head _ | refine List.Mem.tail _ ?_)) Tryz.underlying24 rfl rq_inf (stb_is _) (by exact fun _ _ => rfl) ?_
          refine g_ldw (g := g3) (cs := (lenC b)) (R := Is (.agg (lenC b))) (by rfl) (by exact fun _ _ _ h => h) (by repeat (first | exact List.Mem.head _ | refine List.Mem.tail _ ?_)) Tryz.underlying57 rfl (lenC_inf b) (stb_is _) (by exact fun _ _ => rfl) ?_
          refine g_mki (t := 65) (v := .string ⟨#[97, 32, 104, 101, 97, 100, 32, 116, 104, 97, 116, 32, 105, 115, 32, 110, 111, 116, 32, 114, 105, 103, 104, 116]⟩) (by rfl) (by exact fun _ _ _ h => h) (by exact fun _ => by kernel_rfl) ?_
          refine g_bld2 (t := 78) (v := .string ⟨#[97, 32, 102, 105, 101, 108, 100, 39, 115, 32, 110, 97, 109, 101]⟩) (u := .iface 65 (.string ⟨#[97, 32, 104, 101, 97, 100, 32, 116, 104, 97, 116, 32, 105, 115, 32, 110, 111, 116, 32, 114, 105, 103, 104, 116]⟩)) (r := .agg #[.string ⟨#[97, 32, 102, 105, 101, 108, 100, 39, 115, 32, 110, 97, 109, 101]⟩, .iface 65 (.string ⟨#[97, 32, 104, 101, 97, 100, 32, 116, 104, 97, 116, 32, 105, 115, 32, 110, 111, 116, 32, 114, 105, 103, 104, 116]⟩)]) (by rfl) (by exact fun _ _ _ h => h) (by exact fun _ _ _ h => h) (by exact fun w => run_build w _ _ _ (by kernel_rfl)) ?_
          refine g_mki (t := 78) (v := .agg #[.string ⟨#[97, 32, 102, 105, 101, 108, 100, 39, 115, 32, 110, 97, 109, 101]⟩, .iface 65 (.string ⟨#[97, 32, 104, 101, 97, 100, 32, 116, 104, 97, 116, 32, 105, 115, 32, 110, 111, 116, 32, 114, 105, 103, 104, 116]⟩)]) (by rfl) (by exact fun _ _ _ h => h) (by exact fun _ => by kernel_rfl) ?_
          refine g_same (g := g2) (cs := #[.string (bs m), .string (bs t), .slice ad hs.length c, .string ⟨#[]⟩]) (by rfl) rfl rfl (by exact fun _ _ _ h => h) (by exact fun _ _ _ h => h) (by repeat (first | exact List.Mem.head _ | refine List.Mem.tail _ ?_)) (by kernel_rfl) (by kernel_rfl) ?_
          refine g_same (g := g3) (cs := (lenC b)) (by rfl) rfl rfl (by exact fun _ _ _ h => h) (by exact fun _ _ _ h => h) (by repeat (first | exact List.Mem.head _ | refine List.Mem.tail _ ?_)) (lenC_inf b) (lenC_one b) ?_
          intro w9 hR9 hb9 v69 h69 v70 h70 v71 h71 v72 h72 v73 h73 vs5 hs5 vs6 hs6
          simp only [softEnd, Act.put, List.setIfInBounds_toArray, List.set_cons_succ, List.set_cons_zero, List.drop_succ_cons, List.drop_zero]
          obtain rfl : v73 = .iface 78 (.agg #[.string ⟨#[97, 32, 102, 105, 101, 108, 100, 39, 115, 32, 110, 97, 109, 101]⟩, .iface 65 (.string ⟨#[97, 32, 104, 101, 97, 100, 32, 116, 104, 97, 116, 32, 105, 115, 32, 110, 111, 116, 32, 114, 105, 103, 104, 116]⟩)]) := h73
          clear h69 h70 h71 h72 hs5 hs6
          go_wp2_with fail
          refine bodyPost_cct rfl hR9 g2 g3 rfl rfl _ _ (by repeat (first | exact List.Mem.head _ | refine List.Mem.tail _ ?_)) _ _ (by repeat (first | exact List.Mem.head _ | refine List.Mem.tail _ ?_)) _ _ Tryz.underlying24 rfl Tryz.underlying57 rfl (by kernel_rfl) (by first | exact lenC_inf _ | kernel_rfl) _ rfl rfl (fun hbz => ?_)
          exact ⟨_, _, _, rfl, ⟨_, _, _, _, _, rfl⟩, lenC_lc _, Or.inr (Or.inl ⟨HBAD.out, _, rfl⟩), hbz⟩
        | some p =>
          obtain ⟨nm, vv⟩ := p
          have HCU2 : Hid (∀ u, Below w.heap.size w u → Calls Tryz.prog 28 #[.string (bs x), .string ⟨#[58]⟩] u fun e w' => e = .returned (.tuple #[.string (bs nm), .string (bs vv), .bool true]) ∧ Below u.heap.size u w') := Lib.hid (by rw [← cutV_some hcut]; exact HCU.out)
          have hnl := (cutA_le hcut).1
          have hvl := (cutA_le hcut).2
          have HOF0 : ∀ u, Calls Tryz.prog 46 #[.string (bs nm), .int .i64 1, .int .i64 64, .func (.func 55) #[] #[]] u fun e w' => e = .returned (.bool (ofB 1 64 nmC nm)) ∧ w' = u := fun u => of_any _ nmC lk_name nm 1 64 u (by omega)
          cases ho : ofB 1 64 nmC nm with
          | false =>
            rw [ho] at HOF0
            have HOF := Lib.hid HOF0
            have HBAD : Hid (readH s = .error 151) := Lib.hid (by rw [HRL.out, readLines_none (by rw [← HRD.out, HDR.out, readL_bad (lineH_bad hcut ho)])])
            clear hcut HCU ho HOF0
            go_upto_region 14 with (first
              | (go_at_call 28; refine (HCU2.out _ hR.below).mono ?_; rintro e w6 ⟨rfl, hb6⟩; have hR := hR.call hb6)
              | (go_at_call 46; refine (HOF.out _).mono ?_; rintro e w7 ⟨rfl, rfl⟩))
            refine wp_region_softG 7 (by kernel_rfl) (by kernel_rfl) (by rfl) hR ?_
            refine g_ldw (g := g2) (cs := #[.string (bs m), .string (bs t), .slice ad hs.length c, .string ⟨#[]⟩]) (R := Is (.agg #[.string (bs m), .string (bs t), .slice ad hs.length c, .string ⟨#[]⟩])) (by rfl) (by exact fun _ _ _ h => h) (by repeat (first | exact List.Mem.head _ | refine List.Mem.tail _ ?_)) Tryz.underlying24 rfl rq_inf (stb_is _) (by exact fun _ _ => rfl) ?_
            refine g_ldw (g := g3) (cs := (lenC b)) (R := Is (.agg (lenC b))) (by rfl) (by exact fun _ _ _ h => h) (by repeat (first | exact List.Mem.head _ | refine List.Mem.tail _ ?_)) Tryz.underlying57 rfl (lenC_inf b) (stb_is _) (by exact fun _ _ => rfl) ?_
            refine g_mki (t := 65) (v := .string ⟨#[97, 32, 104, 101, 97, 100, 32, 116, 104, 97, 116, 32, 105, 115, 32, 110, 111, 116, 32, 114, 105, 103, 104, 116]⟩) (by rfl) (by exact fun _ _ _ h => h) (by exact fun _ => by kernel_rfl) ?_
            refine g_bld2 (t := 78) (v := .string ⟨#[97, 32, 102, 105, 101, 108, 100, 39, 115, 32, 110, 97, 109, 101]⟩) (u := .iface 65 (.string ⟨#[97, 32, 104, 101, 97, 100, 32, 116, 104, 97, 116, 32, 105, 115, 32, 110, 111, 116, 32, 114, 105, 103, 104, 116]⟩)) (r := .agg #[.string ⟨#[97, 32, 102, 105, 101, 108, 100, 39, 115, 32, 110, 97, 109, 101]⟩, .iface 65 (.string ⟨#[97, 32, 104, 101, 97, 100, 32, 116, 104, 97, 116, 32, 105, 115, 32, 110, 111, 116, 32, 114, 105, 103, 104, 116]⟩)]) (by rfl) (by exact fun _ _ _ h => h) (by exact fun _ _ _ h => h) (by exact fun w => run_build w _ _ _ (by kernel_rfl)) ?_
            refine g_mki (t := 78) (v := .agg #[.string ⟨#[97, 32, 102, 105, 101, 108, 100, 39, 115, 32, 110, 97, 109, 101]⟩, .iface 65 (.string ⟨#[97, 32, 104, 101, 97, 100, 32, 116, 104, 97, 116, 32, 105, 115, 32, 110, 111, 116, 32, 114, 105, 103, 104, 116]⟩)]) (by rfl) (by exact fun _ _ _ h => h) (by exact fun _ => by kernel_rfl) ?_
            refine g_same (g := g2) (cs := #[.string (bs m), .string (bs t), .slice ad hs.length c, .string ⟨#[]⟩]) (by rfl) rfl rfl (by exact fun _ _ _ h => h) (by exact fun _ _ _ h => h) (by repeat (first | exact List.Mem.head _ | refine List.Mem.tail _ ?_)) (by kernel_rfl) (by kernel_rfl) ?_
            refine g_same (g := g3) (cs := (lenC b)) (by rfl) rfl rfl (by exact fun _ _ _ h => h) (by exact fun _ _ _ h => h) (by repeat (first | exact List.Mem.head _ | refine List.Mem.tail _ ?_)) (lenC_inf b) (lenC_one b) ?_
            intro w9 hR9 hb9 v69 h69 v70 h70 v71 h71 v72 h72 v73 h73 vs5 hs5 vs6 hs6
            simp only [softEnd, Act.put, List.setIfInBounds_toArray, List.set_cons_succ, List.set_cons_zero, List.drop_succ_cons, List.drop_zero]
            obtain rfl : v73 = .iface 78 (.agg #[.string ⟨#[97, 32, 102, 105, 101, 108, 100, 39, 115, 32, 110, 97, 109, 101]⟩, .iface 65 (.string ⟨#[97, 32, 104, 101, 97, 100, 32, 116, 104, 97, 116, 32, 105, 115, 32, 110, 111, 116, 32, 114, 105, 103, 104, 116]⟩)]) := h73
            clear h69 h70 h71 h72 hs5 hs6
            go_wp2_with fail
            refine bodyPost_cct rfl hR9 g2 g3 rfl rfl _ _ (by repeat (first | exact List.Mem.head _ | refine List.Mem.tail _ ?_)) _ _ (by repeat (first | exact List.Mem.head _ | refine List.Mem.tail _ ?_)) _ _ Tryz.underlying24 rfl Tryz.underlying57 rfl (by kernel_rfl) (by first | exact lenC_inf _ | kernel_rfl) _ rfl rfl (fun hbz => ?_)
            exact ⟨_, _, _, rfl, ⟨_, _, _, _, _, rfl⟩, lenC_lc _, Or.inr (Or.inl ⟨HBAD.out, _, rfl⟩), hbz⟩
          | true =>
            rw [ho] at HOF0
            have HOF := Lib.hid HOF0
            have HLX := Lib.hid (lineH_ok hcut ho)
            clear hcut HCU ho HOF0
            obtain ⟨N, hN⟩ : ∃ N, N = lowS nm := ⟨_, rfl⟩
            obtain ⟨V, hV⟩ : ∃ V, V = trimS vv := ⟨_, rfl⟩
            have hNl : N.length ≤ 8192 := by rw [hN]; unfold lowS; rw [List.length_map]; omega
            have hVl : V.length ≤ 8192 := by rw [hV]; have := trim_le vv; omega
            have HLO : Hid (∀ u, Calls Tryz.prog 37 #[.string (bs nm)] u (RetS (bs N) u)) := Lib.hid fun u => by rw [hN]; exact lower_any nm u (by omega)
            have HTR : Hid (∀ u, Calls Tryz.prog 56 #[.string (bs vv), .string ⟨#[32]⟩] u fun e w' => e = .returned (.string (bs V)) ∧ Below u.heap.size u w') := Lib.hid fun u => (trim_any vv u (by omega)).mono fun e w' h => by
              obtain ⟨_, rfl, rfl, hb⟩ := h
              exact ⟨by rw [hV], hb⟩
            rw [← hN, ← hV] at HLX
            have zN := bs_size N
            have zV := bs_size V
            clear hN hV hnl hvl
            go_upto_region 16 with (first
              | (go_at_call 28; refine (HCU2.out _ hR.below).mono ?_; rintro e w6 ⟨rfl, hb6⟩; have hR := hR.call hb6)
              | (go_at_call 46; refine (HOF.out _).mono ?_; rintro e w7 ⟨rfl, rfl⟩)
              | (go_at_call 37; refine (HLO.out _).mono ?_; rintro e w8 ⟨rfl, hb8⟩; have hR := hR.call hb8)
              | (go_at_call 56; refine (HTR.out _).mono ?_; rintro e w9 ⟨rfl, hb9⟩; have hR := hR.call hb9)
              | (refine wQ_alloc (cs := zH) rfl _ (by rfl) (by exact hR) zero_hd ?_; intro g13 w10 hR hb10 hg10)
              | (refine wQ_store rfl _ _ _ (by rfl) (by exact hR) g13 rfl #[.string (bs N), .string (bs V)] (by rfl) _ _ _ (by repeat (first | exact Pick.here | apply Pick.there)) (by kernel_rfl) (by kernel_rfl) (by kernel_rfl) ?_; intro w11 hR hsm11 hsz11))
            have hs6 := hb6.size
            have hs8 := hb8.size
            have hs9 := hb9.size
            have hs10 := hb10.size
            have HO11 : Hid (OwnH B w11 (.slice ad hs.length c) hs) := Lib.hid (own_old HO.out fun k hBk hk => by
              rw [hsm11 k (by omega), hb10.block k (by omega), hb9.block k (by omega), hb8.block k (by omega), hb6.block k hk])
            have HB11 : Hid (B ≤ w11.heap.size) := Lib.hid (by have := HBW.out; omega)
            have hsz : ∀ y, y ∈ hs ++ [(N, V)] → y.1.length ≤ 8192 ∧ y.2.length ≤ 8192 := fun y hy => by
              rcases List.mem_append.1 hy with h | h
              · exact HSZ.out y h
              · obtain rfl := List.mem_singleton.1 h; exact ⟨hNl, hVl⟩
            have HSZ2 := Lib.hid hsz
            clear hsz hs6 hs8 hs9 hs10 hsm11 hsz11 hb6 hb8 hb9 hb10 hg10
            have n0 : w11.cell? ⟨g13, 0, none⟩ = some (.string (bs N)) := hR.cellAt (g := g13) (by repeat (first | exact List.Mem.head _ | refine List.Mem.tail _ ?_)) 0 rfl
            by_cases hlen : N = wCl ∨ N = wTe
            · have HME0 := fun u => measured_any (N, V) u (show V.length ≤ 1048576 by omega)
              cases hlf : lenF (N, V) with
              | none =>
                have HME : Hid (∀ u, Calls Tryz.prog 57 #[.agg #[.string (bs N), .string (bs V)]] u fun e w' => (∃ why, e = .returned (.tuple #[.agg zL, wrV why sHead])) ∧ Below u.heap.size u w') := Lib.hid fun u => (HME0 u).mono fun e w' hh => by
                  obtain ⟨⟨b', h1, _⟩ | ⟨_, h2⟩, hb⟩ := hh
                  · rw [hlf] at h1; cases h1
                  · exact ⟨h2, hb⟩
                have HBAD : Hid (readH s = .error 151) := Lib.hid (by rw [HRL.out, readLines_none (by rw [← HRD.out, HDR.out, readL_len0 HLX.out hlen hlf])])
                have en := err_neq
                have eg := err_guard
                clear HME0 hlf
                rcases hlen with hc | hc
                · have q1 : ((bs N).toList == [99, 111, 110, 116, 101, 110, 116, 45, 108, 101, 110, 103, 116, 104]) = true := by rw [bs_list, hc]; rfl
                  clear hc
                  go_upto_region 20 with (first
                    | (refine wpList_load_rws rfl _ _ (by rfl) (by exact hR) g13 rfl _ _ (by repeat (first | exact List.Mem.head _ | refine List.Mem.tail _ ?_)) _ Tryz.underlying52 rfl (by kernel_rfl) ?_)
                    | (go_at_call 57; refine (HME.out _).mono ?_; rintro e w12 ⟨⟨why, rfl⟩, hb12⟩; have hR := hR.call hb12)
                    | (refine wQ_store rfl _ _ _ (by rfl) (by exact hR) g3 rfl zL (by rfl) _ _ _ (by repeat (first | exact Pick.here | apply Pick.there)) (by kernel_rfl) (lenC_size _) (by kernel_rfl) ?_; intro w13 hR hsm13 hsz13))
                  refine wp_region_softG 5 (by kernel_rfl) (by kernel_rfl) (by rfl) hR ?_
                  refine g_ldw (g := g2) (cs := #[.string (bs m), .string (bs t), .slice ad hs.length c, .string ⟨#[]⟩]) (R := Is (.agg #[.string (bs m), .string (bs t), .slice ad hs.length c, .string ⟨#[]⟩])) (by rfl) (by exact fun _ _ _ h => h) (by repeat (first | exact List.Mem.head _ | refine List.Mem.tail _ ?_)) Tryz.underlying24 rfl rq_inf (stb_is _) (by exact fun _ _ => rfl) ?_
                  refine g_ldw (g := g3) (cs := zL) (R := Is (.agg zL)) (by rfl) (by exact fun _ _ _ h => h) (by repeat (first | exact List.Mem.head _ | refine List.Mem.tail _ ?_)) Tryz.underlying57 rfl len_inf (stb_is _) (by exact fun _ _ => rfl) ?_
                  refine g_move (R := Is (wrV why sHead)) (by rfl) (stb_is _) (by exact fun _ _ _ h => h) ?_
                  refine g_same (g := g2) (cs := #[.string (bs m), .string (bs t), .slice ad hs.length c, .string ⟨#[]⟩]) (by rfl) rfl rfl (by exact fun _ _ _ h => h) (by exact fun _ _ _ h => h) (by repeat (first | exact List.Mem.head _ | refine List.Mem.tail _ ?_)) (by kernel_rfl) (by kernel_rfl) ?_
                  refine g_same (g := g3) (cs := zL) (by rfl) rfl rfl (by exact fun _ _ _ h => h) (by exact fun _ _ _ h => h) (by repeat (first | exact List.Mem.head _ | refine List.Mem.tail _ ?_)) (by kernel_rfl) (by kernel_rfl) ?_
                  intro w9 hR9 hb9 v96 h96 v97 h97 v98 h98 vs3 hs3 vs4 hs4
                  simp only [softEnd, Act.put, List.setIfInBounds_toArray, List.set_cons_succ, List.set_cons_zero, List.drop_succ_cons, List.drop_zero]
                  obtain rfl : v98 = wrV why sHead := h98
                  clear h96 h97 hs3 hs4
                  go_wp2_with fail
                  refine bodyPost_cct rfl hR9 g2 g3 rfl rfl _ _ (by repeat (first | exact List.Mem.head _ | refine List.Mem.tail _ ?_)) _ _ (by repeat (first | exact List.Mem.head _ | refine List.Mem.tail _ ?_)) _ _ Tryz.underlying24 rfl Tryz.underlying57 rfl (by kernel_rfl) (by first | exact lenC_inf _ | kernel_rfl) _ rfl rfl (fun hbz => ?_)
                  exact ⟨_, _, _, rfl, ⟨_, _, _, _, _, rfl⟩, lc_zero, Or.inr (Or.inl ⟨HBAD.out, _, rfl⟩), hbz⟩
                · have q1 : ((bs N).toList == [99, 111, 110, 116, 101, 110, 116, 45, 108, 101, 110, 103, 116, 104]) = false := by rw [bs_list, hc]; rfl
                  have q2 : ((bs N).toList == [116, 114, 97, 110, 115, 102, 101, 114, 45, 101, 110, 99, 111, 100, 105, 110, 103]) = true := by rw [bs_list, hc]; rfl
                  clear hc
                  go_upto_region 20 with (first
                    | (refine wpList_load_rws rfl _ _ (by rfl) (by exact hR) g13 rfl _ _ (by repeat (first | exact List.Mem.head _ | refine List.Mem.tail _ ?_)) _ Tryz.underlying52 rfl (by kernel_rfl) ?_)
                    | (go_at_call 57; refine (HME.out _).mono ?_; rintro e w12 ⟨⟨why, rfl⟩, hb12⟩; have hR := hR.call hb12)
                    | (refine wQ_store rfl _ _ _ (by rfl) (by exact hR) g3 rfl zL (by rfl) _ _ _ (by repeat (first | exact Pick.here | apply Pick.there)) (by kernel_rfl) (lenC_size _) (by kernel_rfl) ?_; intro w13 hR hsm13 hsz13))
                  refine wp_region_softG 5 (by kernel_rfl) (by kernel_rfl) (by rfl) hR ?_
                  refine g_ldw (g := g2) (cs := #[.string (bs m), .string (bs t), .slice ad hs.length c, .string ⟨#[]⟩]) (R := Is (.agg #[.string (bs m), .string (bs t), .slice ad hs.length c, .string ⟨#[]⟩])) (by rfl) (by exact fun _ _ _ h => h) (by repeat (first | exact List.Mem.head _ | refine List.Mem.tail _ ?_)) Tryz.underlying24 rfl rq_inf (stb_is _) (by exact fun _ _ => rfl) ?_
                  refine g_ldw (g := g3) (cs := zL) (R := Is (.agg zL)) (by rfl) (by exact fun _ _ _ h => h) (by repeat (first | exact List.Mem.head _ | refine List.Mem.tail _ ?_)) Tryz.underlying57 rfl len_inf (stb_is _) (by exact fun _ _ => rfl) ?_
                  refine g_move (R := Is (wrV why sHead)) (by rfl) (stb_is _) (by exact fun _ _ _ h => h) ?_
                  refine g_same (g := g2) (cs := #[.string (bs m), .string (bs t), .slice ad hs.length c, .string ⟨#[]⟩]) (by rfl) rfl rfl (by exact fun _ _ _ h => h) (by exact fun _ _ _ h => h) (by repeat (first | exact List.Mem.head _ | refine List.Mem.tail _ ?_)) (by kernel_rfl) (by kernel_rfl) ?_
                  refine g_same (g := g3) (cs := zL) (by rfl) rfl rfl (by exact fun _ _ _ h => h) (by exact fun _ _ _ h => h) (by repeat (first | exact List.Mem.head _ | refine List.Mem.tail _ ?_)) (by kernel_rfl) (by kernel_rfl) ?_
                  intro w9 hR9 hb9 v96 h96 v97 h97 v98 h98 vs3 hs3 vs4 hs4
                  simp only [softEnd, Act.put, List.setIfInBounds_toArray, List.set_cons_succ, List.set_cons_zero, List.drop_succ_cons, List.drop_zero]
                  obtain rfl : v98 = wrV why sHead := h98
                  clear h96 h97 hs3 hs4
                  go_wp2_with fail
                  refine bodyPost_cct rfl hR9 g2 g3 rfl rfl _ _ (by repeat (first | exact List.Mem.head _ | refine List.Mem.tail _ ?_)) _ _ (by repeat (first | exact List.Mem.head _ | refine List.Mem.tail _ ?_)) _ _ Tryz.underlying24 rfl Tryz.underlying57 rfl (by kernel_rfl) (by first | exact lenC_inf _ | kernel_rfl) _ rfl rfl (fun hbz => ?_)
                  exact ⟨_, _, _, rfl, ⟨_, _, _, _, _, rfl⟩, lc_zero, Or.inr (Or.inl ⟨HBAD.out, _, rfl⟩), hbz⟩
              | some b' =>
                have HME : Hid (∀ u, Calls Tryz.prog 57 #[.agg #[.string (bs N), .string (bs V)]] u fun e w' => e = .returned (.tuple #[.agg (lenC b'), .nilIface]) ∧ Below u.heap.size u w') := Lib.hid fun u => (HME0 u).mono fun e w' hh => by
                  obtain ⟨⟨b2, h1, h2⟩ | ⟨h1, _⟩, hb⟩ := hh
                  · rw [hlf] at h1; cases h1; exact ⟨h2, hb⟩
                  · rw [hlf] at h1; cases h1
                have HRD2 : Hid (readL (r.drop (i + 1)) hs b' (k + 1) = readL r [] (some 0) 0) := Lib.hid (by rw [← HRD.out, HDR.out, readL_len HLX.out hlen hlf])
                have en := nil_neq
                have eg := nil_guard
                clear HME0 hlf
                rcases hlen with hc | hc
                · have q1 : ((bs N).toList == [99, 111, 110, 116, 101, 110, 116, 45, 108, 101, 110, 103, 116, 104]) = true := by rw [bs_list, hc]; rfl
                  clear hc
                  go_wp2_with (first
                    | (refine wpList_load_rws rfl _ _ (by rfl) (by exact hR) g13 rfl _ _ (by repeat (first | exact List.Mem.head _ | refine List.Mem.tail _ ?_)) _ Tryz.underlying52 rfl (by kernel_rfl) ?_)
                    | (go_at_call 57; refine (HME.out _).mono ?_; rintro e w12 ⟨rfl, hb12⟩; have hR := hR.call hb12)
                    | (refine wQ_store rfl _ _ _ (by rfl) (by exact hR) g3 rfl (lenC b') (by rfl) _ _ _ (by repeat (first | exact Pick.here | apply Pick.there)) (lenC_inf _) (lenC_size2 _ _) (lenC_one _) ?_; intro w13 hR hsm13 hsz13))
                  have HO13 : Hid (OwnH B w13 (.slice ad hs.length c) hs) := Lib.hid (own_old (own_keep HO11.out hb12) fun k hBk hk => hsm13 k (by omega))
                  have HB13 : Hid (B ≤ w13.heap.size) := Lib.hid (by have := HB11.out; have := hb12.size; omega)
                  have HR13 := Lib.hid (((hR.sub (.cons_cons _ (.cons _ (List.Sublist.refl _)))).front (.there (.there .here))).front (.there (.there .here)))
                  go_roundg (r.length - (i + 1))
                  case measure => omega
                  case rel => exact ⟨i + 1, k + 1, hs, b', .slice ad hs.length c, by omega, rfl, rfl, by go_num, by go_num, by omega, by omega, HRD2.out, HO13.out, HR13.out, HB13.out, HSZ.out⟩
                · have q1 : ((bs N).toList == [99, 111, 110, 116, 101, 110, 116, 45, 108, 101, 110, 103, 116, 104]) = false := by rw [bs_list, hc]; rfl
                  have q2 : ((bs N).toList == [116, 114, 97, 110, 115, 102, 101, 114, 45, 101, 110, 99, 111, 100, 105, 110, 103]) = true := by rw [bs_list, hc]; rfl
                  clear hc
                  go_wp2_with (first
                    | (refine wpList_load_rws rfl _ _ (by rfl) (by exact hR) g13 rfl _ _ (by repeat (first | exact List.Mem.head _ | refine List.Mem.tail _ ?_)) _ Tryz.underlying52 rfl (by kernel_rfl) ?_)
                    | (go_at_call 57; refine (HME.out _).mono ?_; rintro e w12 ⟨rfl, hb12⟩; have hR := hR.call hb12)
                    | (refine wQ_store rfl _ _ _ (by rfl) (by exact hR) g3 rfl (lenC b') (by rfl) _ _ _ (by repeat (first | exact Pick.here | apply Pick.there)) (lenC_inf _) (lenC_size2 _ _) (lenC_one _) ?_; intro w13 hR hsm13 hsz13))
                  have HO13 : Hid (OwnH B w13 (.slice ad hs.length c) hs) := Lib.hid (own_old (own_keep HO11.out hb12) fun k hBk hk => hsm13 k (by omega))
                  have HB13 : Hid (B ≤ w13.heap.size) := Lib.hid (by have := HB11.out; have := hb12.size; omega)
                  have HR13 := Lib.hid (((hR.sub (.cons_cons _ (.cons _ (List.Sublist.refl _)))).front (.there (.there .here))).front (.there (.there .here)))
                  go_roundg (r.length - (i + 1))
                  case measure => omega
                  case rel => exact ⟨i + 1, k + 1, hs, b', .slice ad hs.length c, by omega, rfl, rfl, by go_num, by go_num, by omega, by omega, HRD2.out, HO13.out, HR13.out, HB13.out, HSZ.out⟩
            · have q1 : ((bs N).toList == [99, 111, 110, 116, 101, 110, 116, 45, 108, 101, 110, 103, 116, 104]) = false := by rw [bs_list, beqL]; exact decide_eq_false fun h => hlen (Or.inl h)
              have q2 : ((bs N).toList == [116, 114, 97, 110, 115, 102, 101, 114, 45, 101, 110, 99, 111, 100, 105, 110, 103]) = false := by rw [bs_list, beqL]; exact decide_eq_false fun h => hlen (Or.inr h)
              have HRD2 : Hid (readL (r.drop (i + 1)) (hs ++ [(N, V)]) b k = readL r [] (some 0) 0) := Lib.hid (by rw [← HRD.out, HDR.out, readL_head HLX.out hlen])
              have n2 : w11.cell? ⟨g2, 2, none⟩ = some (.slice ad hs.length c) := hR.cellAt (g := g2) (by repeat (first | exact List.Mem.head _ | refine List.Mem.tail _ ?_)) 2 rfl
              have hk : hs.length + 1 ≤ 3000000 := by omega
              have HLT : Hid (∀ y, y ∈ ([(g2, #[.string (bs m), .string (bs t), .slice ad hs.length c, .string ⟨#[]⟩], 24), (gl, (StC (l0 :: r)).toArray, 9), (g3, lenC b, 57)] : List (Nat × Array Value × TypeId)) → y.1 < B) := Lib.hid fun y hy => by
                rcases List.mem_cons.1 hy with rfl | hy
                · exact hg2
                rcases List.mem_cons.1 hy with rfl | hy
                · exact hgl
                obtain rfl := List.mem_singleton.1 hy
                exact hg3
              have HWB : Hid (w.heap.size ≤ B) := Lib.hid (by have := HB0.out; have := HBE.out; omega)
              clear hlen
              go_wp2_with (first
                | (refine wpList_load_rws rfl _ _ (by rfl) (by exact hR) g13 rfl _ _ (by repeat (first | exact List.Mem.head _ | refine List.Mem.tail _ ?_)) _ Tryz.underlying52 rfl (by kernel_rfl) ?_)
                | (at_builtin; refine wp_snocH rfl _ _ (by rfl) (N, V) (by rfl) (by rfl) HO11.out HB11.out (Below.refl _ _) hk ?_; intro v' w12 hO2 hB2; obtain ⟨ad2, c2, rfl, _⟩ := slc_of_own hO2; have hR := Rws.low (hR.sub (List.Sublist.cons _ (List.Sublist.refl _))) HLT.out HWB.out hB2)
                | (refine wS_storec (g := g2) (k := 2) rfl (by rfl) (by exact hR) rfl rfl (by repeat (first | exact Pick.here | apply Pick.there)) rfl (by kernel_rfl) (by exact (show 2 < 4 by decide)) (by rfl) rfl ?_; intro w13 hR hsm13 hsz13))
              have HO13 : Hid (OwnH B w13 (.slice ad2 (hs ++ [(N, V)]).length c2) (hs ++ [(N, V)])) := Lib.hid (own_old hO2 fun k hBk hk => hsm13 k (by omega))
              have HB13 : Hid (B ≤ w13.heap.size) := Lib.hid (by have := HB11.out; have := hB2.size; omega)
              have hR13 : Rws w.heap.size w w13 [(g2, #[.string (bs m), .string (bs t), .slice ad2 (hs ++ [(N, V)]).length c2, .string ⟨#[]⟩], 24), (gl, (StC (l0 :: r)).toArray, 9), (g3, lenC b, 57)] := by
                first
                  | exact hR
                  | (rw [show (hs ++ [(N, V)]).length = hs.length + 1 by rw [List.length_append]; rfl]; exact hR)
              have HR13 := Lib.hid hR13
              go_roundg (r.length - (i + 1))
              case measure => omega
              case rel => exact ⟨i + 1, k, hs ++ [(N, V)], b, .slice ad2 (hs ++ [(N, V)]).length c2, by omega, rfl, rfl, rfl, by go_num, by omega, by rw [List.length_append]; simp; omega, HRD2.out, HO13.out, HR13.out, HB13.out, HSZ2.out⟩
      · have hltz : ¬ (i : Int) < (n : Int) - 1 := by have := HRZ.out; omega
        have hltn : ¬ i < n - 1 := by have := HRZ.out; omega
        have HEX : Hid (readH s = if 1 < k ∨ 31 < hs.length ∨ formB ⟨m, t, hs, []⟩ = false then .error 151 else .ok (⟨m, t, hs, []⟩, b)) := Lib.hid (by
          rw [HRL.out]
          unfold readLines
          rw [← HRD.out, List.drop_of_length_le (by omega)]
          rfl)
        by_cases hk1 : 1 < k
        · have hk1z : (1 : Int) < (k : Int) := by omega
          have HBAD : Hid (readH s = .error 151) := Lib.hid (by rw [HEX.out, if_pos (Or.inl hk1)])
          have HI : Hid (∀ u, Below wr.heap.size wr u → Calls Tryz.prog 47 #[.int .i64 (k : Nat)] u (RW (Is (.string (bs (numS k)))) u)) := Lib.hid fun u _ => (Tryz.strconv_Itoa_small k (by omega) u).mono fun _ _ h => rw_same h
          have hnl := (num_len (n := k) (by omega)).2
          have zn := bs_size (numS k)
          obtain ⟨N, hN⟩ : ∃ N, N = numS k := ⟨_, rfl⟩
          rw [← hN] at HI hnl zn
          have HZ1 : Hid (∀ W, (binOp .add 9 (.string (bs N)) (.string ⟨#[32, 108, 101, 110, 103, 116, 104, 115]⟩)).run Tryz.prog W = .ok (.string (bs (N ++ [32, 108, 101, 110, 103, 116, 104, 115]))) W) := Lib.hid fun W => bin_addL N [32, 108, 101, 110, 103, 116, 104, 115] (by simp only [List.length_cons, List.length_nil]; omega) W
          clear hN hk1 HEX
          go_upto_region 24 with fail
          refine wp_region_softG 10 (by kernel_rfl) (by kernel_rfl) (by rfl) hR ?_
          refine g_ldw (g := g2) (cs := #[.string (bs m), .string (bs t), .slice ad hs.length c, .string ⟨#[]⟩]) (R := Is (.agg #[.string (bs m), .string (bs t), .slice ad hs.length c, .string ⟨#[]⟩])) (by rfl) (by exact fun _ _ _ h => h) (by repeat (first | exact List.Mem.head _ | refine List.Mem.tail _ ?_)) Tryz.underlying24 rfl rq_inf (stb_is _) (by exact fun _ _ => rfl) ?_
          refine g_ldw (g := g3) (cs := (lenC b)) (R := Is (.agg (lenC b))) (by rfl) (by exact fun _ _ _ h => h) (by repeat (first | exact List.Mem.head _ | refine List.Mem.tail _ ?_)) Tryz.underlying57 rfl (lenC_inf b) (stb_is _) (by exact fun _ _ => rfl) ?_
          refine g_move (R := Is (.int .i64 (k : Nat))) (by rfl) (stb_is _) (by exact fun _ _ _ h => h) ?_
          refine g_callK (f := 47) (xs := [.tmp 110]) [.int .i64 (k : Nat)] (R := Is (.string (bs N))) (by rfl) Tryz.func47 (by kernel_rfl) rfl (stb_is _) ⟨(by exact fun _ _ _ h => h), trivial⟩ (HI.out) ?_
          refine g_bin (v := .string (bs N)) (u := .string ⟨#[32, 108, 101, 110, 103, 116, 104, 115]⟩) (r := .string (bs (N ++ [32, 108, 101, 110, 103, 116, 104, 115]))) (by rfl) (by exact fun _ _ _ h => h) (by exact fun _ _ _ h => h) (by rfl) (HZ1.out) ?_
          refine g_mki (t := 65) (v := .string ⟨#[97, 32, 104, 101, 97, 100, 32, 116, 104, 97, 116, 32, 105, 115, 32, 110, 111, 116, 32, 114, 105, 103, 104, 116]⟩) (by rfl) (by exact fun _ _ _ h => h) (by exact fun _ => by kernel_rfl) ?_
          refine g_bld2 (t := 78) (v := .string (bs (N ++ [32, 108, 101, 110, 103, 116, 104, 115]))) (u := .iface 65 (.string ⟨#[97, 32, 104, 101, 97, 100, 32, 116, 104, 97, 116, 32, 105, 115, 32, 110, 111, 116, 32, 114, 105, 103, 104, 116]⟩)) (r := .agg #[.string (bs (N ++ [32, 108, 101, 110, 103, 116, 104, 115])), .iface 65 (.string ⟨#[97, 32, 104, 101, 97, 100, 32, 116, 104, 97, 116, 32, 105, 115, 32, 110, 111, 116, 32, 114, 105, 103, 104, 116]⟩)]) (by rfl) (by exact fun _ _ _ h => h) (by exact fun _ _ _ h => h) (by exact fun w => run_build w _ _ _ (by kernel_rfl)) ?_
          refine g_mki (t := 78) (v := .agg #[.string (bs (N ++ [32, 108, 101, 110, 103, 116, 104, 115])), .iface 65 (.string ⟨#[97, 32, 104, 101, 97, 100, 32, 116, 104, 97, 116, 32, 105, 115, 32, 110, 111, 116, 32, 114, 105, 103, 104, 116]⟩)]) (by rfl) (by exact fun _ _ _ h => h) (by exact fun _ => by kernel_rfl) ?_
          refine g_same (g := g2) (cs := #[.string (bs m), .string (bs t), .slice ad hs.length c, .string ⟨#[]⟩]) (by rfl) rfl rfl (by exact fun _ _ _ h => h) (by exact fun _ _ _ h => h) (by repeat (first | exact List.Mem.head _ | refine List.Mem.tail _ ?_)) (by kernel_rfl) (by kernel_rfl) ?_
          refine g_same (g := g3) (cs := (lenC b)) (by rfl) rfl rfl (by exact fun _ _ _ h => h) (by exact fun _ _ _ h => h) (by repeat (first | exact List.Mem.head _ | refine List.Mem.tail _ ?_)) (lenC_inf b) (lenC_one b) ?_
          intro w9 hR9 hb9 v108 h108 v109 h109 v110 h110 v111 h111 v112 h112 v113 h113 v114 h114 v115 h115 vs8 hs8 vs9 hs9
          simp only [softEnd, Act.put, List.setIfInBounds_toArray, List.set_cons_succ, List.set_cons_zero, List.drop_succ_cons, List.drop_zero]
          obtain rfl : v115 = .iface 78 (.agg #[.string (bs (N ++ [32, 108, 101, 110, 103, 116, 104, 115])), .iface 65 (.string ⟨#[97, 32, 104, 101, 97, 100, 32, 116, 104, 97, 116, 32, 105, 115, 32, 110, 111, 116, 32, 114, 105, 103, 104, 116]⟩)]) := h115
          clear h108 h109 h110 h111 h112 h113 h114 hs8 hs9
          go_wp2_with fail
          refine bodyPost_cct rfl hR9 g2 g3 rfl rfl _ _ (by repeat (first | exact List.Mem.head _ | refine List.Mem.tail _ ?_)) _ _ (by repeat (first | exact List.Mem.head _ | refine List.Mem.tail _ ?_)) _ _ Tryz.underlying24 rfl Tryz.underlying57 rfl (by kernel_rfl) (by first | exact lenC_inf _ | kernel_rfl) _ rfl rfl (fun hbz => ?_)
          exact ⟨_, _, _, rfl, ⟨_, _, _, _, _, rfl⟩, lenC_lc _, Or.inr (Or.inl ⟨HBAD.out, _, rfl⟩), hbz⟩
        have hk1z : ¬ (1 : Int) < (k : Int) := by omega
        have n2 : wr.cell? ⟨g2, 2, none⟩ = some (.slice ad hs.length c) := hR.cellAt (g := g2) (by repeat (first | exact List.Mem.head _ | refine List.Mem.tail _ ?_)) 2 rfl
        by_cases h31 : 31 < hs.length
        · have h31z : (31 : Int) < (hs.length : Int) := by omega
          have HBAD : Hid (readH s = .error 151) := Lib.hid (by rw [HEX.out, if_pos (Or.inr (Or.inl h31))])
          clear h31 hk1 HEX
          go_upto_region 26 with fail
          clear n2
          refine wp_region_softG 7 (by kernel_rfl) (by kernel_rfl) (by rfl) hR ?_
          refine g_ldw (g := g2) (cs := #[.string (bs m), .string (bs t), .slice ad hs.length c, .string ⟨#[]⟩]) (R := Is (.agg #[.string (bs m), .string (bs t), .slice ad hs.length c, .string ⟨#[]⟩])) (by rfl) (by exact fun _ _ _ h => h) (by repeat (first | exact List.Mem.head _ | refine List.Mem.tail _ ?_)) Tryz.underlying24 rfl rq_inf (stb_is _) (by exact fun _ _ => rfl) ?_
          refine g_ldw (g := g3) (cs := (lenC b)) (R := Is (.agg (lenC b))) (by rfl) (by exact fun _ _ _ h => h) (by repeat (first | exact List.Mem.head _ | refine List.Mem.tail _ ?_)) Tryz.underlying57 rfl (lenC_inf b) (stb_is _) (by exact fun _ _ => rfl) ?_
          refine g_mki (t := 65) (v := .string ⟨#[97, 32, 104, 101, 97, 100, 32, 116, 104, 97, 116, 32, 105, 115, 32, 110, 111, 116, 32, 114, 105, 103, 104, 116]⟩) (by rfl) (by exact fun _ _ _ h => h) (by exact fun _ => by kernel_rfl) ?_
          refine g_bld2 (t := 78) (v := .string ⟨#[116, 111, 111, 32, 109, 97, 110, 121, 32, 102, 105, 101, 108, 100, 115]⟩) (u := .iface 65 (.string ⟨#[97, 32, 104, 101, 97, 100, 32, 116, 104, 97, 116, 32, 105, 115, 32, 110, 111, 116, 32, 114, 105, 103, 104, 116]⟩)) (r := .agg #[.string ⟨#[116, 111, 111, 32, 109, 97, 110, 121, 32, 102, 105, 101, 108, 100, 115]⟩, .iface 65 (.string ⟨#[97, 32, 104, 101, 97, 100, 32, 116, 104, 97, 116, 32, 105, 115, 32, 110, 111, 116, 32, 114, 105, 103, 104, 116]⟩)]) (by rfl) (by exact fun _ _ _ h => h) (by exact fun _ _ _ h => h) (by exact fun w => run_build w _ _ _ (by kernel_rfl)) ?_
          refine g_mki (t := 78) (v := .agg #[.string ⟨#[116, 111, 111, 32, 109, 97, 110, 121, 32, 102, 105, 101, 108, 100, 115]⟩, .iface 65 (.string ⟨#[97, 32, 104, 101, 97, 100, 32, 116, 104, 97, 116, 32, 105, 115, 32, 110, 111, 116, 32, 114, 105, 103, 104, 116]⟩)]) (by rfl) (by exact fun _ _ _ h => h) (by exact fun _ => by kernel_rfl) ?_
          refine g_same (g := g2) (cs := #[.string (bs m), .string (bs t), .slice ad hs.length c, .string ⟨#[]⟩]) (by rfl) rfl rfl (by exact fun _ _ _ h => h) (by exact fun _ _ _ h => h) (by repeat (first | exact List.Mem.head _ | refine List.Mem.tail _ ?_)) (by kernel_rfl) (by kernel_rfl) ?_
          refine g_same (g := g3) (cs := (lenC b)) (by rfl) rfl rfl (by exact fun _ _ _ h => h) (by exact fun _ _ _ h => h) (by repeat (first | exact List.Mem.head _ | refine List.Mem.tail _ ?_)) (lenC_inf b) (lenC_one b) ?_
          intro w9 hR9 hb9 v120 h120 v121 h121 v122 h122 v123 h123 v124 h124 vs5 hs5 vs6 hs6
          simp only [softEnd, Act.put, List.setIfInBounds_toArray, List.set_cons_succ, List.set_cons_zero, List.drop_succ_cons, List.drop_zero]
          obtain rfl : v124 = .iface 78 (.agg #[.string ⟨#[116, 111, 111, 32, 109, 97, 110, 121, 32, 102, 105, 101, 108, 100, 115]⟩, .iface 65 (.string ⟨#[97, 32, 104, 101, 97, 100, 32, 116, 104, 97, 116, 32, 105, 115, 32, 110, 111, 116, 32, 114, 105, 103, 104, 116]⟩)]) := h124
          clear h120 h121 h122 h123 hs5 hs6
          go_wp2_with fail
          refine bodyPost_cct rfl hR9 g2 g3 rfl rfl _ _ (by repeat (first | exact List.Mem.head _ | refine List.Mem.tail _ ?_)) _ _ (by repeat (first | exact List.Mem.head _ | refine List.Mem.tail _ ?_)) _ _ Tryz.underlying24 rfl Tryz.underlying57 rfl (by kernel_rfl) (by first | exact lenC_inf _ | kernel_rfl) _ rfl rfl (fun hbz => ?_)
          exact ⟨_, _, _, rfl, ⟨_, _, _, _, _, rfl⟩, lenC_lc _, Or.inr (Or.inl ⟨HBAD.out, _, rfl⟩), hbz⟩
        have h31z : ¬ (31 : Int) < (hs.length : Int) := by omega
        have HFM0 : Hid (∀ u, Below wr.heap.size wr u → Calls Tryz.prog 51 #[.agg #[.string (bs m), .string (bs t), .slice ad hs.length c, .string ⟨#[]⟩]] u (FormPost ⟨m, t, hs, []⟩ u)) := Lib.hid fun u hb => form_any ⟨m, t, hs, []⟩ ad c u (HSL.out.grown hb) (small_read (by omega) (by omega) HSZ.out (by omega)) (show hs.length ≤ 31 by omega)
        cases hf : formB ⟨m, t, hs, []⟩ with
        | false =>
          have HBAD : Hid (readH s = .error 151) := Lib.hid (by rw [HEX.out, if_pos (Or.inr (Or.inr hf))])
          have HFM : Hid (∀ u, Below wr.heap.size wr u → Calls Tryz.prog 51 #[.agg #[.string (bs m), .string (bs t), .slice ad hs.length c, .string ⟨#[]⟩]] u (RW WrH u)) := Lib.hid fun u hb => (HFM0.out u hb).mono fun e w' hh => by
            obtain ⟨⟨h1, _⟩ | ⟨_, why, h2⟩, hb⟩ := hh
            · rw [hf] at h1; cases h1
            · exact ⟨_, h2, ⟨why, rfl⟩, hb⟩
          clear hf HEX hk1 h31 HFM0
          go_upto_region 27 with fail
          clear n2
          refine wp_region_softG 6 (by kernel_rfl) (by kernel_rfl) (by rfl) hR ?_
          refine g_ldw (g := g2) (cs := #[.string (bs m), .string (bs t), .slice ad hs.length c, .string ⟨#[]⟩]) (R := Is (.agg #[.string (bs m), .string (bs t), .slice ad hs.length c, .string ⟨#[]⟩])) (by rfl) (by exact fun _ _ _ h => h) (by repeat (first | exact List.Mem.head _ | refine List.Mem.tail _ ?_)) Tryz.underlying24 rfl rq_inf (stb_is _) (by exact fun _ _ => rfl) ?_
          refine g_ldw (g := g3) (cs := (lenC b)) (R := Is (.agg (lenC b))) (by rfl) (by exact fun _ _ _ h => h) (by repeat (first | exact List.Mem.head _ | refine List.Mem.tail _ ?_)) Tryz.underlying57 rfl (lenC_inf b) (stb_is _) (by exact fun _ _ => rfl) ?_
          refine g_ldw (g := g2) (cs := #[.string (bs m), .string (bs t), .slice ad hs.length c, .string ⟨#[]⟩]) (R := Is (.agg #[.string (bs m), .string (bs t), .slice ad hs.length c, .string ⟨#[]⟩])) (by rfl) (by exact fun _ _ _ h => h) (by repeat (first | exact List.Mem.head _ | refine List.Mem.tail _ ?_)) Tryz.underlying24 rfl rq_inf (stb_is _) (by exact fun _ _ => rfl) ?_
          refine g_callK (f := 51) (xs := [.tmp 127]) [.agg #[.string (bs m), .string (bs t), .slice ad hs.length c, .string ⟨#[]⟩]] (R := WrH) (by rfl) Tryz.func51 (by kernel_rfl) rfl (by first | exact stb_wrh | exact stb_is _) ⟨(by exact fun _ _ _ h => h), trivial⟩ (HFM.out) ?_
          refine g_same (g := g2) (cs := #[.string (bs m), .string (bs t), .slice ad hs.length c, .string ⟨#[]⟩]) (by rfl) rfl rfl (by exact fun _ _ _ h => h) (by exact fun _ _ _ h => h) (by repeat (first | exact List.Mem.head _ | refine List.Mem.tail _ ?_)) (by kernel_rfl) (by kernel_rfl) ?_
          refine g_same (g := g3) (cs := (lenC b)) (by rfl) rfl rfl (by exact fun _ _ _ h => h) (by exact fun _ _ _ h => h) (by repeat (first | exact List.Mem.head _ | refine List.Mem.tail _ ?_)) (lenC_inf b) (lenC_one b) ?_
          intro w9 hR9 hb9 v125 h125 v126 h126 v127 h127 v128 h128 vs4 hs4 vs5 hs5
          simp only [softEnd, Act.put, List.setIfInBounds_toArray, List.set_cons_succ, List.set_cons_zero, List.drop_succ_cons, List.drop_zero]
          obtain ⟨why, rfl⟩ := h128
          clear h125 h126 h127 hs4 hs5
          go_wp2_with fail
          refine bodyPost_cct rfl hR9 g2 g3 rfl rfl _ _ (by repeat (first | exact List.Mem.head _ | refine List.Mem.tail _ ?_)) _ _ (by repeat (first | exact List.Mem.head _ | refine List.Mem.tail _ ?_)) _ _ Tryz.underlying24 rfl Tryz.underlying57 rfl (by kernel_rfl) (by first | exact lenC_inf _ | kernel_rfl) _ rfl rfl (fun hbz => ?_)
          exact ⟨_, _, _, rfl, ⟨_, _, _, _, _, rfl⟩, lenC_lc _, Or.inr (Or.inl ⟨HBAD.out, _, rfl⟩), hbz⟩
        | true =>
          have HOK : Hid (readH s = .ok (⟨m, t, hs, []⟩, b)) := Lib.hid (by rw [HEX.out, if_neg (by rintro (h | h | h); exact hk1 h; exact h31 h; rw [hf] at h; cases h)])
          have HFM : Hid (∀ u, Below wr.heap.size wr u → Calls Tryz.prog 51 #[.agg #[.string (bs m), .string (bs t), .slice ad hs.length c, .string ⟨#[]⟩]] u (RW (Is .nilIface) u)) := Lib.hid fun u hb => (HFM0.out u hb).mono fun e w' hh => by
            obtain ⟨⟨_, h1⟩ | ⟨h1, _⟩, hb⟩ := hh
            · exact ⟨_, h1, rfl, hb⟩
            · rw [hf] at h1; cases h1
          have H31 := Lib.hid (show hs.length ≤ 31 by omega)
          clear hf HEX hk1 h31 HFM0
          go_upto_region 27 with fail
          clear n2
          refine wp_region_softG 6 (by kernel_rfl) (by kernel_rfl) (by rfl) hR ?_
          refine g_ldw (g := g2) (cs := #[.string (bs m), .string (bs t), .slice ad hs.length c, .string ⟨#[]⟩]) (R := Is (.agg #[.string (bs m), .string (bs t), .slice ad hs.length c, .string ⟨#[]⟩])) (by rfl) (by exact fun _ _ _ h => h) (by repeat (first | exact List.Mem.head _ | refine List.Mem.tail _ ?_)) Tryz.underlying24 rfl rq_inf (stb_is _) (by exact fun _ _ => rfl) ?_
          refine g_ldw (g := g3) (cs := (lenC b)) (R := Is (.agg (lenC b))) (by rfl) (by exact fun _ _ _ h => h) (by repeat (first | exact List.Mem.head _ | refine List.Mem.tail _ ?_)) Tryz.underlying57 rfl (lenC_inf b) (stb_is _) (by exact fun _ _ => rfl) ?_
          refine g_ldw (g := g2) (cs := #[.string (bs m), .string (bs t), .slice ad hs.length c, .string ⟨#[]⟩]) (R := Is (.agg #[.string (bs m), .string (bs t), .slice ad hs.length c, .string ⟨#[]⟩])) (by rfl) (by exact fun _ _ _ h => h) (by repeat (first | exact List.Mem.head _ | refine List.Mem.tail _ ?_)) Tryz.underlying24 rfl rq_inf (stb_is _) (by exact fun _ _ => rfl) ?_
          refine g_callK (f := 51) (xs := [.tmp 127]) [.agg #[.string (bs m), .string (bs t), .slice ad hs.length c, .string ⟨#[]⟩]] (R := Is (.nilIface)) (by rfl) Tryz.func51 (by kernel_rfl) rfl (stb_is _) ⟨(by exact fun _ _ _ h => h), trivial⟩ (HFM.out) ?_
          refine g_same (g := g2) (cs := #[.string (bs m), .string (bs t), .slice ad hs.length c, .string ⟨#[]⟩]) (by rfl) rfl rfl (by exact fun _ _ _ h => h) (by exact fun _ _ _ h => h) (by repeat (first | exact List.Mem.head _ | refine List.Mem.tail _ ?_)) (by kernel_rfl) (by kernel_rfl) ?_
          refine g_same (g := g3) (cs := (lenC b)) (by rfl) rfl rfl (by exact fun _ _ _ h => h) (by exact fun _ _ _ h => h) (by repeat (first | exact List.Mem.head _ | refine List.Mem.tail _ ?_)) (lenC_inf b) (lenC_one b) ?_
          intro w9 hR9 hb9 v125 h125 v126 h126 v127 h127 v128 h128 vs4 hs4 vs5 hs5
          simp only [softEnd, Act.put, List.setIfInBounds_toArray, List.set_cons_succ, List.set_cons_zero, List.drop_succ_cons, List.drop_zero]
          obtain rfl : v128 = .nilIface := h128
          clear h125 h126 h127 hs4 hs5
          go_wp2_with fail
          refine bodyPost_cct rfl hR9 g2 g3 rfl rfl _ _ (by repeat (first | exact List.Mem.head _ | refine List.Mem.tail _ ?_)) _ _ (by repeat (first | exact List.Mem.head _ | refine List.Mem.tail _ ?_)) _ _ Tryz.underlying24 rfl Tryz.underlying57 rfl (by kernel_rfl) (by first | exact lenC_inf _ | kernel_rfl) _ rfl rfl (fun hbz => ?_)
          exact ⟨_, _, _, rfl, ⟨_, _, _, _, _, rfl⟩, lenC_lc _, Or.inr (Or.inr ⟨_, _, _, _, HOK.out, rfl, rfl, rfl, (lies_of_own HO.out).old (fun k hk => hb9.block k hk), HSL.out.1, HSL.out.2.1, H31.out⟩), hbz⟩
end Go.Proofs.YtipjkjcmceeaeaaGreatDoor
