/- ostiaryref15.head: the walk. -/
import Derived.Test.YtipjkjcmceeaeaaGreatDoorYRFm
import Derived.Test.YtipjkjcmceeaeaaGreatDoorYAppB
import Derived.Test.YtipjkjcmceeaeaaGreatDoorYRef4
namespace Go.Proofs.YtipjkjcmceeaeaaGreatDoor
open Go.RowKit

theorem bin_addL (a b : List UInt8) (h : a.length + b.length ≤ 9223372036854775807) (W : World) : (binOp .add 9 (.string (bs a)) (.string (bs b))).run Tryz.prog W = .ok (.string (bs (a ++ b))) W := by
  rw [← bs_app2]
  exact bin_adds _ _ (by rw [bs_size, bs_size]; exact h) W
theorem rowM_ne {w w0 : World} {B g cap gb : Nat} {l : List UInt8} {cs : Array Value} {t : TypeId} {L : List (Nat × Array Value × TypeId)} (h : RowM w B g cap l) (hR : Rws B w0 w L) (hm : (gb, cs, t) ∈ L) (ht : t ≠ 5) : gb ≠ g := by
  obtain ⟨cur, fz, _, hh, _⟩ := h
  intro e
  have := (hR.row _ hm).2
  simp only at this
  rw [e, hh] at this
  simp only [Option.some.injEq, Obj.cells.injEq] at this
  exact ht this.2.1.symm
theorem lines_take {hs : List Hd} {i : Nat} {h : Hd} (hx : hs[i]? = some h) : linesS (hs.take (i + 1)) = linesS (hs.take i) ++ (h.1 ++ [58, 32] ++ h.2 ++ [13, 10]) := by
  obtain ⟨hi, e⟩ := List.getElem?_eq_some_iff.1 hx
  rw [List.take_succ_eq_append_getElem hi, e]
  unfold linesS
  rw [List.map_append, List.flatten_append]
  simp [lineS, CRLF]
theorem lines_le (hs : List Hd) (i : Nat) : (linesS (hs.take i)).length ≤ (linesS hs).length := by
  have : linesS hs = linesS (hs.take i) ++ linesS (hs.drop i) := by
    unfold linesS
    rw [← List.flatten_append, ← List.map_append, List.take_append_drop]
  rw [this, List.length_append]; omega
set_option maxRecDepth 100000 in
set_option maxHeartbeats 8000000 in
theorem headR_any (q : Rq) (ad : Option Addr) (c : Nat) (w : World) (hs : SlH w q.hs ad c) (hq : SmallQ q) : Calls Tryz.prog 41 #[rqv q ad c] w (RetS (bs (headS q)) w) := by
  have hSB := SB_eq
  have hMX := MX_eq
  obtain ⟨hle, hcm, b, f, had, hrow⟩ := hs
  have HROW := Lib.hid hrow
  have hql := hq.k
  have hR := Rws.start w
  have hqm := hq.m
  have hqt := hq.t
  have hqb := hq.b
  have hln := hq.ln
  clear hrow
  obtain ⟨F0, hF0⟩ : ∃ F0, F0 = q.m ++ [32] ++ q.t ++ [32, 72, 84, 84, 80, 47, 49, 46, 49, 13, 10] := ⟨_, rfl⟩
  have hF0l : F0.length ≤ 2097164 := by rw [hF0]; simp only [List.length_append, List.length_cons, List.length_nil]; omega
  obtain ⟨X1, hX1⟩ : ∃ X1, X1 = q.m ++ [32] := ⟨_, rfl⟩
  obtain ⟨X2, hX2⟩ : ∃ X2, X2 = X1 ++ q.t := ⟨_, rfl⟩
  have a1 : bs q.m ++ ⟨#[32]⟩ = bs X1 := by rw [hX1]; exact bs_app2 q.m [32]
  have a2 : bs X1 ++ bs q.t = bs X2 := by rw [hX2]; exact bs_app2 _ _
  have a3 : bs X2 ++ ⟨#[32, 72, 84, 84, 80, 47, 49, 46, 49, 13, 10]⟩ = bs F0 := by rw [hF0, hX2, hX1]; exact bs_app2 _ [32, 72, 84, 84, 80, 47, 49, 46, 49, 13, 10]
  have z1 := bs_size q.m
  have z2 := bs_size q.t
  have z3 : (bs X1).size = q.m.length + 1 := by rw [bs_size, hX1, List.length_append]; rfl
  have z4 : (bs X2).size = q.m.length + 1 + q.t.length := by rw [bs_size, hX2, hX1, List.length_append, List.length_append]; rfl
  clear hX1 hX2
  have HF0 := Lib.hid hF0
  clear hF0
  go_enter Tryz.func41, Tryz.ntmps41
  go_upto_region 1 with (refine wpList_box_rws rfl _ _ (by rfl) (by exact hR) (rqC q ad c) rfl ?_; intro gb w1 hR)
  obtain ⟨cap0, w2, hcv, hrow0, hb2⟩ := conv_row w1 F0 (by omega)
  have f0 : w1.cell? ⟨gb, 0, none⟩ = some (.string (bs q.m)) := hR.cellAt (g := gb) (List.Mem.head _) 0 rfl
  have f1 : w1.cell? ⟨gb, 1, none⟩ = some (.string (bs q.t)) := hR.cellAt (g := gb) (List.Mem.head _) 1 rfl
  have hw1 := hR.len
  go_upto_region 3 with fail
  have hR2 := hR.call hb2
  have hrow1 : RowM w2 w.heap.size w1.heap.size cap0 F0 := by
    obtain ⟨cur, fz, h1, h2⟩ := hrow0
    exact ⟨cur, fz, hw1, h2⟩
  clear hcv f0 f1 a1 a2 a3 z3 z4 hrow0 hR hb2
  go_loopg [3, 4] q.hs.length (fun gg s3 s4 wr => ∃ (i : Nat) (acc : List UInt8) (g cap : Nat), i ≤ q.hs.length ∧ gg = q.hs.length - i ∧ s3 = .slice (some ⟨g, 0, none⟩) acc.length cap ∧ s4 = .int .i64 (i : Nat) ∧ Aside (acc = F0 ++ linesS (q.hs.take i)) ∧ Aside (RowM wr w.heap.size g cap acc) ∧ Aside (Rws w.heap.size w wr [(gb, rqC q ad c, 24)]))
  case atStart => exact ⟨0, F0, _, _, Nat.zero_le _, rfl, rfl, rfl, by show F0 = F0 ++ []; rw [List.append_nil], hrow1, hR2⟩
  case round =>
    obtain ⟨i, acc, g, cap, hil, rfl, rfl, rfl, HA, HO, HRR⟩ := hrel
    have hR := HRR.out
    have f2 : wr.cell? ⟨gb, 2, none⟩ = some (.slice ad q.hs.length c) := hR.cellAt (g := gb) (List.Mem.head _) 2 rfl
    have hal : acc.length ≤ 10485772 := by
      rw [HA.out, List.length_append]
      have := lines_le q.hs i
      omega
    by_cases hlt : i < q.hs.length
    · have hltz : (i : Int) < (q.hs.length : Int) := by omega
      obtain ⟨h, hh⟩ : ∃ h, q.hs[i]? = some h := ⟨q.hs[i], List.getElem?_eq_getElem hlt⟩
      obtain rfl : ad = some ⟨b, f, none⟩ := by rcases had with h | ⟨_, h⟩; exact h; omega
      obtain ⟨e0, e1⟩ := hd_cells (HROW.out) hh
      have hsm := hq.h h (List.mem_of_getElem? hh)
      obtain ⟨L1, hL1⟩ : ∃ L1, L1 = h.1 ++ [58, 32] := ⟨_, rfl⟩
      obtain ⟨L2, hL2⟩ : ∃ L2, L2 = L1 ++ h.2 := ⟨_, rfl⟩
      obtain ⟨L3, hL3⟩ : ∃ L3, L3 = L2 ++ [13, 10] := ⟨_, rfl⟩
      have l1 : L1.length = h.1.length + 2 := by rw [hL1, List.length_append]; rfl
      have l2 : L2.length = L1.length + h.2.length := by rw [hL2, List.length_append]
      have l3 : L3.length = L2.length + 2 := by rw [hL3, List.length_append]; rfl
      have HA2 : Hid (acc ++ L3 = F0 ++ linesS (q.hs.take (i + 1))) := Lib.hid (by rw [lines_take hh, HA.out, hL3, hL2, hL1, List.append_assoc])
      have HZ1 : Hid (∀ W, (binOp .add 9 (.string (bs h.1)) (.string ⟨#[58, 32]⟩)).run Tryz.prog W = .ok (.string (bs L1)) W) := Lib.hid fun W => by rw [hL1]; exact bin_addL h.1 [58, 32] (by simp only [List.length_cons, List.length_nil]; omega) W
      have HZ2 : Hid (∀ W, (binOp .add 9 (.string (bs L1)) (.string (bs h.2))).run Tryz.prog W = .ok (.string (bs L2)) W) := Lib.hid fun W => by rw [hL2]; exact bin_addL L1 h.2 (by omega) W
      have HZ3 : Hid (∀ W, (binOp .add 9 (.string (bs L2)) (.string ⟨#[13, 10]⟩)).run Tryz.prog W = .ok (.string (bs L3)) W) := Lib.hid fun W => by rw [hL3]; exact bin_addL L2 [13, 10] (by simp only [List.length_cons, List.length_nil]; omega) W
      have hk : acc.length + L3.length ≤ 140737488355328 := by omega
      clear hL1 hL2 hL3 l1 l2 l3
      go_upto_region 5 with fail
      have c0 := (hR.below.cell (p := ⟨b, f + i * 2, none⟩) (World.block_lt_of_cell? w _ e0)).trans e0
      have c1 := (hR.below.cell (p := ⟨b, f + i * 2 + 1, none⟩) (World.block_lt_of_cell? w _ e1)).trans e1
      have HB2 : Hid (∀ u, Below wr.heap.size wr u → u.cell? ⟨gb, 2, none⟩ = some (.slice (some ⟨b, f, none⟩) q.hs.length c)) := Lib.hid fun u hb => (hb.cell (p := ⟨gb, 2, none⟩) (hR.lt (x := _) (by repeat (first | exact List.Mem.head _ | refine List.Mem.tail _ ?_)))).trans (hR.cellAt (g := gb) (by repeat (first | exact List.Mem.head _ | refine List.Mem.tail _ ?_)) 2 rfl)
      have HE0 : Hid (∀ u, Below wr.heap.size wr u → u.cell? ⟨b, f + i * 2, none⟩ = some (.string (bs h.1))) := Lib.hid fun u hb => (hb.cell (p := ⟨b, f + i * 2, none⟩) (World.block_lt_of_cell? wr _ c0)).trans c0
      have HE1 : Hid (∀ u, Below wr.heap.size wr u → u.cell? ⟨b, f + i * 2 + 1, none⟩ = some (.string (bs h.2))) := Lib.hid fun u hb => (hb.cell (p := ⟨b, f + i * 2 + 1, none⟩) (World.block_lt_of_cell? wr _ c1)).trans c1
      clear c0 c1 e0 e1 hh f2
      refine wp_region_softG 16 (by kernel_rfl) (by kernel_rfl) (by rfl) hR ?_
      refine g_move (R := Is (.slice (some ⟨g, 0, none⟩) acc.length cap)) (by rfl) (stb_is _) (by exact fun _ _ _ h => h) ?_
      refine g_fa (g := gb) (k := 0) (off := 2) (by rfl) (by exact fun _ _ _ h => h) Tryz.underlying24 rfl ⟨0, by kernel_rfl⟩ rfl ?_
      refine g_cellw (g := gb) (k := 2) (v := .slice (some ⟨b, f, none⟩) q.hs.length c) (R := Is (.slice (some ⟨b, f, none⟩) q.hs.length c)) (by rfl) (by exact fun _ _ _ h => h) (HB2.out) isAgg_hds (stb_is _) (by exact fun _ _ => rfl) ?_
      refine g_move (R := Is (.int .i64 (i : Int))) (by rfl) (stb_is _) (by exact fun _ _ _ h => h) ?_
      refine g_ixh (b := b) (f := f) (len := q.hs.length) (c := c) (i := i) (by rfl) (by exact fun _ _ _ h => h) (by exact fun _ _ _ h => h) (hlt) ?_
      refine g_fa (g := b) (k := f + i * 2) (off := f + i * 2) (by rfl) (by exact fun _ _ _ h => h) Tryz.underlying52 rfl ⟨0, by kernel_rfl⟩ rfl ?_
      refine g_cellw (g := b) (k := f + i * 2) (v := .string (bs h.1)) (R := Is (.string (bs h.1))) (by rfl) (by exact fun _ _ _ h => h) (HE0.out) isAgg_str (stb_is _) (by exact fun _ _ => rfl) ?_
      refine g_bin (v := .string (bs h.1)) (u := .string ⟨#[58, 32]⟩) (r := .string (bs L1)) (by rfl) (by exact fun _ _ _ h => h) (by exact fun _ _ _ h => h) (by rfl) (HZ1.out) ?_
      refine g_fa (g := gb) (k := 0) (off := 2) (by rfl) (by exact fun _ _ _ h => h) Tryz.underlying24 rfl ⟨0, by kernel_rfl⟩ rfl ?_
      refine g_cellw (g := gb) (k := 2) (v := .slice (some ⟨b, f, none⟩) q.hs.length c) (R := Is (.slice (some ⟨b, f, none⟩) q.hs.length c)) (by rfl) (by exact fun _ _ _ h => h) (HB2.out) isAgg_hds (stb_is _) (by exact fun _ _ => rfl) ?_
      refine g_move (R := Is (.int .i64 (i : Int))) (by rfl) (stb_is _) (by exact fun _ _ _ h => h) ?_
      refine g_ixh (b := b) (f := f) (len := q.hs.length) (c := c) (i := i) (by rfl) (by exact fun _ _ _ h => h) (by exact fun _ _ _ h => h) (hlt) ?_
      refine g_fa (g := b) (k := f + i * 2) (off := f + i * 2 + 1) (by rfl) (by exact fun _ _ _ h => h) Tryz.underlying52 rfl ⟨0, by kernel_rfl⟩ rfl ?_
      refine g_cellw (g := b) (k := f + i * 2 + 1) (v := .string (bs h.2)) (R := Is (.string (bs h.2))) (by rfl) (by exact fun _ _ _ h => h) (HE1.out) isAgg_str (stb_is _) (by exact fun _ _ => rfl) ?_
      refine g_bin (v := .string (bs L1)) (u := .string (bs h.2)) (r := .string (bs L2)) (by rfl) (by exact fun _ _ _ h => h) (by exact fun _ _ _ h => h) (by rfl) (HZ2.out) ?_
      refine g_bin (v := .string (bs L2)) (u := .string ⟨#[13, 10]⟩) (r := .string (bs L3)) (by rfl) (by exact fun _ _ _ h => h) (by exact fun _ _ _ h => h) (by rfl) (HZ3.out) ?_
      intro w6 hR6 hb6 v20 h20 v21 h21 v22 h22 v23 h23 v24 h24 v25 h25 v26 h26 v27 h27 v28 h28 v29 h29 v30 h30 v31 h31 v32 h32 v33 h33 v34 h34 v35 h35
      simp only [softEnd, Act.put, List.setIfInBounds_toArray, List.set_cons_succ, List.set_cons_zero, List.drop_succ_cons, List.drop_zero]
      obtain rfl : v20 = .slice (some ⟨g, 0, none⟩) acc.length cap := h20
      obtain rfl : v35 = .string (bs L3) := h35
      clear h21 h22 h23 h24 h25 h26 h27 h28 h29 h30 h31 h32 h33 h34
      have hO6 := HO.out.below hb6
      go_wp2_with (at_builtin; refine wp_appR (w := w) rfl _ _ (by rfl) L3 (by rfl) (by rfl) hO6 (Nat.le_refl _) hR6.below hk ?_; intro g' cap' w8 hrow8 hb8 hgr)
      have hR8 := hR6.grown hgr hO6.ge (by
        intro x hx
        rcases List.mem_cons.1 hx with rfl | hx
        · exact rowM_ne hO6 hR6 (List.Mem.head _) (by decide)
        · cases hx)
      go_roundg (q.hs.length - (i + 1))
      case measure => omega
      case rel => exact ⟨i + 1, acc ++ L3, g', cap', by omega, rfl, by first | rfl | rw [List.length_append], by go_num, HA2.out, hrow8, hR8⟩
    · have hltz : ¬ (i : Int) < (q.hs.length : Int) := by omega
      have HA2 : Hid (acc = F0 ++ linesS q.hs) := Lib.hid (by rw [HA.out, List.take_of_length_le (by omega)])
      have f3 : wr.cell? ⟨gb, 3, none⟩ = some (.string (bs q.b)) := hR.cellAt (g := gb) (List.Mem.head _) 3 rfl
      have zb := bs_size q.b
      have hapc : ∀ l : List UInt8, bs l ++ ⟨#[13, 10]⟩ = bs (l ++ [13, 10]) := fun l => bs_app2 l [13, 10]
      by_cases hbe : q.b = []
      · have hq1 : ((bs q.b).toList == []) = true := by rw [bs_list, hbe]; rfl
        have htx := HO.out.text cap
        have HHD : Hid (headS q = acc ++ [13, 10]) := Lib.hid (by
          unfold headS
          rw [if_pos hbe, HA2.out, HF0.out]
          simp [wHttp, CRLF, List.append_assoc])
        have za := bs_size acc
        have hap := hapc acc
        clear hbe hapc
        go_wp2_with fail
        go_ret
        rw [HHD.out]
        exact ⟨by first | rfl | rw [hap], hR.below⟩
      · have hq1 : ((bs q.b).toList == []) = false := by rw [bs_list]; simpa using hbe
        have HN : Hid (∀ u, Calls Tryz.prog 50 #[.int .i64 (q.b.length : Nat)] u (RetS (bs (numS q.b.length)) u)) := Lib.hid fun u => Num_any q.b.length (by omega) u
        have hnl := (num_len (n := q.b.length) (by omega)).2
        have zn := bs_size (numS q.b.length)
        obtain ⟨N, hN⟩ : ∃ N, N = numS q.b.length := ⟨_, rfl⟩
        rw [← hN] at HN hnl zn
        obtain ⟨W1, hW1⟩ : ∃ W1, W1 = wCl ++ [58, 32] ++ N := ⟨_, rfl⟩
        obtain ⟨W2, hW2⟩ : ∃ W2, W2 = W1 ++ [13, 10] := ⟨_, rfl⟩
        have hapn : ⟨#[99, 111, 110, 116, 101, 110, 116, 45, 108, 101, 110, 103, 116, 104, 58, 32]⟩ ++ bs N = bs W1 := by rw [hW1]; exact bs_app2 (wCl ++ [58, 32]) N
        have hapn2 : bs W1 ++ ⟨#[13, 10]⟩ = bs W2 := by rw [hW2]; exact hapc W1
        have hw1l : W1.length = 16 + N.length := by rw [hW1, List.length_append]; rfl
        have hw2l : W2.length = W1.length + 2 := by rw [hW2, List.length_append]; rfl
        have zc := bs_size W1
        have hk : acc.length + W2.length ≤ 140737488355328 := by omega
        have HHD : Hid (headS q = (acc ++ W2) ++ [13, 10]) := Lib.hid (by
          unfold headS
          rw [if_neg hbe, HA2.out, HF0.out, hW2, hW1, hN]
          simp [wHttp, CRLF, List.append_assoc])
        have hRR := hR
        have HAPC := Lib.hid hapc
        clear hbe hN hW1 hW2 hapc
        go_upto_region 8 with (first
          | (go_at_call 50; refine (HN.out _).mono ?_; rintro e w7 ⟨rfl, hb7⟩; have hR7 := hRR.call hb7; have hO7 := HO.out.below hb7)
          | (at_builtin; refine wp_appT (w := w) rfl _ _ (by rfl) W2 (by rfl) (by rfl) hO7 (Nat.le_refl _) hR7.below hk ?_; intro T g' cap' w8 hT hrow8 hb8 hgr; have HTT := Lib.hid hT; clear hT))
        have htx := hrow8.text cap'
        have za := bs_size T
        have hzl : T.length ≤ 20000000 := by rw [HTT.out, List.length_append]; omega
        have hap := HAPC.out T
        have HH2 : Hid (bs (headS q) = bs (T ++ [13, 10])) := Lib.hid (by rw [HHD.out, HTT.out])
        clear HAPC HHD hapn hapn2 hk HTT
        go_wp2_with fail
        go_ret
        rw [HH2.out]
        exact ⟨by first | rfl | rw [hap], hb8⟩
end Go.Proofs.YtipjkjcmceeaeaaGreatDoor
