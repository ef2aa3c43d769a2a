/- slices.Clip, http.Get, ostiaryref15.Get: the walks. -/
import Derived.Test.YtipjkjcmceeaeaaGreatDoorYReadK
import Derived.Test.YtipjkjcmceeaeaaGreatDoorYReq
namespace Go.Proofs.YtipjkjcmceeaeaaGreatDoor
open Go.RowKit

set_option maxRecDepth 100000 in
set_option maxHeartbeats 2000000 in
theorem clipS_any (ad : Option Addr) (n c : Nat) (w : World) (hn : n ≤ c) (_ : c ≤ MX) : Calls Tryz.prog 39 #[.slice ad n c] w fun e w' => e = .returned (.slice ad n n) ∧ w' = w := by
  have hMX := MX_eq
  cases ad with
  | none =>
    go_enter Tryz.func39, Tryz.ntmps39
    go_wp2_with fail
    go_ret
    exact ⟨rfl, rfl⟩
  | some a =>
    go_enter Tryz.func39, Tryz.ntmps39
    go_wp2_with fail
    go_ret
    exact ⟨rfl, rfl⟩
set_option maxRecDepth 100000 in
set_option maxHeartbeats 2000000 in
theorem clipH_any (ad : Option Addr) (n c : Nat) (w : World) (hn : n ≤ c) (_ : c ≤ MX) : Calls Tryz.prog 32 #[.slice ad n c] w fun e w' => e = .returned (.slice ad n n) ∧ w' = w := by
  have hMX := MX_eq
  cases ad with
  | none =>
    go_enter Tryz.func32, Tryz.ntmps32
    go_wp2_with fail
    go_ret
    exact ⟨rfl, rfl⟩
  | some a =>
    go_enter Tryz.func32, Tryz.ntmps32
    go_wp2_with fail
    go_ret
    exact ⟨rfl, rfl⟩
/-- Texts in a row, from its first place on. -/
def SlS (w : World) (l : List Bs) (ad : Option Addr) (c : Nat) : Prop := l.length ≤ c ∧ c ≤ MX ∧ (l = [] ∨ ∃ b, ad = some ⟨b, 0, none⟩ ∧ RowC w (StC l) b 0)
theorem SlS.clip {w : World} {l : List Bs} {ad : Option Addr} {c : Nat} (h : SlS w l ad c) : SlS w l ad l.length := ⟨Nat.le_refl _, Nat.le_trans h.1 h.2.1, h.2.2⟩
theorem SlS.grown {w w' : World} {l : List Bs} {ad : Option Addr} {c : Nat} (h : SlS w l ad c) (hb : Below w.heap.size w w') : SlS w' l ad c :=
  ⟨h.1, h.2.1, h.2.2.imp id fun ⟨b, h1, h2⟩ => ⟨b, h1, h2.below hb⟩⟩
theorem sls_of_own {w : World} {B : Nat} {l : List Bs} {ad : Option Addr} {c : Nat} (h : OwnS B w (.slice ad l.length c) l) : SlS w l ad c := by
  obtain ⟨hl, ⟨hv, h0⟩ | ⟨g, cap, cur, hv, hg, hh, hn, hcm, hcs, htk⟩⟩ := h
  · have : l = [] := List.eq_nil_of_length_eq_zero h0
    subst this
    simp only [Value.slice.injEq] at hv
    rw [hv.2.2]
    exact ⟨Nat.le_refl _, Nat.zero_le _, Or.inl rfl⟩
  · simp only [Value.slice.injEq, true_and] at hv
    obtain ⟨rfl, rfl⟩ := hv
    refine ⟨hn, hcm, Or.inr ⟨g, rfl, fun j u hj => ?_⟩⟩
    rw [← htk, List.getElem?_take] at hj
    split at hj
    · simp only [World.cell?, hh, Nat.zero_add]
      simpa using hj
    · cases hj
def RetSl (l : List Bs) (w : World) : Ending → World → Prop := fun e w' => ∃ ad c, e = .returned (.slice ad l.length c) ∧ SlS w' l ad c ∧ Below w.heap.size w w'
def getL (hs : List Hd) (n : Bs) : List Bs := (hs.filter fun h => decide (h.1 = n)).map (·.2)
theorem getL_le (hs : List Hd) (n : Bs) : (getL hs n).length ≤ hs.length := by unfold getL; rw [List.length_map]; exact List.length_filter_le _ _
theorem getL_take {hs : List Hd} {i : Nat} {h : Hd} {n : Bs} (hx : hs[i]? = some h) : getL (hs.take (i + 1)) n = getL (hs.take i) n ++ (if h.1 = n then [h.2] else []) := by
  obtain ⟨hi, rfl⟩ := List.getElem?_eq_some_iff.1 hx
  unfold getL
  rw [List.take_succ_eq_append_getElem hi, List.filter_append, List.map_append]
  by_cases hh : (hs[i]).1 = n <;> simp [hh]
set_option maxRecDepth 100000 in
set_option maxHeartbeats 8000000 in
theorem Get_any (q : Rq) (ad : Option Addr) (c : Nat) (n : Bs) (w : World) (hs : SlH w q.hs ad c) (hq : SmallQ q) : Calls Tryz.prog 16 #[rqv q ad c, .string (bs n)] w (RetSl (getS q n) w) := by
  have hMX := MX_eq
  obtain ⟨hle, hcm, b, f, had, hrow⟩ := hs
  have HROW := Lib.hid hrow
  have hql := hq.k
  have hR := Rws.start w
  clear hrow
  go_enter Tryz.func16, Tryz.ntmps16
  go_upto_region 1 with (refine wpList_box_rws rfl _ _ (by rfl) (by exact hR) (rqC q ad c) rfl ?_; intro gb w1 hR)
  have f2 : w1.cell? ⟨gb, 2, none⟩ = some (.slice ad q.hs.length c) := hR.cellAt (g := gb) (List.Mem.head _) 2 rfl
  obtain ⟨B, hB⟩ : ∃ B, B = w1.heap.size := ⟨_, rfl⟩
  have hgb : gb < B := by rw [hB]; exact hR.lt (x := (gb, _, _)) (by repeat (first | exact List.Mem.head _ | refine List.Mem.tail _ ?_))
  have HB0 : Hid (w.heap.size ≤ B) := Lib.hid (by rw [hB]; exact hR.len)
  have HB := Lib.hid hB
  have HR1 := Lib.hid hR
  clear hB hR
  go_upto_region 3 with fail
  clear f2
  go_loopg [5, 11] q.hs.length (fun gg s5 s6 wr => ∃ (i : Nat) (v : Value), i ≤ q.hs.length ∧ gg = q.hs.length - i ∧ s5 = v ∧ s6 = .int .i64 (i : Nat) ∧ Aside (OwnS B wr v (getL (q.hs.take i) n)) ∧ Aside (Rws w.heap.size w wr [(gb, rqC q ad c, 24)]) ∧ Aside (B ≤ wr.heap.size))
  case atStart => exact ⟨0, _, Nat.zero_le _, rfl, rfl, rfl, own_nil _ _ _ _, HR1.out, by rw [HB.out]; exact Nat.le_refl _⟩
  case round =>
    obtain ⟨i, v, hil, rfl, rfl, rfl, HO, HRR, HBW⟩ := hrel
    have hR := HRR.out
    obtain ⟨av, cv, hve, _⟩ := slc_of_own HO.out
    have HVE := Lib.hid hve
    clear hve
    by_cases hlt : i < q.hs.length
    · have hltz : (i : Int) < (q.hs.length : Int) := by omega
      obtain ⟨h, hh⟩ : ∃ h, q.hs[i]? = some h := ⟨q.hs[i], List.getElem?_eq_getElem hlt⟩
      obtain rfl : ad = some ⟨b, f, none⟩ := by rcases had with h | ⟨_, h⟩; exact h; omega
      obtain ⟨e0, e1⟩ := hd_cells (HROW.out) hh
      have c0 := (hR.below.cell (p := ⟨b, f + i * 2, none⟩) (World.block_lt_of_cell? w _ e0)).trans e0
      have c1 := (hR.below.cell (p := ⟨b, f + i * 2 + 1, none⟩) (World.block_lt_of_cell? w _ e1)).trans e1
      have hsm := hq.h h (List.mem_of_getElem? hh)
      have hk : (getL (q.hs.take i) n).length + 1 ≤ 3000000 := by
        have := getL_le (q.hs.take i) n
        rw [List.length_take] at this
        omega
      have HH := Lib.hid (getL_take (n := n) hh)
      obtain ⟨G, hG⟩ : ∃ G, G = getL (q.hs.take i) n := ⟨_, rfl⟩
      rw [← hG] at HO HH HVE hk
      clear e0 e1 hh hG
      have HVE2 := HVE.out
      subst HVE2
      clear HVE
      go_upto_region 5 with (first
        | (refine wQ_alloc (cs := zH) rfl _ (by rfl) (by exact hR) zero_hd ?_; intro g7 w6 hR hb6 hg7)
        | (refine wQ_store rfl _ _ _ (by rfl) (by exact hR) g7 rfl #[.string (bs h.1), .string (bs h.2)] (by rfl) _ _ _ (by repeat (first | exact Pick.here | apply Pick.there)) (by kernel_rfl) (by kernel_rfl) (by kernel_rfl) ?_; intro w7 hR hsm7 hsz7))
      have HO7 : Hid (OwnS B w7 (.slice av G.length cv) G) := Lib.hid (own_old HO.out fun k _ hk => by
        have := hb6.size
        rw [hsm7 k (by omega), hb6.block k hk])
      have HB7 : Hid (B ≤ w7.heap.size) := Lib.hid (by have := HBW.out; have := hb6.size; omega)
      clear c0 c1 hsm7 hsz7 hb6 hg7
      have m0 : w7.cell? ⟨g7, 0, none⟩ = some (.string (bs h.1)) := hR.cellAt (g := g7) (List.Mem.head _) 0 rfl
      have m1 : w7.cell? ⟨g7, 1, none⟩ = some (.string (bs h.2)) := hR.cellAt (g := g7) (List.Mem.head _) 1 rfl
      by_cases hn : h.1 = n
      · have hq1 : ((bs h.1).toList == (bs n).toList) = true := by rw [bs_list, bs_list, hn]; simp
        have HG2 : Hid (getL (q.hs.take (i + 1)) n = G ++ [h.2]) := Lib.hid (by rw [HH.out, if_pos hn])
        clear hn
        go_wp2_with (at_builtin; refine wp_snocS (w := w7) (B := B) rfl _ _ (by rfl) h.2 (by rfl) (by rfl) HO7.out HB7.out (Below.refl _ _) hk ?_; intro v' w9 hO9 hB9)
        have hR9 := Rws.low (hR.sub (List.Sublist.cons _ (List.Sublist.refl _))) (fun y hy => by obtain rfl := List.mem_singleton.1 hy; exact hgb) HB0.out hB9
        go_roundg (q.hs.length - (i + 1))
        case measure => omega
        case rel => exact ⟨i + 1, _, by omega, rfl, rfl, by go_num, by rw [HG2.out]; exact hO9, hR9, Nat.le_trans HB7.out hB9.size⟩
      · have hq1 : ((bs h.1).toList == (bs n).toList) = false := by rw [bs_list, bs_list, beqL]; exact decide_eq_false hn
        have HG2 : Hid (getL (q.hs.take (i + 1)) n = G) := Lib.hid (by rw [HH.out, if_neg hn, List.append_nil])
        clear hn
        go_wp2_with fail
        go_roundg (q.hs.length - (i + 1))
        case measure => omega
        case rel => exact ⟨i + 1, _, by omega, rfl, rfl, by go_num, by rw [HG2.out]; exact HO7.out, hR.sub (List.Sublist.cons _ (List.Sublist.refl _)), HB7.out⟩
    · have hltz : ¬ (i : Int) < (q.hs.length : Int) := by omega
      have HG2 : Hid (getL (q.hs.take i) n = getS q n) := Lib.hid (by rw [List.take_of_length_le (by omega)]; rfl)
      rw [HG2.out] at HO HVE
      have HVE2 := HVE.out
      subst HVE2
      have hsl := sls_of_own HO.out
      have HCL := Lib.hid (clipS_any av (getS q n).length cv wr hsl.1 hsl.2.1)
      have HSL := Lib.hid hsl
      clear hsl
      go_wp2_with (go_at_call 39; refine HCL.out.mono ?_; rintro e w8 ⟨rfl, rfl⟩)
      go_ret
      exact ⟨_, _, rfl, HSL.out.clip, hR.below⟩
set_option maxRecDepth 100000 in
set_option maxHeartbeats 8000000 in
theorem GetR_any (q : Rq) (ad : Option Addr) (c : Nat) (n : Bs) (w : World) (hs : SlH w q.hs ad c) (hq : SmallQ q) : Calls Tryz.prog 17 #[rqv q ad c, .string (bs n)] w (RetSl (getS q n) w) := by
  have hMX := MX_eq
  obtain ⟨hle, hcm, b, f, had, hrow⟩ := hs
  have HROW := Lib.hid hrow
  have hql := hq.k
  have hR := Rws.start w
  clear hrow
  go_enter Tryz.func17, Tryz.ntmps17
  go_upto_region 1 with (refine wpList_box_rws rfl _ _ (by rfl) (by exact hR) (rqC q ad c) rfl ?_; intro gb w1 hR)
  have f2 : w1.cell? ⟨gb, 2, none⟩ = some (.slice ad q.hs.length c) := hR.cellAt (g := gb) (List.Mem.head _) 2 rfl
  obtain ⟨B, hB⟩ : ∃ B, B = w1.heap.size := ⟨_, rfl⟩
  have hgb : gb < B := by rw [hB]; exact hR.lt (x := (gb, _, _)) (by repeat (first | exact List.Mem.head _ | refine List.Mem.tail _ ?_))
  have HB0 : Hid (w.heap.size ≤ B) := Lib.hid (by rw [hB]; exact hR.len)
  have HB := Lib.hid hB
  have HR1 := Lib.hid hR
  clear hB hR
  go_upto_region 3 with fail
  clear f2
  go_loopg [5, 6] q.hs.length (fun gg s5 s6 wr => ∃ (i : Nat) (v : Value), i ≤ q.hs.length ∧ gg = q.hs.length - i ∧ s5 = v ∧ s6 = .int .i64 (i : Nat) ∧ Aside (OwnS B wr v (getL (q.hs.take i) n)) ∧ Aside (Rws w.heap.size w wr [(gb, rqC q ad c, 24)]) ∧ Aside (B ≤ wr.heap.size))
  case atStart => exact ⟨0, _, Nat.zero_le _, rfl, rfl, rfl, own_empty (by rw [HB.out]; exact Nat.le_refl _), Rws.low HR1.out (fun y hy => by obtain rfl := List.mem_singleton.1 hy; exact hgb) HB0.out (HB.out ▸ b_alloc w1 _), Nat.le_trans (Nat.le_of_eq HB.out) (b_alloc w1 _).size⟩
  case round =>
    obtain ⟨i, v, hil, rfl, rfl, rfl, HO, HRR, HBW⟩ := hrel
    have hR := HRR.out
    obtain ⟨av, cv, hve, _⟩ := slc_of_own HO.out
    have HVE := Lib.hid hve
    clear hve
    have f2 : wr.cell? ⟨gb, 2, none⟩ = some (.slice ad q.hs.length c) := hR.cellAt (g := gb) (List.Mem.head _) 2 rfl
    by_cases hlt : i < q.hs.length
    · have hltz : (i : Int) < (q.hs.length : Int) := by omega
      obtain ⟨h, hh⟩ : ∃ h, q.hs[i]? = some h := ⟨q.hs[i], List.getElem?_eq_getElem hlt⟩
      obtain rfl : ad = some ⟨b, f, none⟩ := by rcases had with h | ⟨_, h⟩; exact h; omega
      obtain ⟨e0, e1⟩ := hd_cells (HROW.out) hh
      have c0 := (hR.below.cell (p := ⟨b, f + i * 2, none⟩) (World.block_lt_of_cell? w _ e0)).trans e0
      have c1 := (hR.below.cell (p := ⟨b, f + i * 2 + 1, none⟩) (World.block_lt_of_cell? w _ e1)).trans e1
      have hsm := hq.h h (List.mem_of_getElem? hh)
      have hk : (getL (q.hs.take i) n).length + 1 ≤ 3000000 := by
        have := getL_le (q.hs.take i) n
        rw [List.length_take] at this
        omega
      have HH := Lib.hid (getL_take (n := n) hh)
      obtain ⟨G, hG⟩ : ∃ G, G = getL (q.hs.take i) n := ⟨_, rfl⟩
      rw [← hG] at HO HH HVE hk
      clear e0 e1 hh hG
      have HVE2 := HVE.out
      subst HVE2
      clear HVE
      have HO7 := Lib.hid HO.out
      have HB7 := Lib.hid HBW.out
      by_cases hn : h.1 = n
      · have hq1 : ((bs h.1).toList == (bs n).toList) = true := by rw [bs_list, bs_list, hn]; simp
        have HG2 : Hid (getL (q.hs.take (i + 1)) n = G ++ [h.2]) := Lib.hid (by rw [HH.out, if_pos hn])
        clear hn
        go_wp2_with (at_builtin; refine wp_snocS (w := wr) (B := B) rfl _ _ (by rfl) h.2 (by rfl) (by rfl) HO7.out HB7.out (Below.refl _ _) hk ?_; intro v' w9 hO9 hB9)
        have hR9 := Rws.low (hR) (fun y hy => by obtain rfl := List.mem_singleton.1 hy; exact hgb) HB0.out hB9
        go_roundg (q.hs.length - (i + 1))
        case measure => omega
        case rel => exact ⟨i + 1, _, by omega, rfl, rfl, by go_num, by rw [HG2.out]; exact hO9, hR9, Nat.le_trans HB7.out hB9.size⟩
      · have hq1 : ((bs h.1).toList == (bs n).toList) = false := by rw [bs_list, bs_list, beqL]; exact decide_eq_false hn
        have HG2 : Hid (getL (q.hs.take (i + 1)) n = G) := Lib.hid (by rw [HH.out, if_neg hn, List.append_nil])
        clear hn
        go_wp2_with fail
        go_roundg (q.hs.length - (i + 1))
        case measure => omega
        case rel => exact ⟨i + 1, _, by omega, rfl, rfl, by go_num, by rw [HG2.out]; exact HO7.out, hR, HB7.out⟩
    · have hltz : ¬ (i : Int) < (q.hs.length : Int) := by omega
      have HG2 : Hid (getL (q.hs.take i) n = getS q n) := Lib.hid (by rw [List.take_of_length_le (by omega)]; rfl)
      rw [HG2.out] at HO HVE
      have HVE2 := HVE.out
      subst HVE2
      have hsl := sls_of_own HO.out
      have HSL := Lib.hid hsl
      clear hsl
      go_wp2_with fail
      go_ret
      exact ⟨_, _, rfl, HSL.out, hR.below⟩
end Go.Proofs.YtipjkjcmceeaeaaGreatDoor
