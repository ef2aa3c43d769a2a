/- ostiaryref06.Parse, and DerReads: the walks (gen_zreads.py). -/
import Derived.Test.YtebhiplcoioenaaGreatDoorZZRRead
import Derived.Test.YtebhiplcoioenaaGreatDoorZZLawKit
import Derived.Deep.MidRow
namespace Go.Proofs.YtebhiplcoioenaaGreatDoor
open Go.RowKit

set_option maxRecDepth 100000 in
set_option maxHeartbeats 8000000 in
theorem RParse_any (s : Bs) (w : World) (hs : s.length ≤ SB) : Calls Tryz.prog 11 #[.string (bs s)] w (ParseP w (parseS s)) := by
  have hSB := SB_eq
  have zs := bs_size s
  have hR := Rws.start w
  obtain ⟨Y, hY⟩ : ∃ Y, Y = parseS s := ⟨_, rfl⟩
  rw [← hY]
  by_cases hl : 16384 < s.length
  · have hlz : (16384 : Int) < (s.length : Int) := by omega
    have HXE : Hid (Y = (.zero, 64)) := Lib.hid (by rw [hY]; unfold parseS; rw [if_pos hl])
    clear hY hl
    go_enter Tryz.func11, Tryz.ntmps11
    go_upto_region 1 with (refine wpList_alloc_rws rfl _ (by rfl) (by exact hR) (dvC .zero none 0) zero_der ?_; intro g2 w1 hR)
    go_wp2_with (refine wQ_store rfl _ _ _ (by rfl) (by exact hR) g2 rfl (dvC .zero none 0) (by rfl) _ _ _ (by repeat (first | exact Pick.here | apply Pick.there)) (by kernel_rfl) (by kernel_rfl) (by kernel_rfl) ?_; intro w9 hR hsm9 hsz9)
    have HR := Lib.hid hR
    refine bodyPost_rws2 rfl HR.out g2 rfl _ _ (by repeat (first | exact List.Mem.head _ | refine List.Mem.tail _ ?_)) _ Tryz.underlying24 rfl (by kernel_rfl) _ rfl rfl (fun hbz => ?_)
    rw [HXE.out]
    exact ⟨none, 0, rfl, SlQ.nil _ _, OwnD.nil _ _, hbz⟩
  · have hlz : ¬ (16384 : Int) < (s.length : Int) := by omega
    obtain ⟨X, hX⟩ : ∃ X, X = rdS 16 s := ⟨_, rfl⟩
    have HX : Hid (Y = if X.1 ≠ 0 then (.zero, X.1) else if X.2.2 ≠ [] then (.zero, 66) else (X.2.1, 0)) := Lib.hid (by rw [hY]; unfold parseS; rw [if_neg hl, hX])
    have HRD : Hid (∀ u, Calls Tryz.prog 37 #[.string (bs s), .int .i64 0] u (RReadQ u X)) := Lib.hid fun u => by
      have := rread_any 16 (Nat.le_refl _) s u (by omega)
      rw [← hX] at this
      exact this
    clear hY hX hl
    go_enter Tryz.func11, Tryz.ntmps11
    go_upto_region 1 with (refine wpList_alloc_rws rfl _ (by rfl) (by exact hR) (dvC .zero none 0) zero_der ?_; intro g2 w1 hR)
    have hlen1 := hR.len
    have hg2l := hR.lt (x := (g2, dvC .zero none 0, 24)) (by repeat (first | exact List.Mem.head _ | refine List.Mem.tail _ ?_))
    go_upto_region 4 with (first
      | (go_at_call 37; refine (HRD.out _).mono ?_; rintro e w3 ⟨ad1, cp1, rfl, hsl1, hown1, hbl1, hb3⟩; have hR := hR.call hb3)
      | (refine wQ_alloc (cs := dvC .zero none 0) rfl _ (by rfl) (by exact hR) zero_der ?_; intro g4 w4 hR hb4 hg4)
      | (refine wQ_store rfl _ _ _ (by rfl) (by exact hR) g4 rfl (dvC X.2.1 ad1 cp1) (by rfl) _ _ _ (by repeat (first | exact Pick.here | apply Pick.there)) (by kernel_rfl) (by rfl) (dv_one _ _ _) ?_; intro w5 hR hsm5 hsz5))
    by_cases hX1 : X.1 = 0
    · have hX1z : (X.1 == 0) = true := by rw [hX1]; rfl
      by_cases hm : X.2.2 = []
      · have HXF : Hid (Y = (X.2.1, 0)) := Lib.hid (by rw [HX.out, if_neg (by rw [hX1]; simp), if_neg (by rw [hm]; simp)])
        have hze : (bs X.2.2).toList.isEmpty = true := by rw [hm, bs_list]; rfl
        have hk5 : ∀ k, k < w3.heap.size → w1.heap.size ≤ k → w5.heap[k]? = w3.heap[k]? := fun k hk _ => by rw [hsm5 k (by omega), hb4.block k hk]
        have HSL : Hid (SlQ (fun k => w1.heap.size ≤ k) w5 X.2.1.l ad1 cp1 ∧ OwnD w1.heap.size w5 X.2.1.l.len ad1 cp1) := Lib.hid ⟨hsl1.kept hk5, hown1.keep hk5⟩
        clear hX1 hm hk5 hsl1 hown1 hb3 hb4 hg4 hsm5 hsz5 hbl1
        go_wp2_with (first
          | (refine wpList_load_rws rfl _ _ (by rfl) (by exact hR) g4 rfl (dvC X.2.1 ad1 cp1) _ (by repeat (first | exact List.Mem.head _ | refine List.Mem.tail _ ?_)) _ Tryz.underlying24 rfl (by kernel_rfl) ?_)
          | (refine wQ_store rfl _ _ _ (by rfl) (by exact hR) g2 rfl (dvC X.2.1 ad1 cp1) (by rfl) _ _ _ (by repeat (first | exact Pick.here | apply Pick.there)) (by kernel_rfl) (by rfl) (dv_one _ _ _) ?_; intro w8 hR hsm8 hsz8))
        have HR := Lib.hid hR
        refine bodyPost_rws2 rfl HR.out g2 rfl _ _ (by repeat (first | exact List.Mem.head _ | refine List.Mem.tail _ ?_)) _ Tryz.underlying24 rfl (by kernel_rfl) _ rfl rfl (fun hbz => ?_)
        rw [HXF.out]
        have hk : ∀ k, k < w5.heap.size → w1.heap.size ≤ k → w8.heap[k]? = w5.heap[k]? := fun k _ hk => hsm8 k (by omega)
        exact ⟨ad1, cp1, rfl, (HSL.out.1.kept hk).mono hlen1, (HSL.out.2.keep hk).mono hlen1, hbz⟩
      · have HXE : Hid (Y = (.zero, 66)) := Lib.hid (by rw [HX.out, if_neg (by rw [hX1]; simp), if_pos hm])
        have hze : (bs X.2.2).toList.isEmpty = false := by
          cases hd : X.2.2 with
          | nil => exact absurd hd hm
          | cons a r => exact neStr a r
        clear hX1 hm hsl1 hown1 hb3 hb4 hg4 hsm5 hsz5 hbl1
        go_wp2_with (refine wQ_store rfl _ _ _ (by rfl) (by exact hR) g2 rfl (dvC .zero none 0) (by rfl) _ _ _ (by repeat (first | exact Pick.here | apply Pick.there)) (by kernel_rfl) (by kernel_rfl) (by kernel_rfl) ?_; intro w9 hR hsm9 hsz9)
        have HR := Lib.hid hR
        refine bodyPost_rws2 rfl HR.out g2 rfl _ _ (by repeat (first | exact List.Mem.head _ | refine List.Mem.tail _ ?_)) _ Tryz.underlying24 rfl (by kernel_rfl) _ rfl rfl (fun hbz => ?_)
        rw [HXE.out]
        exact ⟨none, 0, rfl, SlQ.nil _ _, OwnD.nil _ _, hbz⟩
    · have hX1z : (X.1 == 0) = false := beq_eq_false_iff_ne.2 hX1
      have HXE : Hid (Y = (.zero, X.1)) := Lib.hid (by rw [HX.out, if_pos hX1])
      clear hX1 hsl1 hown1 hb3 hb4 hg4 hsm5 hsz5 hbl1
      go_wp2_with (refine wQ_store rfl _ _ _ (by rfl) (by exact hR) g2 rfl (dvC .zero none 0) (by rfl) _ _ _ (by repeat (first | exact Pick.here | apply Pick.there)) (by kernel_rfl) (by kernel_rfl) (by kernel_rfl) ?_; intro w9 hR hsm9 hsz9)
      have HR := Lib.hid hR
      refine bodyPost_rws2 rfl HR.out g2 rfl _ _ (by repeat (first | exact List.Mem.head _ | refine List.Mem.tail _ ?_)) _ Tryz.underlying24 rfl (by kernel_rfl) _ rfl rfl (fun hbz => ?_)
      rw [HXE.out]
      exact ⟨none, 0, rfl, SlQ.nil _ _, OwnD.nil _ _, hbz⟩
/-! Stores into one's own values. -/
theorem cells_other (b : Nat) : ∀ (vs : List Value) (o : Nat) (w : World) (k : Nat), k ≠ b → (w.setCells b o vs).heap[k]? = w.heap[k]?
  | [], _, _, _, _ => rfl
  | v :: vs, o, w, k, hk => by
    rw [World.setCells]
    rw [cells_other b vs _ _ k hk, heap_setCell_other _ _ _ _ hk]
theorem cells_size (b : Nat) : ∀ (vs : List Value) (o : Nat) (w : World), (w.setCells b o vs).heap.size = w.heap.size
  | [], _, _ => rfl
  | v :: vs, o, w => by
    rw [World.setCells, cells_size b vs, World.size_setCell]
theorem cells_same (b : Nat) (t : TypeId) : ∀ (vs : List Value) (o : Nat) (w : World) (cur : Array Value), w.heap[b]? = some (.cells cur t (0, 0)) → ∃ cur', (w.setCells b o vs).heap[b]? = some (.cells cur' t (0, 0)) ∧ cur'.size = cur.size
  | [], _, _, cur, h => ⟨cur, h, rfl⟩
  | v :: vs, o, w, cur, h => by
    rw [World.setCells]
    obtain ⟨cur', h1, h2⟩ := cells_same b t vs (o + 1) _ _ (heap_setCell_same w b o cur t v h)
    exact ⟨cur', h1, by rw [h2]; simp⟩
theorem cells_below {B : Nat} {w0 : World} (b : Nat) (hb : B ≤ b) : ∀ (vs : List Value) (o : Nat) (w : World), Below B w0 w → Below B w0 (w.setCells b o vs)
  | [], _, _, h => h
  | v :: vs, o, w, h => by
    rw [World.setCells]
    exact cells_below b hb vs _ _ (below_setc h hb o v)
theorem Rws.cells {B : Nat} {w0 w : World} {L : List (Nat × Array Value × TypeId)} (h : Rws B w0 w L) {b : Nat} (hb : B ≤ b) (hn : ∀ x, x ∈ L → x.1 ≠ b) (o : Nat) (vs : List Value) : Rws B w0 (w.setCells b o vs) L :=
  ⟨cells_below b hb vs o w h.below, by rw [cells_size]; exact h.len, fun x hx => ⟨(h.row x hx).1, (cells_other b vs o w x.1 (hn x hx)).trans (h.row x hx).2⟩, h.nd⟩
/-- A place in one's own values may be written. -/
theorem OwnD.place {B : Nat} {w : World} {n c : Nat} {ad : Option Addr} (h : OwnD B w n ad c) {j : Nat} (hj : j < n) : ∃ b, ad = some ⟨b, 0, none⟩ ∧ B ≤ b ∧ b < w.heap.size ∧ n ≤ c ∧ c ≤ MX ∧ w.there b (j * 5) 5 ∧ ∀ vs, OwnD B (w.setCells b (j * 5) vs) n ad c := by
  obtain ⟨ks, hl, ⟨h1, h0⟩ | ⟨g, cap, cur, hv, hg, hh, hn, hcm, hcs, htk⟩⟩ := h
  · omega
  · simp only [Value.slice.injEq, true_and] at hv
    obtain ⟨rfl, rfl⟩ := hv
    have hjc : j * 5 + 5 ≤ cur.size := by rw [hcs]; omega
    refine ⟨g, rfl, hg, (Array.getElem?_eq_some_iff.1 hh).1, hn, hcm, fun i hi => ⟨?_, frozen_of_row w g _ cur _ hh⟩, fun vs => ?_⟩
    · rw [cell_of_row w g _ cur _ _ hh, Array.getElem?_eq_getElem (by omega)]; rfl
    · obtain ⟨cur', h1, h2⟩ := cells_same g _ vs (j * 5) w cur hh
      exact ⟨cur'.toList.take (n * 5), by rw [List.length_take, Array.length_toList, h2, hcs]; omega, Or.inr ⟨g, c, cur', rfl, hg, h1, hn, hcm, by rw [h2]; exact hcs, rfl⟩⟩
/-- A value is stored at such a place, as a step. -/
theorem wp_place {P : Program} {ops : Array Oper} {rest : List Oper} {o : Oper} {a : Act} {Q : Exit → Act → World → Prop} {B : Nat} {w0 w : World} {L : List (Nat × Array Value × TypeId)} (hgd : o.guard = none) (ty : TypeId) (x y : Operand) (ho : o.op = .store ty x y) (h : Rws B w0 w L)
    (b k : Nat) (cells : Array Value) (hx : a.eval x = .pointer (some ⟨b, k, none⟩)) (hy : a.eval y = .agg cells) (ht : w.there b k cells.size) (hi : (P.info? ty).map (·.size) = some cells.size) (h1 : cells.all (·.oneCell') = true) (hb : B ≤ b) (hn : ∀ x, x ∈ L → x.1 ≠ b)
    (R : World → Prop) (hr : R (w.setCells b k cells.toList)) (hK : ∀ w', Rws B w0 w' L → R w' → wpList P ops Q rest (a.put o.dst undef) w') : wpList P ops Q (o :: rest) a w :=
  wpList_store_mid hgd ty x y ho b k cells hx hy ht hi h1 (hK _ (h.cells hb hn k _) hr)
namespace derReads
set_option maxRecDepth 100000 in
set_option maxHeartbeats 8000000 in
theorem law_any (s : Bs) (w : World) (hs : s.length ≤ SB) (hg : Gd w) : Calls Tryz.prog 3 #[.string (bs s)] w (RetB true w) := by
  have hSB := SB_eq
  have hMX := MX_eq
  have HG := Lib.hid hg
  have HFX : Hid (∀ u, Below w.heap.size w u → Calls Tryz.prog 13 #[] u (RetB true u)) := Lib.hid fun u hu => fixed_any u (hg.below hu)
  obtain ⟨Y, hY⟩ : ∃ Y, Y = parseS s := ⟨_, rfl⟩
  have HPA : Hid (∀ u, Below w.heap.size w u → Calls Tryz.prog 10 #[.string (bs s)] u (ParseP u Y)) := Lib.hid fun u hu => by rw [hY]; exact Parse_any s u hs (hg.below hu)
  have HRP : Hid (∀ u, Calls Tryz.prog 11 #[.string (bs s)] u (ParseP u Y)) := Lib.hid fun u => by rw [hY]; exact RParse_any s u hs
  obtain ⟨X, E⟩ := Y
  clear hY hs hg
  have eE : (E == E) = true := by simp
  go_enter Tryz.func3, Tryz.ntmps3
  go_upto_region 2 with fail
  go_loopg [2, 3, 5, 7, 8] 2 (fun gg s2 s3 _ _ _ wr => ∃ j : Nat, j + gg = 2 ∧ s3 = .int .i64 (j : Nat) ∧ s2 = .bool false ∧ Aside (Below w.heap.size w wr))
  case atStart => exact ⟨0, rfl, rfl, rfl, Below.refl _ _⟩
  case round =>
    obtain ⟨j, hj, rfl, rfl, HB⟩ := hrel
    cases gk with
    | zero =>
      obtain rfl : j = 2 := by omega
      go_wp2_with (go_at_call 13; refine (HFX.out _ HB.out).mono ?_; rintro e wn ⟨rfl, hb⟩)
      go_ret
      exact ⟨rfl, HB.out.trans (hb.mono HB.out.size)⟩
    | succ gk =>
      have hjz : (j : Int) < 2 := by omega
      have hR : Rws w.heap.size w wr [] := ⟨HB.out, HB.out.size, fun _ h => absurd h List.not_mem_nil, List.Pairwise.nil⟩
      go_upto_region 5 with (first
        | (go_at_call 10; refine (HPA.out _ HB.out).mono ?_; rintro e w3 ⟨ad1, cp1, rfl, hsl1, hown1, hb3⟩; have hR := hR.call hb3)
        | (refine wQ_alloc (cs := dvC .zero none 0) rfl _ (by rfl) (by exact hR) zero_der ?_; intro g4 w4 hR hb4 hg4)
        | (refine wQ_store rfl _ _ _ (by rfl) (by exact hR) g4 rfl (dvC X ad1 cp1) (by rfl) _ _ _ (by repeat (first | exact Pick.here | apply Pick.there)) (by kernel_rfl) (by rfl) (dv_one _ _ _) ?_; intro w5 hR hsm5 hsz5))
      have hk5 : ∀ k, k < w3.heap.size → w5.heap[k]? = w3.heap[k]? := fun k hk => by rw [hsm5 k (by omega), hb4.block k hk]
      have HS1 : Hid (SlQ (fun k => wr.heap.size ≤ k) w5 X.l ad1 cp1) := Lib.hid (hsl1.kept fun k hk _ => hk5 k hk)
      have HO5 : Hid (OwnD wr.heap.size w5 X.l.len ad1 cp1) := Lib.hid (hown1.keep fun k hk _ => hk5 k hk)
      have HN4 : Hid (∀ b, ad1 = some ⟨b, 0, none⟩ → 0 < X.l.len → b < g4 ∧ b < w5.heap.size) := Lib.hid fun b hb hl => by
        obtain ⟨b2, h1, _, h3, _⟩ := hown1.place (j := 0) hl
        rw [hb] at h1
        cases h1
        have := hb4.size
        exact ⟨by omega, by omega⟩
      clear hsl1 hown1 hb3 hb4 hg4 hsm5 hsz5 hk5
      go_upto_region 6 with (first
        | (go_at_call 11; refine (HRP.out _).mono ?_; rintro e w6 ⟨ad2, cp2, rfl, hsl2, _, hb6⟩; have hR := hR.call hb6)
        | (refine wQ_alloc (cs := dvC .zero none 0) rfl _ (by rfl) (by exact hR) zero_der ?_; intro g6 w7 hR hb7 hg6)
        | (refine wQ_store rfl _ _ _ (by rfl) (by exact hR) g6 rfl (dvC X ad2 cp2) (by rfl) _ _ _ (by repeat (first | exact Pick.here | apply Pick.there)) (by kernel_rfl) (by rfl) (dv_one _ _ _) ?_; intro w8 hR hsm8 hsz8))
      have hk8 : ∀ k, k < w6.heap.size → w8.heap[k]? = w6.heap[k]? := fun k hk => by rw [hsm8 k (by omega), hb7.block k hk]
      have h58 : ∀ k, k < w5.heap.size → wr.heap.size ≤ k → w8.heap[k]? = w5.heap[k]? := fun k hk _ => by rw [hk8 k (by have := hb6.size; omega), hb6.block k hk]
      have HSS : Hid (SlD w8 X.l ad1 cp1 ∧ SlD w8 X.l ad2 cp2) := Lib.hid ⟨(HS1.out.kept h58).sld, (hsl2.kept fun k hk _ => hk8 k hk).sld⟩
      have HO8 : Hid (OwnD wr.heap.size w8 X.l.len ad1 cp1) := Lib.hid (HO5.out.keep h58)
      have HN6 : Hid (∀ b, ad1 = some ⟨b, 0, none⟩ → 0 < X.l.len → b ≠ g4 ∧ b ≠ g6) := Lib.hid fun b hb hl => by
        obtain ⟨h1, h2⟩ := HN4.out b hb hl
        have := hb6.size
        exact ⟨by omega, by omega⟩
      clear hsl2 hb6 hb7 hg6 hsm8 hsz8 hk8 h58 HS1 HO5 HN4
      have HSA : Hid (∀ u, Below w8.heap.size w8 u → Calls Tryz.prog 12 #[dvv X ad1 cp1, dvv X ad2 cp2] u (RetB true u)) := Lib.hid fun u hu => same_any X ad1 cp1 ad2 cp2 u (HSS.out.1.grown hu) (HSS.out.2.grown hu)
      have q0 := hR.cellAt (g := g4) (by repeat (first | exact List.Mem.head _ | refine List.Mem.tail _ ?_)) 0 rfl
      have q1 := hR.cellAt (g := g4) (by repeat (first | exact List.Mem.head _ | refine List.Mem.tail _ ?_)) 1 rfl
      have q2 := hR.cellAt (g := g4) (by repeat (first | exact List.Mem.head _ | refine List.Mem.tail _ ?_)) 2 rfl
      have q3 := hR.cellAt (g := g4) (by repeat (first | exact List.Mem.head _ | refine List.Mem.tail _ ?_)) 3 rfl
      have q4 := hR.cellAt (g := g4) (by repeat (first | exact List.Mem.head _ | refine List.Mem.tail _ ?_)) 4 rfl
      have p0 := hR.cellAt (g := g6) (by repeat (first | exact List.Mem.head _ | refine List.Mem.tail _ ?_)) 0 rfl
      have p1 := hR.cellAt (g := g6) (by repeat (first | exact List.Mem.head _ | refine List.Mem.tail _ ?_)) 1 rfl
      have p2 := hR.cellAt (g := g6) (by repeat (first | exact List.Mem.head _ | refine List.Mem.tail _ ?_)) 2 rfl
      have p3 := hR.cellAt (g := g6) (by repeat (first | exact List.Mem.head _ | refine List.Mem.tail _ ?_)) 3 rfl
      have p4 := hR.cellAt (g := g6) (by repeat (first | exact List.Mem.head _ | refine List.Mem.tail _ ?_)) 4 rfl
      go_upto_region 8 with (go_at_call 12; refine (HSA.out _ (Below.refl _ _)).mono ?_; rintro e w9 ⟨rfl, hb9⟩; have hR := hR.call hb9; have HO9 := Lib.hid (HO8.out.below hb9))
      clear q0 q1 q2 q3 q4 p0 p1 p2 p3 p4 hb9 HSA HSS HO8
      obtain ⟨L, hL⟩ : ∃ L, L = X.l.len := ⟨_, rfl⟩
      have HLL := Lib.hid hL
      rw [← hL] at HO9 HN6
      clear hL
      have HR9 := Lib.hid hR
      obtain ⟨wo, rfl⟩ : ∃ wo : World, wo = wr := ⟨_, rfl⟩
      go_upto_region 9 with fail
      go_loopg [8] L (fun gg s8 wx => ∃ i : Nat, i ≤ L ∧ gg = L - i ∧ s8 = .int .i64 (i : Nat) ∧ Aside (Rws w.heap.size w wx [(g6, dvC X ad2 cp2, 24), (g4, dvC X ad1 cp1, 24)]) ∧ Aside (OwnD wo.heap.size wx L ad1 cp1))
      case atStart => exact ⟨0, Nat.zero_le _, rfl, rfl, HR9.out, HO9.out⟩
      case round =>
        obtain ⟨i, hi, rfl, rfl, HRA, HOA⟩ := hrel
        clear HR9 HO9 hR
        have hR := HRA.out
        have q4 : wr.cell? ⟨g4, 4, none⟩ = some (.slice ad1 L cp1) := by rw [HLL.out]; exact hR.cellAt (g := g4) (by repeat (first | exact List.Mem.head _ | refine List.Mem.tail _ ?_)) 4 rfl
        by_cases hlt : i < L
        · have hltz : (i : Int) < (L : Int) := by omega
          obtain ⟨b, rfl, hbB, hbl, hc1, hc2, hth, hst⟩ := HOA.out.place hlt
          obtain ⟨n4, n6⟩ := HN6.out b rfl (by omega)
          have HTH := Lib.hid hth
          have HST := Lib.hid hst
          have hwb : w.heap.size ≤ b := Nat.le_trans HB.out.size hbB
          have HNE := Lib.hid (And.intro n4 n6)
          clear hth hst n4 n6 hbB
          go_upto_region 11 with fail
          have hnn : ∀ y, y ∈ [(g6, dvC X ad2 cp2, 24), (g4, dvC X (some ⟨b, 0, none⟩) cp1, 24)] → y.1 ≠ b := fun y hy e => by
            simp only [List.mem_cons, List.not_mem_nil, or_false] at hy
            rcases hy with rfl | rfl
            · exact HNE.out.2 e.symm
            · exact HNE.out.1 e.symm
          have HNN := Lib.hid hnn
          clear hnn
          go_wp2_with (refine wp_place rfl _ _ _ (by rfl) (by exact hR) b (i * 5) #[.int .i64 0, .int .i64 5, .bool false, .string ⟨#[]⟩, .slice none 0 0] (by rfl) (by rfl) HTH.out (by kernel_rfl) (by simp [Value.oneCell']) hwb HNN.out (fun w' => OwnD wo.heap.size w' L (some ⟨b, 0, none⟩) cp1) (HST.out _) ?_; intro w12 hR hO2; have HO2 := Lib.hid hO2; clear hO2)
          go_roundg (L - (i + 1))
          case measure => omega
          case rel => exact ⟨i + 1, by omega, rfl, by go_num, hR, HO2.out⟩
        · have hltz : ¬ (i : Int) < (L : Int) := by omega
          have HB2 := Lib.hid hR.below
          go_wp2_with fail
          go_roundg gk
          case measure => omega
          case rel => exact ⟨j + 1, by omega, by go_num, rfl, HB2.out⟩
end derReads
end Go.Proofs.YtebhiplcoioenaaGreatDoor
