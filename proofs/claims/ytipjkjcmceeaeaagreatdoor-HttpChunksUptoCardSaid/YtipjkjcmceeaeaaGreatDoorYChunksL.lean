/- HttpChunks: the law's walk. -/
import Derived.Test.YtipjkjcmceeaeaaGreatDoorYLawKit
import Derived.Test.YtipjkjcmceeaeaaGreatDoorYPChk
import Derived.Test.YtipjkjcmceeaeaaGreatDoorYDigits
namespace Go.Proofs.YtipjkjcmceeaeaaGreatDoor.httpChunks
open Go.RowKit

theorem v_ok {s : Bs} {q : Rq} {n : Nat} (h : parseQ s = .ok (q, n)) : parseV s = (q, n, 0) := by unfold parseV; rw [h]
set_option maxRecDepth 100000 in
set_option maxHeartbeats 8000000 in
theorem law_any (q : Rq) (ad : Option Addr) (c : Nat) (l : List Int) (adi : Option Addr) (ci : Nat) (w : World) (hs : SlH w q.hs ad c) (hq : SmallQ q) (hl : SlI w l adi ci) (_ : l.length ≤ 1048576) (hgw : Gw w) : Calls Tryz.prog 7 #[rqv q ad c, .slice adi l.length ci] w (RetB true w) := by
  have hMX := MX_eq
  have hSB := SB_eq
  have hR := Rws.start w
  have HP : Hid (∀ x : Bs, x.length ≤ 16777216 → ∀ u, Below w.heap.size w u → Calls Tryz.prog 10 #[.string (bs x)] u (ParsePost (parseV x) u)) := Lib.hid fun x hx u hb => Parse_any x u hx (hgw.below hb)
  have HCK : Hid (∀ u, Below w.heap.size w u → Calls Tryz.prog 23 #[rqv q ad c] u (RetI (checkS q) u)) := Lib.hid fun u hb => Check_any q ad c u (hs.grown hb) hq (hgw.below hb)
  have hq0 : SmallQ ⟨q.m, q.t, q.hs, []⟩ := { m := hq.m, t := hq.t, k := hq.k, b := Nat.zero_le _, h := hq.h, ln := hq.ln }
  have HPR0 : Hid (∀ u, Below w.heap.size w u → Calls Tryz.prog 19 #[rqv ⟨q.m, q.t, q.hs, []⟩ ad c] u (RetSE (printS ⟨q.m, q.t, q.hs, []⟩) u)) := Lib.hid fun u hb => Print_any ⟨q.m, q.t, q.hs, []⟩ ad c u (hs.grown hb) hq0 (hgw.below hb)
  have HGW := Lib.hid hgw
  have HS0 := Lib.hid hs
  have hql := hq.k
  have hqb := hq.b
  have zb := bs_size q.b
  obtain ⟨hli, hci, bi, fi, hadi, hrowi⟩ := hl
  have HROWI := Lib.hid hrowi
  clear hgw hq0 hrowi
  by_cases hc : checkS q = 0
  · by_cases hbe : q.b = []
    · have hq1 : ((bs q.b).toList == []) = true := by rw [bs_list, hbe]; rfl
      clear hbe
      have HCK2 : Hid (∀ u, Below w.heap.size w u → Calls Tryz.prog 23 #[rqv q ad c] u (RetI 0 u)) := Lib.hid (by rw [← hc]; exact HCK.out)
      clear hc HCK HPR0 hs hq HP
      go_enter Tryz.func7, Tryz.ntmps7
      go_upto_region 1 with (refine wpList_box_rws rfl _ _ (by rfl) (by exact hR) (rqC q ad c) rfl ?_; intro gb w1 hR)
      go_upto_region 2 with (first
        | (refine wpList_load_rws rfl _ _ (by rfl) (by exact hR) gb rfl _ _ (by repeat (first | exact List.Mem.head _ | refine List.Mem.tail _ ?_)) _ Tryz.underlying24 rfl (by kernel_rfl) ?_)
        | (go_at_call 23; refine (HCK2.out _ hR.below).mono ?_; rintro e w2 ⟨rfl, hb2⟩; have hR := hR.call hb2; have f3 : w2.cell? ⟨gb, 3, none⟩ = some (.string (bs q.b)) := hR.cellAt (g := gb) (by repeat (first | exact List.Mem.head _ | refine List.Mem.tail _ ?_)) 3 rfl; have f2 : w2.cell? ⟨gb, 2, none⟩ = some (.slice ad q.hs.length c) := hR.cellAt (g := gb) (by repeat (first | exact List.Mem.head _ | refine List.Mem.tail _ ?_)) 2 rfl))
      have HBW := Lib.hid hR.below
      have HFX : Hid (∀ u, Below w2.heap.size w2 u → Calls Tryz.prog 18 #[] u (RetB true u)) := Lib.hid fun u hb => fixed_any u (HGW.out.below (HBW.out.trans (hb.mono HBW.out.size)))
      go_wp2_with (go_at_call 18; refine (HFX.out _ (Below.refl _ _)).mono ?_; rintro e w17 ⟨rfl, hb17⟩)
      go_ret
      exact ⟨rfl, HBW.out.trans (hb17.mono HBW.out.size)⟩
    · have hq1 : ((bs q.b).toList == []) = false := by rw [bs_list]; simpa using hbe
      have HCK2 : Hid (∀ u, Below w.heap.size w u → Calls Tryz.prog 23 #[rqv q ad c] u (RetI 0 u)) := Lib.hid (by rw [← hc]; exact HCK.out)
      by_cases h30 : q.hs.length ≤ 30
      · have h30z : ¬ (30 : Int) < (q.hs.length : Int) := by omega
        obtain ⟨hc0, hh2, hh8⟩ := check_nob hc
        obtain ⟨c31, hform, hb8, hh8'⟩ := check_parts hc
        obtain ⟨S, hS⟩ : ∃ S, S = headS ⟨q.m, q.t, q.hs, []⟩ := ⟨_, rfl⟩
        have hSl2 : 2 ≤ S.length := by rw [hS]; exact hh2
        have hSl8 : S.length ≤ 8192 := by rw [hS]; exact hh8
        have HPR : Hid (∀ u, Below w.heap.size w u → Calls Tryz.prog 19 #[rqv ⟨q.m, q.t, q.hs, []⟩ ad c] u fun e w' => e = .returned (.tuple #[.string (bs S), .int .i64 0]) ∧ Below u.heap.size u w') := Lib.hid fun u hb => by
          have := HPR0.out u hb
          rw [show printS ⟨q.m, q.t, q.hs, []⟩ = (S, 0) by unfold printS; rw [if_pos hc0, hS]; show (headS ⟨q.m, q.t, q.hs, []⟩ ++ [], (0 : Int)) = _; rw [List.append_nil]] at this
          exact this
        have zS := bs_size S
        have hS2z : ¬ (S.length : Int) < 2 := by omega
        have HC := Lib.hid hc
        have HSS := Lib.hid hS
        clear hc hc0 hh2 hh8 hh8' hform HPR0 HCK hS
        go_enter Tryz.func7, Tryz.ntmps7
        go_upto_region 1 with (refine wpList_box_rws rfl _ _ (by rfl) (by exact hR) (rqC q ad c) rfl ?_; intro gb w1 hR)
        go_upto_region 3 with (first
          | (refine wpList_load_rws rfl _ _ (by rfl) (by exact hR) gb rfl _ _ (by repeat (first | exact List.Mem.head _ | refine List.Mem.tail _ ?_)) _ Tryz.underlying24 rfl (by kernel_rfl) ?_)
          | (go_at_call 23; refine (HCK2.out _ hR.below).mono ?_; rintro e w2 ⟨rfl, hb2⟩; have hR := hR.call hb2; have f3 : w2.cell? ⟨gb, 3, none⟩ = some (.string (bs q.b)) := hR.cellAt (g := gb) (by repeat (first | exact List.Mem.head _ | refine List.Mem.tail _ ?_)) 3 rfl; have f2 : w2.cell? ⟨gb, 2, none⟩ = some (.slice ad q.hs.length c) := hR.cellAt (g := gb) (by repeat (first | exact List.Mem.head _ | refine List.Mem.tail _ ?_)) 2 rfl))
        clear f2 f3
        go_upto_region 4 with (first
          | (refine wpList_load_rws rfl _ _ (by rfl) (by exact hR) gb rfl _ _ (by repeat (first | exact List.Mem.head _ | refine List.Mem.tail _ ?_)) _ Tryz.underlying24 rfl (by kernel_rfl) ?_)
          | (refine wQ_alloc (cs := zQ) rfl _ (by rfl) (by exact hR) zero_rq ?_; intro g5 w3 hR hb3 hg3)
          | (refine wQ_store rfl _ _ _ (by rfl) (by exact hR) g5 rfl (rqC q ad c) (by rfl) _ _ _ (by repeat (first | exact Pick.here | apply Pick.there)) (by kernel_rfl) (by kernel_rfl) (by kernel_rfl) ?_; intro w4 hR hsm4 hsz4))
        clear hb3 hg3 hsm4 hsz4
        have f3 : w4.cell? ⟨gb, 3, none⟩ = some (.string (bs q.b)) := hR.cellAt (g := gb) (by repeat (first | exact List.Mem.head _ | refine List.Mem.tail _ ?_)) 3 rfl
        go_upto_region 6 with (refine wS_storec (g := gb) (k := 3) (new := rqC ⟨q.m, q.t, q.hs, []⟩ ad c) rfl (by rfl) (by exact hR) rfl rfl (by repeat (first | exact Pick.here | apply Pick.there)) rfl (by kernel_rfl) (by exact (show 3 < 4 by decide)) (by rfl) rfl ?_; intro w5 hR hsm5 hsz5)
        clear f3 hsm5 hsz5
        go_upto_region 7 with (first
          | (refine wpList_load_rws rfl _ _ (by rfl) (by exact hR) gb rfl _ _ (by repeat (first | exact List.Mem.head _ | refine List.Mem.tail _ ?_)) _ Tryz.underlying24 rfl (by kernel_rfl) ?_)
          | (go_at_call 19; refine (HPR.out _ hR.below).mono ?_; rintro e w6 ⟨rfl, hb6⟩; have hR := hR.call hb6))
        by_cases h81 : S.length ≤ 8100
        · have h81z : ¬ (8100 : Int) < (S.length : Int) := by omega
          obtain ⟨H1, hH1⟩ : ∃ H1, H1 = S.take (S.length - 2) := ⟨_, rfl⟩
          obtain ⟨H0, hH0⟩ : ∃ H0, H0 = H1 ++ (lineT ++ HEND) := ⟨_, rfl⟩
          obtain ⟨n2, hn2⟩ : ∃ n2, n2 = S.length - 2 := ⟨_, rfl⟩
          have hn2z : (S.length : Int) - 2 = (n2 : Int) := by omega
          have hn2l : (n2 : Int) ≤ (S.length : Int) := by omega
          have xh : (bs S).extract 0 n2 = bs H1 := by rw [bs_cut, List.drop_zero, hH1, hn2]
          have ah : bs H1 ++ ⟨#[84, 114, 97, 110, 115, 102, 101, 114, 45, 69, 110, 99, 111, 100, 105, 110, 103, 58, 99, 104, 117, 110, 107, 101, 100, 13, 10, 13, 10]⟩ = bs H0 := by rw [hH0]; exact bs_app2 H1 (lineT ++ HEND)
          have hH1l : H1.length ≤ 8100 := by rw [hH1, List.length_take]; omega
          have hH0l : H0.length ≤ 8129 := by rw [hH0, List.length_append]; have : (lineT ++ HEND).length = 29 := rfl; omega
          have zh1 := bs_size H1
          have HH0 : Hid (H0 = (headS ⟨q.m, q.t, q.hs, []⟩).take ((headS ⟨q.m, q.t, q.hs, []⟩).length - 2) ++ (lineT ++ HEND)) := Lib.hid (by rw [hH0, hH1, HSS.out])
          clear hH0 hH1 hn2
          obtain ⟨cap0, w7, hcv, hrow0, hb7⟩ := conv_row w6 H0 (by omega)
          have hw6 := hR.len
          go_upto_region 13 with fail
          have hR2 := hR.call hb7
          have hrow1 : RowM w7 w.heap.size w6.heap.size cap0 H0 := by
            obtain ⟨cur, fz, h1, h2⟩ := hrow0
            exact ⟨cur, fz, hw6, h2⟩
          clear hcv ah xh hn2z hrow0 hR hb7
          go_loopg [6, 9, 10] q.b.length (fun gg s6 s9 s10 wr => ∃ (bd acc : Bs) (g cap i : Nat), gg = bd.length ∧ s6 = .string (bs bd) ∧ s9 = .slice (some ⟨g, 0, none⟩) acc.length cap ∧ s10 = .int .i64 (i : Nat) ∧ i + bd.length ≤ 8192 ∧ Aside (∃ ps : List Bs, (∀ p, p ∈ ps → p ≠ []) ∧ ps.flatten ++ bd = q.b ∧ acc = H0 ++ chunksT ps) ∧ Aside (acc.length + 9 * bd.length ≤ 100000) ∧ Aside (RowM wr w.heap.size g cap acc) ∧ Aside (Rws w.heap.size w wr [(gb, rqC ⟨q.m, q.t, q.hs, []⟩ ad c, 24), (g5, rqC q ad c, 24)]))
          case atStart => exact ⟨q.b, H0, _, _, 0, rfl, rfl, rfl, rfl, by omega, ⟨[], (fun _ h => nomatch h), rfl, by simp [chunksT]⟩, by show H0.length + 9 * q.b.length ≤ 100000; omega, hrow1, hR2⟩
          case round =>
            obtain ⟨bd, acc, g, cap, i, rfl, rfl, rfl, rfl, hib, HPS, HLE, HO, HRR⟩ := hrel
            have hR := HRR.out
            have zbd := bs_size bd
            have hal : acc.length ≤ 100000 := by have := HLE.out; omega
            by_cases hb0 : bd = []
            · have hbz : ¬ (0 : Int) < (bd.length : Int) := by rw [hb0]; decide
              have HPT : Hid (∀ T, T = acc ++ [48, 13, 10, 13, 10] → parseQ T = .ok (q, T.length)) := Lib.hid (by
                obtain ⟨ps, p1, p2, p3⟩ := HPS.out
                rw [hb0, List.append_nil] at p2
                intro T hT
                have := parse_chunks HC.out h30 (by rw [← HSS.out]; exact h81) p1 p2
                rw [← HH0.out, ← p3] at this
                rw [hT]; exact this)
              have hk5 : acc.length + ([48, 13, 10, 13, 10] : Bs).length ≤ 140737488355328 := by simp only [List.length_cons, List.length_nil]; omega
              clear hb0
              go_upto_region 21 with (at_builtin; refine wp_appT (w := w) rfl _ _ (by rfl) [48, 13, 10, 13, 10] (by rfl) (by rfl) HO.out (Nat.le_refl _) hR.below hk5 ?_; intro T g' cap' w8 hT hrow8 hb8 hgr; have HT := Lib.hid hT; clear hT)
              have hR := hR.grown hgr HO.out.ge (by
                intro x hx
                rcases List.mem_cons.1 hx with rfl | hx
                · exact rowM_ne HO.out hR (by repeat (first | exact List.Mem.head _ | refine List.Mem.tail _ ?_)) (by decide)
                · rcases List.mem_cons.1 hx with rfl | hx
                  · exact rowM_ne HO.out hR (by repeat (first | exact List.Mem.head _ | refine List.Mem.tail _ ?_)) (by decide)
                  · cases hx)
              have hTl : T.length ≤ 100005 := by rw [HT.out, List.length_append]; simp only [List.length_cons, List.length_nil]; omega
              have htx := hrow8.text cap'
              clear hb8 hgr
              have H1 : Hid (∀ u, Below w.heap.size w u → Calls Tryz.prog 10 #[.string (bs T)] u fun e w' => ∃ ad c, e = .returned (.tuple #[.agg (rqC q ad c), .int .i64 (T.length : Nat), .int .i64 0]) ∧ SlH w' q.hs ad c ∧ Below u.heap.size u w') := Lib.hid fun u hb => by
                have := HP.out T (by omega) u hb
                rw [v_ok (HPT.out T HT.out)] at this
                exact this
              go_upto_region 22 with (first
                | (go_at_call 10; refine (H1.out _ hR.below).mono ?_; rintro e wa ⟨ad1, c1, rfl, hs1, hb1⟩; have hR := hR.call hb1)
                | (refine wQ_alloc (cs := zQ) rfl _ (by rfl) (by exact hR) zero_rq ?_; intro g12 wb hR hbw hgw)
                | (refine wQ_store rfl _ _ _ (by rfl) (by exact hR) g12 rfl (rqC q ad1 c1) (by rfl) _ _ _ (by repeat (first | exact Pick.here | apply Pick.there)) (by kernel_rfl) (by kernel_rfl) (by kernel_rfl) ?_; intro wc hR hsm hsz))
              have hkp : ∀ k, k < wa.heap.size → wc.heap[k]? = wa.heap[k]? := fun k hk => by rw [hsm k (by omega), hbw.block k hk]
              have HS1 : Hid (SlH wc q.hs ad1 c1) := Lib.hid (hs1.keep hkp)
              clear hs1 hb1 hbw hgw hsm hsz hkp htx hrow8
              have HBW := Lib.hid hR.below
              have HSM : Hid (∀ u, Below wc.heap.size wc u → Calls Tryz.prog 12 #[.agg (rqC q ad1 c1), .agg (rqC q ad c)] u (RetB true u)) := Lib.hid fun u hb => same_any q ad1 ad c1 c u (HS1.out.grown hb) (HS0.out.grown (HBW.out.trans (hb.mono HBW.out.size)))
              have HFX : Hid (∀ u, Below wc.heap.size wc u → Calls Tryz.prog 18 #[] u (RetB true u)) := Lib.hid fun u hb => fixed_any u (HGW.out.below (HBW.out.trans (hb.mono HBW.out.size)))
              have m0 : wc.cell? ⟨g12, 0, none⟩ = some (.string (bs q.m)) := hR.cellAt (g := g12) (by repeat (first | exact List.Mem.head _ | refine List.Mem.tail _ ?_)) 0 rfl
              have m1 : wc.cell? ⟨g12, 1, none⟩ = some (.string (bs q.t)) := hR.cellAt (g := g12) (by repeat (first | exact List.Mem.head _ | refine List.Mem.tail _ ?_)) 1 rfl
              have m2 : wc.cell? ⟨g12, 2, none⟩ = some (.slice ad1 q.hs.length c1) := hR.cellAt (g := g12) (by repeat (first | exact List.Mem.head _ | refine List.Mem.tail _ ?_)) 2 rfl
              have m3 : wc.cell? ⟨g12, 3, none⟩ = some (.string (bs q.b)) := hR.cellAt (g := g12) (by repeat (first | exact List.Mem.head _ | refine List.Mem.tail _ ?_)) 3 rfl
              have d0 : wc.cell? ⟨g5, 0, none⟩ = some (.string (bs q.m)) := hR.cellAt (g := g5) (by repeat (first | exact List.Mem.head _ | refine List.Mem.tail _ ?_)) 0 rfl
              have d1 : wc.cell? ⟨g5, 1, none⟩ = some (.string (bs q.t)) := hR.cellAt (g := g5) (by repeat (first | exact List.Mem.head _ | refine List.Mem.tail _ ?_)) 1 rfl
              have d2 : wc.cell? ⟨g5, 2, none⟩ = some (.slice ad q.hs.length c) := hR.cellAt (g := g5) (by repeat (first | exact List.Mem.head _ | refine List.Mem.tail _ ?_)) 2 rfl
              have d3 : wc.cell? ⟨g5, 3, none⟩ = some (.string (bs q.b)) := hR.cellAt (g := g5) (by repeat (first | exact List.Mem.head _ | refine List.Mem.tail _ ?_)) 3 rfl
              go_wp2_with (first
                | (go_at_call 12; refine (HSM.out _ (Below.refl _ _)).mono ?_; rintro e w21 ⟨rfl, hb21⟩)
                | (go_at_call 18; refine (HFX.out _ hb21).mono ?_; rintro e w22 ⟨rfl, hb22⟩))
              go_ret
              exact ⟨rfl, HBW.out.trans ((hb21.trans (hb22.mono hb21.size)).mono HBW.out.size)⟩
            · have hbp : 0 < bd.length := List.length_pos_iff.2 hb0
              have hbz : (0 : Int) < (bd.length : Int) := by omega
              clear hb0
              by_cases hil : i < l.length
              · have hiz : (i : Int) < (l.length : Int) := by omega
                obtain ⟨z, hz⟩ : ∃ z, l[i]? = some z := ⟨l[i], List.getElem?_eq_getElem hil⟩
                obtain rfl : adi = some ⟨bi, fi, none⟩ := by rcases hadi with h | ⟨_, h⟩; exact h; omega
                have ci0 := HROWI.out i (.int .i64 z) (by rw [List.getElem?_map, hz]; rfl)
                have ci1 : wr.cell? ⟨bi, fi + i, none⟩ = some (.int .i64 z) := (hR.below.cell (p := ⟨bi, fi + i, none⟩) (World.block_lt_of_cell? w _ ci0)).trans ci0
                clear ci0 hz
                by_cases hz0 : (0 : Int) < z
                · obtain ⟨zz, rfl⟩ : ∃ zz : Nat, z = (zz : Int) := ⟨z.toNat, by omega⟩
                  by_cases hzl : zz ≤ bd.length
                  · have hmin : min (bd.length : Int) (zz : Int) = (zz : Int) := Int.min_eq_right (by omega)
                    obtain ⟨P, hP⟩ : ∃ P, P = bd.take zz := ⟨_, rfl⟩
                    obtain ⟨bd2, hbd2⟩ : ∃ bd2, bd2 = bd.drop zz := ⟨_, rfl⟩
                    obtain ⟨D, hD⟩ : ∃ D, D = hexS zz := ⟨_, rfl⟩
                    obtain ⟨L1, hL1⟩ : ∃ L1, L1 = D ++ [13, 10] := ⟨_, rfl⟩
                    obtain ⟨L2, hL2⟩ : ∃ L2, L2 = L1 ++ P := ⟨_, rfl⟩
                    obtain ⟨L3, hL3⟩ : ∃ L3, L3 = L2 ++ [13, 10] := ⟨_, rfl⟩
                    have hPl : P.length = zz := by rw [hP, List.length_take]; omega
                    have hbd2l : bd2.length = bd.length - zz := by rw [hbd2, List.length_drop]
                    have hDl : D.length ≤ 4 := by rw [hD]; exact hexS_len 4 _ (by omega)
                    have l1 : L1.length = D.length + 2 := by rw [hL1, List.length_append]; rfl
                    have l2 : L2.length = L1.length + P.length := by rw [hL2, List.length_append]
                    have l3 : L3.length = L2.length + 2 := by rw [hL3, List.length_append]; rfl
                    have HPS2 : Hid (∃ ps : List Bs, (∀ p, p ∈ ps → p ≠ []) ∧ ps.flatten ++ bd2 = q.b ∧ acc ++ L3 = H0 ++ chunksT ps) := Lib.hid (by
                      obtain ⟨ps, p1, p2, p3⟩ := HPS.out
                      have hpn : P ≠ [] := by intro e; rw [e] at hPl; simp only [List.length_nil] at hPl; omega
                      refine ⟨ps ++ [P], fun p hp => ?_, ?_, ?_⟩
                      · rcases List.mem_append.1 hp with hp | hp
                        · exact p1 p hp
                        · obtain rfl := List.mem_singleton.1 hp; exact hpn
                      · rw [← p2, List.flatten_append, List.append_assoc, hbd2, hP]
                        simp
                      · rw [p3, hL3, hL2, hL1, hD, ← hPl]
                        simp [chunksT, chunkT, CRLF])
                    have HZ1 : Hid (∀ W, (binOp .add 9 (.string (bs D)) (.string ⟨#[13, 10]⟩)).run Tryz.prog W = .ok (.string (bs L1)) W) := Lib.hid fun W => by rw [hL1]; exact bin_addL D [13, 10] (by simp only [List.length_cons, List.length_nil]; omega) W
                    have HZ2 : Hid (∀ W, (binOp .add 9 (.string (bs L1)) (.string (bs P))).run Tryz.prog W = .ok (.string (bs L2)) W) := Lib.hid fun W => by rw [hL2]; exact bin_addL L1 P (by omega) W
                    have HZ3 : Hid (∀ W, (binOp .add 9 (.string (bs L2)) (.string ⟨#[13, 10]⟩)).run Tryz.prog W = .ok (.string (bs L3)) W) := Lib.hid fun W => by rw [hL3]; exact bin_addL L2 [13, 10] (by simp only [List.length_cons, List.length_nil]; omega) W
                    have HDG : Hid (∀ u, Below wr.heap.size wr u → Calls Tryz.prog 25 #[.int .i64 (zz : Nat)] u (RW (Is (.string (bs D))) u)) := Lib.hid fun u _ => by rw [hD]; exact (digits_any zz u (by omega)).mono fun _ _ h => rw_below h
                    have hk2 : acc.length + L3.length ≤ 140737488355328 := by have := HLE.out; omega
                    have HLE2 : Hid ((acc ++ L3).length + 9 * bd2.length ≤ 100000) := Lib.hid (by have := HLE.out; rw [List.length_append]; omega)
                    have HPE := Lib.hid hP.symm
                    have hml : zz ≤ bd.length := by omega
                    have hbx : (bs bd).extract zz (bs bd).size = bs bd2 := by rw [bs_size, bs_cut, List.take_of_length_le (Nat.le_refl _), hbd2]
                    have hbx2 : (bs bd).extract zz bd.length = bs bd2 := by rw [bs_cut, List.take_of_length_le (Nat.le_refl _), hbd2]
                    have HLT : Hid (bd2.length < bd.length) := Lib.hid (by omega)
                    have HI2 : Hid (i + 1 + bd2.length ≤ 8192) := Lib.hid (by omega)
                    have hmlz : ((zz : Nat) : Int) ≤ (bd.length : Int) := by omega
                    clear hP hbd2 hD hL1 hL2 hL3 l1 l2 l3 hPl hbd2l hDl
                    go_upto_region 18 with fail
                    refine wp_region_softG 9 (by kernel_rfl) (by kernel_rfl) (by rfl) hR ?_
                    refine g_move (R := Is (.slice (some ⟨g, 0, none⟩) acc.length cap)) (by rfl) (stb_is _) (by exact fun _ _ _ h => h) ?_
                    refine g_move (R := Is (.int .i64 (zz : Nat))) (by rfl) (stb_is _) (by exact fun _ _ _ h => h) ?_
                    refine g_callK (f := 25) (xs := [.tmp 82]) [.int .i64 (zz : Nat)] (R := Is (.string (bs D))) (by rfl) Tryz.func25 (by kernel_rfl) rfl (stb_is _) ⟨(by exact fun _ _ _ h => h), trivial⟩ (HDG.out) ?_
                    refine g_bin (v := .string (bs D)) (u := .string ⟨#[13, 10]⟩) (r := .string (bs L1)) (by rfl) (by exact fun _ _ _ h => h) (by exact fun _ _ _ h => h) (by rfl) (HZ1.out) ?_
                    refine g_move (R := Is (.string (bs bd))) (by rfl) (stb_is _) (by exact fun _ _ _ h => h) ?_
                    refine g_move (R := Is (.int .i64 (zz : Nat))) (by rfl) (stb_is _) (by exact fun _ _ _ h => h) ?_
                    refine g_cutT (s := bd) (k := zz) (by rfl) (by exact fun _ _ _ h => h) (by exact fun _ _ _ h => h) (hml) ?_
                    rw [show bd.take zz = P from HPE.out]
                    refine g_bin (v := .string (bs L1)) (u := .string (bs P)) (r := .string (bs L2)) (by rfl) (by exact fun _ _ _ h => h) (by exact fun _ _ _ h => h) (by rfl) (HZ2.out) ?_
                    refine g_bin (v := .string (bs L2)) (u := .string ⟨#[13, 10]⟩) (r := .string (bs L3)) (by rfl) (by exact fun _ _ _ h => h) (by exact fun _ _ _ h => h) (by rfl) (HZ3.out) ?_
                    intro w6 hR6 hb6 v81 h81 v82 h82 v83 h83 v84 h84 v85 h85 v86 h86 v87 h87 v88 h88 v89 h89
                    simp only [softEnd, Act.put, List.setIfInBounds_toArray, List.set_cons_succ, List.set_cons_zero, List.drop_succ_cons, List.drop_zero]
                    obtain rfl : v81 = .slice (some ⟨g, 0, none⟩) acc.length cap := h81
                    obtain rfl : v89 = .string (bs L3) := h89
                    clear h82 h83 h84 h85 h86 h87 h88
                    have hO6 := HO.out.below hb6
                    go_wp2_with (at_builtin; refine wp_appR (w := w) rfl _ _ (by rfl) L3 (by rfl) (by rfl) hO6 (Nat.le_refl _) hR6.below hk2 ?_; intro g' cap' w8 hrow8 hb8 hgr)
                    have hR8 := hR6.grown hgr hO6.ge (by
                      intro x hx
                      rcases List.mem_cons.1 hx with rfl | hx
                      · exact rowM_ne hO6 hR6 (by repeat (first | exact List.Mem.head _ | refine List.Mem.tail _ ?_)) (by decide)
                      · rcases List.mem_cons.1 hx with rfl | hx
                        · exact rowM_ne hO6 hR6 (by repeat (first | exact List.Mem.head _ | refine List.Mem.tail _ ?_)) (by decide)
                        · cases hx)
                    go_roundg bd2.length
                    case measure => exact HLT.out
                    case rel => exact ⟨bd2, acc ++ L3, g', cap', i + 1, rfl, by first | rfl | rw [hbx] | rw [hbx2], by first | rfl | rw [List.length_append], by go_num, HI2.out, HPS2.out, HLE2.out, hrow8, hR8⟩
                  · have hmin : min (bd.length : Int) (zz : Int) = (bd.length : Int) := Int.min_eq_left (by omega)
                    obtain ⟨P, hP⟩ : ∃ P, P = bd.take bd.length := ⟨_, rfl⟩
                    obtain ⟨bd2, hbd2⟩ : ∃ bd2, bd2 = bd.drop bd.length := ⟨_, rfl⟩
                    obtain ⟨D, hD⟩ : ∃ D, D = hexS bd.length := ⟨_, rfl⟩
                    obtain ⟨L1, hL1⟩ : ∃ L1, L1 = D ++ [13, 10] := ⟨_, rfl⟩
                    obtain ⟨L2, hL2⟩ : ∃ L2, L2 = L1 ++ P := ⟨_, rfl⟩
                    obtain ⟨L3, hL3⟩ : ∃ L3, L3 = L2 ++ [13, 10] := ⟨_, rfl⟩
                    have hPl : P.length = bd.length := by rw [hP, List.length_take]; omega
                    have hbd2l : bd2.length = bd.length - bd.length := by rw [hbd2, List.length_drop]
                    have hDl : D.length ≤ 4 := by rw [hD]; exact hexS_len 4 _ (by omega)
                    have l1 : L1.length = D.length + 2 := by rw [hL1, List.length_append]; rfl
                    have l2 : L2.length = L1.length + P.length := by rw [hL2, List.length_append]
                    have l3 : L3.length = L2.length + 2 := by rw [hL3, List.length_append]; rfl
                    have HPS2 : Hid (∃ ps : List Bs, (∀ p, p ∈ ps → p ≠ []) ∧ ps.flatten ++ bd2 = q.b ∧ acc ++ L3 = H0 ++ chunksT ps) := Lib.hid (by
                      obtain ⟨ps, p1, p2, p3⟩ := HPS.out
                      have hpn : P ≠ [] := by intro e; rw [e] at hPl; simp only [List.length_nil] at hPl; omega
                      refine ⟨ps ++ [P], fun p hp => ?_, ?_, ?_⟩
                      · rcases List.mem_append.1 hp with hp | hp
                        · exact p1 p hp
                        · obtain rfl := List.mem_singleton.1 hp; exact hpn
                      · rw [← p2, List.flatten_append, List.append_assoc, hbd2, hP]
                        simp
                      · rw [p3, hL3, hL2, hL1, hD, ← hPl]
                        simp [chunksT, chunkT, CRLF])
                    have HZ1 : Hid (∀ W, (binOp .add 9 (.string (bs D)) (.string ⟨#[13, 10]⟩)).run Tryz.prog W = .ok (.string (bs L1)) W) := Lib.hid fun W => by rw [hL1]; exact bin_addL D [13, 10] (by simp only [List.length_cons, List.length_nil]; omega) W
                    have HZ2 : Hid (∀ W, (binOp .add 9 (.string (bs L1)) (.string (bs P))).run Tryz.prog W = .ok (.string (bs L2)) W) := Lib.hid fun W => by rw [hL2]; exact bin_addL L1 P (by omega) W
                    have HZ3 : Hid (∀ W, (binOp .add 9 (.string (bs L2)) (.string ⟨#[13, 10]⟩)).run Tryz.prog W = .ok (.string (bs L3)) W) := Lib.hid fun W => by rw [hL3]; exact bin_addL L2 [13, 10] (by simp only [List.length_cons, List.length_nil]; omega) W
                    have HDG : Hid (∀ u, Below wr.heap.size wr u → Calls Tryz.prog 25 #[.int .i64 (bd.length : Nat)] u (RW (Is (.string (bs D))) u)) := Lib.hid fun u _ => by rw [hD]; exact (digits_any bd.length u (by omega)).mono fun _ _ h => rw_below h
                    have hk2 : acc.length + L3.length ≤ 140737488355328 := by have := HLE.out; omega
                    have HLE2 : Hid ((acc ++ L3).length + 9 * bd2.length ≤ 100000) := Lib.hid (by have := HLE.out; rw [List.length_append]; omega)
                    have HPE := Lib.hid hP.symm
                    have hml : bd.length ≤ bd.length := by omega
                    have hbx : (bs bd).extract bd.length (bs bd).size = bs bd2 := by rw [bs_size, bs_cut, List.take_of_length_le (Nat.le_refl _), hbd2]
                    have hbx2 : (bs bd).extract bd.length bd.length = bs bd2 := by rw [bs_cut, List.take_of_length_le (Nat.le_refl _), hbd2]
                    have HE : Hid (bs bd2 = ByteArray.empty) := Lib.hid (by rw [List.eq_nil_of_length_eq_zero (show bd2.length = 0 by omega)]; rfl)
                    have HLT : Hid (bd2.length < bd.length) := Lib.hid (by omega)
                    have HI2 : Hid (i + 1 + bd2.length ≤ 8192) := Lib.hid (by omega)
                    have hmlz : ((bd.length : Nat) : Int) ≤ (bd.length : Int) := by omega
                    clear hP hbd2 hD hL1 hL2 hL3 l1 l2 l3 hPl hbd2l hDl
                    go_upto_region 18 with fail
                    refine wp_region_softG 9 (by kernel_rfl) (by kernel_rfl) (by rfl) hR ?_
                    refine g_move (R := Is (.slice (some ⟨g, 0, none⟩) acc.length cap)) (by rfl) (stb_is _) (by exact fun _ _ _ h => h) ?_
                    refine g_move (R := Is (.int .i64 (bd.length : Nat))) (by rfl) (stb_is _) (by exact fun _ _ _ h => h) ?_
                    refine g_callK (f := 25) (xs := [.tmp 82]) [.int .i64 (bd.length : Nat)] (R := Is (.string (bs D))) (by rfl) Tryz.func25 (by kernel_rfl) rfl (stb_is _) ⟨(by exact fun _ _ _ h => h), trivial⟩ (HDG.out) ?_
                    refine g_bin (v := .string (bs D)) (u := .string ⟨#[13, 10]⟩) (r := .string (bs L1)) (by rfl) (by exact fun _ _ _ h => h) (by exact fun _ _ _ h => h) (by rfl) (HZ1.out) ?_
                    refine g_move (R := Is (.string (bs bd))) (by rfl) (stb_is _) (by exact fun _ _ _ h => h) ?_
                    refine g_move (R := Is (.int .i64 (bd.length : Nat))) (by rfl) (stb_is _) (by exact fun _ _ _ h => h) ?_
                    refine g_cutT (s := bd) (k := bd.length) (by rfl) (by exact fun _ _ _ h => h) (by exact fun _ _ _ h => h) (hml) ?_
                    rw [show bd.take bd.length = P from HPE.out]
                    refine g_bin (v := .string (bs L1)) (u := .string (bs P)) (r := .string (bs L2)) (by rfl) (by exact fun _ _ _ h => h) (by exact fun _ _ _ h => h) (by rfl) (HZ2.out) ?_
                    refine g_bin (v := .string (bs L2)) (u := .string ⟨#[13, 10]⟩) (r := .string (bs L3)) (by rfl) (by exact fun _ _ _ h => h) (by exact fun _ _ _ h => h) (by rfl) (HZ3.out) ?_
                    intro w6 hR6 hb6 v81 h81 v82 h82 v83 h83 v84 h84 v85 h85 v86 h86 v87 h87 v88 h88 v89 h89
                    simp only [softEnd, Act.put, List.setIfInBounds_toArray, List.set_cons_succ, List.set_cons_zero, List.drop_succ_cons, List.drop_zero]
                    obtain rfl : v81 = .slice (some ⟨g, 0, none⟩) acc.length cap := h81
                    obtain rfl : v89 = .string (bs L3) := h89
                    clear h82 h83 h84 h85 h86 h87 h88
                    have hO6 := HO.out.below hb6
                    go_wp2_with (at_builtin; refine wp_appR (w := w) rfl _ _ (by rfl) L3 (by rfl) (by rfl) hO6 (Nat.le_refl _) hR6.below hk2 ?_; intro g' cap' w8 hrow8 hb8 hgr)
                    have hR8 := hR6.grown hgr hO6.ge (by
                      intro x hx
                      rcases List.mem_cons.1 hx with rfl | hx
                      · exact rowM_ne hO6 hR6 (by repeat (first | exact List.Mem.head _ | refine List.Mem.tail _ ?_)) (by decide)
                      · rcases List.mem_cons.1 hx with rfl | hx
                        · exact rowM_ne hO6 hR6 (by repeat (first | exact List.Mem.head _ | refine List.Mem.tail _ ?_)) (by decide)
                        · cases hx)
                    go_roundg bd2.length
                    case measure => exact HLT.out
                    case rel => exact ⟨bd2, acc ++ L3, g', cap', i + 1, rfl, by first | rfl | rw [hbx] | rw [hbx2] | rw [HE.out], by first | rfl | rw [List.length_append], by go_num, HI2.out, HPS2.out, HLE2.out, hrow8, hR8⟩
                · obtain ⟨P, hP⟩ : ∃ P, P = bd.take bd.length := ⟨_, rfl⟩
                  obtain ⟨bd2, hbd2⟩ : ∃ bd2, bd2 = bd.drop bd.length := ⟨_, rfl⟩
                  obtain ⟨D, hD⟩ : ∃ D, D = hexS bd.length := ⟨_, rfl⟩
                  obtain ⟨L1, hL1⟩ : ∃ L1, L1 = D ++ [13, 10] := ⟨_, rfl⟩
                  obtain ⟨L2, hL2⟩ : ∃ L2, L2 = L1 ++ P := ⟨_, rfl⟩
                  obtain ⟨L3, hL3⟩ : ∃ L3, L3 = L2 ++ [13, 10] := ⟨_, rfl⟩
                  have hPl : P.length = bd.length := by rw [hP, List.length_take]; omega
                  have hbd2l : bd2.length = bd.length - bd.length := by rw [hbd2, List.length_drop]
                  have hDl : D.length ≤ 4 := by rw [hD]; exact hexS_len 4 _ (by omega)
                  have l1 : L1.length = D.length + 2 := by rw [hL1, List.length_append]; rfl
                  have l2 : L2.length = L1.length + P.length := by rw [hL2, List.length_append]
                  have l3 : L3.length = L2.length + 2 := by rw [hL3, List.length_append]; rfl
                  have HPS2 : Hid (∃ ps : List Bs, (∀ p, p ∈ ps → p ≠ []) ∧ ps.flatten ++ bd2 = q.b ∧ acc ++ L3 = H0 ++ chunksT ps) := Lib.hid (by
                    obtain ⟨ps, p1, p2, p3⟩ := HPS.out
                    have hpn : P ≠ [] := by intro e; rw [e] at hPl; simp only [List.length_nil] at hPl; omega
                    refine ⟨ps ++ [P], fun p hp => ?_, ?_, ?_⟩
                    · rcases List.mem_append.1 hp with hp | hp
                      · exact p1 p hp
                      · obtain rfl := List.mem_singleton.1 hp; exact hpn
                    · rw [← p2, List.flatten_append, List.append_assoc, hbd2, hP]
                      simp
                    · rw [p3, hL3, hL2, hL1, hD, ← hPl]
                      simp [chunksT, chunkT, CRLF])
                  have HZ1 : Hid (∀ W, (binOp .add 9 (.string (bs D)) (.string ⟨#[13, 10]⟩)).run Tryz.prog W = .ok (.string (bs L1)) W) := Lib.hid fun W => by rw [hL1]; exact bin_addL D [13, 10] (by simp only [List.length_cons, List.length_nil]; omega) W
                  have HZ2 : Hid (∀ W, (binOp .add 9 (.string (bs L1)) (.string (bs P))).run Tryz.prog W = .ok (.string (bs L2)) W) := Lib.hid fun W => by rw [hL2]; exact bin_addL L1 P (by omega) W
                  have HZ3 : Hid (∀ W, (binOp .add 9 (.string (bs L2)) (.string ⟨#[13, 10]⟩)).run Tryz.prog W = .ok (.string (bs L3)) W) := Lib.hid fun W => by rw [hL3]; exact bin_addL L2 [13, 10] (by simp only [List.length_cons, List.length_nil]; omega) W
                  have HDG : Hid (∀ u, Below wr.heap.size wr u → Calls Tryz.prog 25 #[.int .i64 (bd.length : Nat)] u (RW (Is (.string (bs D))) u)) := Lib.hid fun u _ => by rw [hD]; exact (digits_any bd.length u (by omega)).mono fun _ _ h => rw_below h
                  have hk2 : acc.length + L3.length ≤ 140737488355328 := by have := HLE.out; omega
                  have HLE2 : Hid ((acc ++ L3).length + 9 * bd2.length ≤ 100000) := Lib.hid (by have := HLE.out; rw [List.length_append]; omega)
                  have HPE := Lib.hid hP.symm
                  have hml : bd.length ≤ bd.length := by omega
                  have hbx : (bs bd).extract bd.length (bs bd).size = bs bd2 := by rw [bs_size, bs_cut, List.take_of_length_le (Nat.le_refl _), hbd2]
                  have hbx2 : (bs bd).extract bd.length bd.length = bs bd2 := by rw [bs_cut, List.take_of_length_le (Nat.le_refl _), hbd2]
                  have HE : Hid (bs bd2 = ByteArray.empty) := Lib.hid (by rw [List.eq_nil_of_length_eq_zero (show bd2.length = 0 by omega)]; rfl)
                  have HLT : Hid (bd2.length < bd.length) := Lib.hid (by omega)
                  have HI2 : Hid (i + 1 + bd2.length ≤ 8192) := Lib.hid (by omega)
                  have hmlz : ((bd.length : Nat) : Int) ≤ (bd.length : Int) := by omega
                  clear hP hbd2 hD hL1 hL2 hL3 l1 l2 l3 hPl hbd2l hDl
                  go_upto_region 18 with fail
                  refine wp_region_softG 9 (by kernel_rfl) (by kernel_rfl) (by rfl) hR ?_
                  refine g_move (R := Is (.slice (some ⟨g, 0, none⟩) acc.length cap)) (by rfl) (stb_is _) (by exact fun _ _ _ h => h) ?_
                  refine g_move (R := Is (.int .i64 (bd.length : Nat))) (by rfl) (stb_is _) (by exact fun _ _ _ h => h) ?_
                  refine g_callK (f := 25) (xs := [.tmp 82]) [.int .i64 (bd.length : Nat)] (R := Is (.string (bs D))) (by rfl) Tryz.func25 (by kernel_rfl) rfl (stb_is _) ⟨(by exact fun _ _ _ h => h), trivial⟩ (HDG.out) ?_
                  refine g_bin (v := .string (bs D)) (u := .string ⟨#[13, 10]⟩) (r := .string (bs L1)) (by rfl) (by exact fun _ _ _ h => h) (by exact fun _ _ _ h => h) (by rfl) (HZ1.out) ?_
                  refine g_move (R := Is (.string (bs bd))) (by rfl) (stb_is _) (by exact fun _ _ _ h => h) ?_
                  refine g_move (R := Is (.int .i64 (bd.length : Nat))) (by rfl) (stb_is _) (by exact fun _ _ _ h => h) ?_
                  refine g_cutT (s := bd) (k := bd.length) (by rfl) (by exact fun _ _ _ h => h) (by exact fun _ _ _ h => h) (hml) ?_
                  rw [show bd.take bd.length = P from HPE.out]
                  refine g_bin (v := .string (bs L1)) (u := .string (bs P)) (r := .string (bs L2)) (by rfl) (by exact fun _ _ _ h => h) (by exact fun _ _ _ h => h) (by rfl) (HZ2.out) ?_
                  refine g_bin (v := .string (bs L2)) (u := .string ⟨#[13, 10]⟩) (r := .string (bs L3)) (by rfl) (by exact fun _ _ _ h => h) (by exact fun _ _ _ h => h) (by rfl) (HZ3.out) ?_
                  intro w6 hR6 hb6 v81 h81 v82 h82 v83 h83 v84 h84 v85 h85 v86 h86 v87 h87 v88 h88 v89 h89
                  simp only [softEnd, Act.put, List.setIfInBounds_toArray, List.set_cons_succ, List.set_cons_zero, List.drop_succ_cons, List.drop_zero]
                  obtain rfl : v81 = .slice (some ⟨g, 0, none⟩) acc.length cap := h81
                  obtain rfl : v89 = .string (bs L3) := h89
                  clear h82 h83 h84 h85 h86 h87 h88
                  have hO6 := HO.out.below hb6
                  go_wp2_with (at_builtin; refine wp_appR (w := w) rfl _ _ (by rfl) L3 (by rfl) (by rfl) hO6 (Nat.le_refl _) hR6.below hk2 ?_; intro g' cap' w8 hrow8 hb8 hgr)
                  have hR8 := hR6.grown hgr hO6.ge (by
                    intro x hx
                    rcases List.mem_cons.1 hx with rfl | hx
                    · exact rowM_ne hO6 hR6 (by repeat (first | exact List.Mem.head _ | refine List.Mem.tail _ ?_)) (by decide)
                    · rcases List.mem_cons.1 hx with rfl | hx
                      · exact rowM_ne hO6 hR6 (by repeat (first | exact List.Mem.head _ | refine List.Mem.tail _ ?_)) (by decide)
                      · cases hx)
                  go_roundg bd2.length
                  case measure => exact HLT.out
                  case rel => exact ⟨bd2, acc ++ L3, g', cap', i + 1, rfl, by first | rfl | rw [hbx] | rw [hbx2] | rw [HE.out], by first | rfl | rw [List.length_append], by go_num, HI2.out, HPS2.out, HLE2.out, hrow8, hR8⟩
              · have hiz : ¬ (i : Int) < (l.length : Int) := by omega
                obtain ⟨P, hP⟩ : ∃ P, P = bd.take bd.length := ⟨_, rfl⟩
                obtain ⟨bd2, hbd2⟩ : ∃ bd2, bd2 = bd.drop bd.length := ⟨_, rfl⟩
                obtain ⟨D, hD⟩ : ∃ D, D = hexS bd.length := ⟨_, rfl⟩
                obtain ⟨L1, hL1⟩ : ∃ L1, L1 = D ++ [13, 10] := ⟨_, rfl⟩
                obtain ⟨L2, hL2⟩ : ∃ L2, L2 = L1 ++ P := ⟨_, rfl⟩
                obtain ⟨L3, hL3⟩ : ∃ L3, L3 = L2 ++ [13, 10] := ⟨_, rfl⟩
                have hPl : P.length = bd.length := by rw [hP, List.length_take]; omega
                have hbd2l : bd2.length = bd.length - bd.length := by rw [hbd2, List.length_drop]
                have hDl : D.length ≤ 4 := by rw [hD]; exact hexS_len 4 _ (by omega)
                have l1 : L1.length = D.length + 2 := by rw [hL1, List.length_append]; rfl
                have l2 : L2.length = L1.length + P.length := by rw [hL2, List.length_append]
                have l3 : L3.length = L2.length + 2 := by rw [hL3, List.length_append]; rfl
                have HPS2 : Hid (∃ ps : List Bs, (∀ p, p ∈ ps → p ≠ []) ∧ ps.flatten ++ bd2 = q.b ∧ acc ++ L3 = H0 ++ chunksT ps) := Lib.hid (by
                  obtain ⟨ps, p1, p2, p3⟩ := HPS.out
                  have hpn : P ≠ [] := by intro e; rw [e] at hPl; simp only [List.length_nil] at hPl; omega
                  refine ⟨ps ++ [P], fun p hp => ?_, ?_, ?_⟩
                  · rcases List.mem_append.1 hp with hp | hp
                    · exact p1 p hp
                    · obtain rfl := List.mem_singleton.1 hp; exact hpn
                  · rw [← p2, List.flatten_append, List.append_assoc, hbd2, hP]
                    simp
                  · rw [p3, hL3, hL2, hL1, hD, ← hPl]
                    simp [chunksT, chunkT, CRLF])
                have HZ1 : Hid (∀ W, (binOp .add 9 (.string (bs D)) (.string ⟨#[13, 10]⟩)).run Tryz.prog W = .ok (.string (bs L1)) W) := Lib.hid fun W => by rw [hL1]; exact bin_addL D [13, 10] (by simp only [List.length_cons, List.length_nil]; omega) W
                have HZ2 : Hid (∀ W, (binOp .add 9 (.string (bs L1)) (.string (bs P))).run Tryz.prog W = .ok (.string (bs L2)) W) := Lib.hid fun W => by rw [hL2]; exact bin_addL L1 P (by omega) W
                have HZ3 : Hid (∀ W, (binOp .add 9 (.string (bs L2)) (.string ⟨#[13, 10]⟩)).run Tryz.prog W = .ok (.string (bs L3)) W) := Lib.hid fun W => by rw [hL3]; exact bin_addL L2 [13, 10] (by simp only [List.length_cons, List.length_nil]; omega) W
                have HDG : Hid (∀ u, Below wr.heap.size wr u → Calls Tryz.prog 25 #[.int .i64 (bd.length : Nat)] u (RW (Is (.string (bs D))) u)) := Lib.hid fun u _ => by rw [hD]; exact (digits_any bd.length u (by omega)).mono fun _ _ h => rw_below h
                have hk2 : acc.length + L3.length ≤ 140737488355328 := by have := HLE.out; omega
                have HLE2 : Hid ((acc ++ L3).length + 9 * bd2.length ≤ 100000) := Lib.hid (by have := HLE.out; rw [List.length_append]; omega)
                have HPE := Lib.hid hP.symm
                have hml : bd.length ≤ bd.length := by omega
                have hbx : (bs bd).extract bd.length (bs bd).size = bs bd2 := by rw [bs_size, bs_cut, List.take_of_length_le (Nat.le_refl _), hbd2]
                have hbx2 : (bs bd).extract bd.length bd.length = bs bd2 := by rw [bs_cut, List.take_of_length_le (Nat.le_refl _), hbd2]
                have HE : Hid (bs bd2 = ByteArray.empty) := Lib.hid (by rw [List.eq_nil_of_length_eq_zero (show bd2.length = 0 by omega)]; rfl)
                have HLT : Hid (bd2.length < bd.length) := Lib.hid (by omega)
                have HI2 : Hid (i + 1 + bd2.length ≤ 8192) := Lib.hid (by omega)
                have hmlz : ((bd.length : Nat) : Int) ≤ (bd.length : Int) := by omega
                clear hP hbd2 hD hL1 hL2 hL3 l1 l2 l3 hPl hbd2l hDl
                go_upto_region 18 with fail
                refine wp_region_softG 9 (by kernel_rfl) (by kernel_rfl) (by rfl) hR ?_
                refine g_move (R := Is (.slice (some ⟨g, 0, none⟩) acc.length cap)) (by rfl) (stb_is _) (by exact fun _ _ _ h => h) ?_
                refine g_move (R := Is (.int .i64 (bd.length : Nat))) (by rfl) (stb_is _) (by exact fun _ _ _ h => h) ?_
                refine g_callK (f := 25) (xs := [.tmp 82]) [.int .i64 (bd.length : Nat)] (R := Is (.string (bs D))) (by rfl) Tryz.func25 (by kernel_rfl) rfl (stb_is _) ⟨(by exact fun _ _ _ h => h), trivial⟩ (HDG.out) ?_
                refine g_bin (v := .string (bs D)) (u := .string ⟨#[13, 10]⟩) (r := .string (bs L1)) (by rfl) (by exact fun _ _ _ h => h) (by exact fun _ _ _ h => h) (by rfl) (HZ1.out) ?_
                refine g_move (R := Is (.string (bs bd))) (by rfl) (stb_is _) (by exact fun _ _ _ h => h) ?_
                refine g_move (R := Is (.int .i64 (bd.length : Nat))) (by rfl) (stb_is _) (by exact fun _ _ _ h => h) ?_
                refine g_cutT (s := bd) (k := bd.length) (by rfl) (by exact fun _ _ _ h => h) (by exact fun _ _ _ h => h) (hml) ?_
                rw [show bd.take bd.length = P from HPE.out]
                refine g_bin (v := .string (bs L1)) (u := .string (bs P)) (r := .string (bs L2)) (by rfl) (by exact fun _ _ _ h => h) (by exact fun _ _ _ h => h) (by rfl) (HZ2.out) ?_
                refine g_bin (v := .string (bs L2)) (u := .string ⟨#[13, 10]⟩) (r := .string (bs L3)) (by rfl) (by exact fun _ _ _ h => h) (by exact fun _ _ _ h => h) (by rfl) (HZ3.out) ?_
                intro w6 hR6 hb6 v81 h81 v82 h82 v83 h83 v84 h84 v85 h85 v86 h86 v87 h87 v88 h88 v89 h89
                simp only [softEnd, Act.put, List.setIfInBounds_toArray, List.set_cons_succ, List.set_cons_zero, List.drop_succ_cons, List.drop_zero]
                obtain rfl : v81 = .slice (some ⟨g, 0, none⟩) acc.length cap := h81
                obtain rfl : v89 = .string (bs L3) := h89
                clear h82 h83 h84 h85 h86 h87 h88
                have hO6 := HO.out.below hb6
                go_wp2_with (at_builtin; refine wp_appR (w := w) rfl _ _ (by rfl) L3 (by rfl) (by rfl) hO6 (Nat.le_refl _) hR6.below hk2 ?_; intro g' cap' w8 hrow8 hb8 hgr)
                have hR8 := hR6.grown hgr hO6.ge (by
                  intro x hx
                  rcases List.mem_cons.1 hx with rfl | hx
                  · exact rowM_ne hO6 hR6 (by repeat (first | exact List.Mem.head _ | refine List.Mem.tail _ ?_)) (by decide)
                  · rcases List.mem_cons.1 hx with rfl | hx
                    · exact rowM_ne hO6 hR6 (by repeat (first | exact List.Mem.head _ | refine List.Mem.tail _ ?_)) (by decide)
                    · cases hx)
                go_roundg bd2.length
                case measure => exact HLT.out
                case rel => exact ⟨bd2, acc ++ L3, g', cap', i + 1, rfl, by first | rfl | rw [hbx] | rw [hbx2] | rw [HE.out], by first | rfl | rw [List.length_append], by go_num, HI2.out, HPS2.out, HLE2.out, hrow8, hR8⟩
        · have h81z : (8100 : Int) < (S.length : Int) := by omega
          have HBW := Lib.hid hR.below
          have HFX : Hid (∀ u, Below w6.heap.size w6 u → Calls Tryz.prog 18 #[] u (RetB true u)) := Lib.hid fun u hb => fixed_any u (HGW.out.below (HBW.out.trans (hb.mono HBW.out.size)))
          go_wp2_with (go_at_call 18; refine (HFX.out _ (Below.refl _ _)).mono ?_; rintro e w17 ⟨rfl, hb17⟩)
          go_ret
          exact ⟨rfl, HBW.out.trans (hb17.mono HBW.out.size)⟩
      · have h30z : (30 : Int) < (q.hs.length : Int) := by omega
        clear hc HCK HPR0 hs hq HP
        go_enter Tryz.func7, Tryz.ntmps7
        go_upto_region 1 with (refine wpList_box_rws rfl _ _ (by rfl) (by exact hR) (rqC q ad c) rfl ?_; intro gb w1 hR)
        go_upto_region 2 with (first
          | (refine wpList_load_rws rfl _ _ (by rfl) (by exact hR) gb rfl _ _ (by repeat (first | exact List.Mem.head _ | refine List.Mem.tail _ ?_)) _ Tryz.underlying24 rfl (by kernel_rfl) ?_)
          | (go_at_call 23; refine (HCK2.out _ hR.below).mono ?_; rintro e w2 ⟨rfl, hb2⟩; have hR := hR.call hb2; have f3 : w2.cell? ⟨gb, 3, none⟩ = some (.string (bs q.b)) := hR.cellAt (g := gb) (by repeat (first | exact List.Mem.head _ | refine List.Mem.tail _ ?_)) 3 rfl; have f2 : w2.cell? ⟨gb, 2, none⟩ = some (.slice ad q.hs.length c) := hR.cellAt (g := gb) (by repeat (first | exact List.Mem.head _ | refine List.Mem.tail _ ?_)) 2 rfl))
        have HBW := Lib.hid hR.below
        have HFX : Hid (∀ u, Below w2.heap.size w2 u → Calls Tryz.prog 18 #[] u (RetB true u)) := Lib.hid fun u hb => fixed_any u (HGW.out.below (HBW.out.trans (hb.mono HBW.out.size)))
        go_wp2_with (go_at_call 18; refine (HFX.out _ (Below.refl _ _)).mono ?_; rintro e w17 ⟨rfl, hb17⟩)
        go_ret
        exact ⟨rfl, HBW.out.trans (hb17.mono HBW.out.size)⟩
  · obtain ⟨E, hE⟩ : ∃ E, E = checkS q := ⟨_, rfl⟩
    have hEz : (E == 0) = false := by rw [hE]; simpa using hc
    have hEn : ¬ E = 0 := by rw [hE]; exact hc
    have hEn2 : (E != 0) = true := by rw [bne, hEz]; rfl
    rw [← hE] at HCK
    have HCK2 : Hid (∀ u, Below w.heap.size w u → Calls Tryz.prog 23 #[rqv q ad c] u (RetI E u)) := HCK
    clear hE hc HPR0 hs hq HP HCK
    go_enter Tryz.func7, Tryz.ntmps7
    go_upto_region 1 with (refine wpList_box_rws rfl _ _ (by rfl) (by exact hR) (rqC q ad c) rfl ?_; intro gb w1 hR)
    go_upto_region 2 with (first
      | (refine wpList_load_rws rfl _ _ (by rfl) (by exact hR) gb rfl _ _ (by repeat (first | exact List.Mem.head _ | refine List.Mem.tail _ ?_)) _ Tryz.underlying24 rfl (by kernel_rfl) ?_)
      | (go_at_call 23; refine (HCK2.out _ hR.below).mono ?_; rintro e w2 ⟨rfl, hb2⟩; have hR := hR.call hb2))
    have HBW := Lib.hid hR.below
    have HFX : Hid (∀ u, Below w2.heap.size w2 u → Calls Tryz.prog 18 #[] u (RetB true u)) := Lib.hid fun u hb => fixed_any u (HGW.out.below (HBW.out.trans (hb.mono HBW.out.size)))
    go_wp2_with (go_at_call 18; refine (HFX.out _ (Below.refl _ _)).mono ?_; rintro e w17 ⟨rfl, hb17⟩)
    go_ret
    exact ⟨rfl, HBW.out.trans (hb17.mono HBW.out.size)⟩
end Go.Proofs.YtipjkjcmceeaeaaGreatDoor.httpChunks
