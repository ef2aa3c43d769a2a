/- HttpPipes: the law's walk. -/
import Derived.Test.YtipjkjcmceeaeaaGreatDoorYPipesK
import Derived.Test.YtipjkjcmceeaeaaGreatDoorYPChk
import Derived.Test.YtipjkjcmceeaeaaGreatDoorYMore
namespace Go.Proofs.YtipjkjcmceeaeaaGreatDoor.httpPipes
open Go.RowKit

theorem v_ok {s : Bs} {q : Rq} {n : Nat} (h : parseQ s = .ok (q, n)) : parseV s = (q, n, 0) := by unfold parseV; rw [h]
theorem v_err {s : Bs} {e : Int} (h : parseQ s = .error e) : parseV s = (zRq, 0, e) := by unfold parseV; rw [h]
theorem bin_nee (W : World) : (binOp .neq 25 (.int .i64 0) (.int .i64 0)).run Tryz.prog W = .ok (.bool false) W := by rfl
theorem bin_lti (a b : Int) {r : Bool} (h : decide (a < b) = r) (W : World) : (binOp .lss 3 (.int .i64 a) (.int .i64 b)).run Tryz.prog W = .ok (.bool r) W := by subst h; rfl
theorem bin_gti (a b : Int) {r : Bool} (h : decide (b < a) = r) (W : World) : (binOp .gtr 3 (.int .i64 a) (.int .i64 b)).run Tryz.prog W = .ok (.bool r) W := by subst h; rfl
theorem rq_row {w : World} {l : List QV} {b f i : Nat} {x : QV} (hr : RowC w (RqC l) b f) (hx : l[i]? = some x) : ∀ j u, (qvC x)[j]? = some u → w.cell? ⟨b, f + i * 4 + j, none⟩ = some u := fun j u hu => by
  have hj : j < 4 := by have := (List.getElem?_eq_some_iff.1 hu).1; simpa [qvC] using this
  have := hr (i * 4 + j) u (by rw [rqc_get l i j x hx hj]; exact hu)
  rw [show f + i * 4 + j = f + (i * 4 + j) by omega]; exact this
set_option maxRecDepth 100000 in
set_option maxHeartbeats 8000000 in
theorem law_any (l : List QV) (ad : Option Addr) (c : Nat) (w : World) (hs : SlQ w l ad c ∧ ∀ x, x ∈ l → SlH w x.1.hs x.2.1 x.2.2) (hq : ∀ x, x ∈ l → SmallQ x.1) (hgw : Gw w) : Calls Tryz.prog 8 #[.slice ad l.length c] w (RetB true w) := by
  have hMX := MX_eq
  have hSB := SB_eq
  have HP : Hid (∀ x : Bs, x.length ≤ 16777216 → ∀ u, Below w.heap.size w u → Calls Tryz.prog 10 #[.string (bs x)] u (ParsePost (parseV x) u)) := Lib.hid fun x hx u hb => Parse_any x u hx (hgw.below hb)
  have HGW := Lib.hid hgw
  obtain ⟨⟨hle, hcm, b, f, had, hrow⟩, hhs⟩ := hs
  have HROW := Lib.hid hrow
  have HHS := Lib.hid hhs
  have HQS := Lib.hid hq
  clear hgw hrow hhs hq
  have hrow0 : RowM ((w.alloc (.cells #[] 5)).alloc (.cells #[] 24)) w.heap.size w.heap.size 0 [] := by
    refine RowM.below (w := w.alloc (.cells #[] 5)) ?_ (b_alloc _ _)
    exact ⟨#[], (0, 0), Nat.le_refl _, heap_alloc_new _ _, Or.inl rfl, Nat.le_refl _, Nat.zero_le _, rfl, fun j x hj => by simp at hj⟩
  have hown0 : OwnQ w.heap.size ((w.alloc (.cells #[] 5)).alloc (.cells #[] 24)) (.slice (some ⟨w.heap.size + 1, 0, none⟩) 0 0) [] := by
    have := own_empty (w := w.alloc (.cells #[] 5)) (B := w.heap.size) (size := 4) (e := 24) (by simp)
    unfold OwnQ
    simpa [RqC] using this
  have hbel0 : Below w.heap.size w ((w.alloc (.cells #[] 5)).alloc (.cells #[] 24)) := (b_alloc _ _).trans ((b_alloc _ _).mono (by simp))
  go_enter Tryz.func8, Tryz.ntmps8
  go_upto_region 4 with fail
  go_loopg [3, 4, 5] l.length (fun gg s3 s4 s5 wr => ∃ (i : Nat) (a : List QV) (T : Bs) (g cap : Nat) (v4 : Value), i ≤ l.length ∧ i ≤ 20 ∧ gg = l.length - i ∧ s3 = .slice (some ⟨g, 0, none⟩) T.length cap ∧ s4 = v4 ∧ s5 = .int .i64 (i : Nat) ∧ Aside (T = txtsQ a) ∧ Aside (T.length ≤ 16384 * i) ∧ Aside (a.length ≤ i) ∧ Aside (∀ x, x ∈ a → x ∈ l ∧ checkS x.1 = 0) ∧ Aside (RowM wr w.heap.size g cap T) ∧ Aside (OwnQ w.heap.size wr v4 a) ∧ Aside (Below w.heap.size w wr))
  case atStart => exact ⟨0, [], [], _, _, _, Nat.zero_le _, Nat.zero_le _, rfl, rfl, rfl, rfl, rfl, Nat.zero_le _, Nat.le_refl _, (fun _ h => nomatch h), hrow0, by first | exact hown0 | simpa using hown0, hbel0⟩
  case round =>
    obtain ⟨i, a, T, g, cap, v4, hil, hi20, rfl, rfl, rfl, rfl, HT, HTlen, HAL, HAC, HO, HOQ, HB⟩ := hrel
    by_cases hlt : i < l.length
    · have hltz : (i : Int) < (l.length : Int) := by omega
      by_cases h20 : i < 20
      · have h20z : (i : Int) < 20 := by omega
        obtain ⟨x, hx⟩ : ∃ x, l[i]? = some x := ⟨l[i], List.getElem?_eq_getElem hlt⟩
        have hxm := List.mem_of_getElem? hx
        obtain rfl : ad = some ⟨b, f, none⟩ := by rcases had with h | ⟨_, h⟩; exact h; omega
        obtain ⟨e0, e1, e2, e3⟩ := rq_cells HROW.out hx
        obtain ⟨q, ad1, c1⟩ := x
        have E0 := Lib.hid e0
        have E1 := Lib.hid e1
        have E2 := Lib.hid e2
        have E3 := Lib.hid e3
        have HX := Lib.hid hxm
        have HPR0 : Hid (∀ u, Below w.heap.size w u → Calls Tryz.prog 19 #[.agg #[.string (bs q.m), .string (bs q.t), .slice ad1 q.hs.length c1, .string (bs q.b)]] u (RetSE (printS q) u)) := Lib.hid fun u hb => Print_any q ad1 c1 u ((HHS.out _ hxm).grown hb) (HQS.out _ hxm) (HGW.out.below hb)
        clear e0 e1 e2 e3 hx hxm
        have d0 : wr.cell? ⟨b, f + i * 4, none⟩ = some (.string (bs q.m)) := (HB.out.cell (p := ⟨b, f + i * 4, none⟩) (World.block_lt_of_cell? w _ E0.out)).trans E0.out
        have d1 : wr.cell? ⟨b, f + i * 4 + 1, none⟩ = some (.string (bs q.t)) := (HB.out.cell (p := ⟨b, f + i * 4 + 1, none⟩) (World.block_lt_of_cell? w _ E1.out)).trans E1.out
        have d2 : wr.cell? ⟨b, f + i * 4 + 2, none⟩ = some (.slice ad1 q.hs.length c1) := (HB.out.cell (p := ⟨b, f + i * 4 + 2, none⟩) (World.block_lt_of_cell? w _ E2.out)).trans E2.out
        have d3 : wr.cell? ⟨b, f + i * 4 + 3, none⟩ = some (.string (bs q.b)) := (HB.out.cell (p := ⟨b, f + i * 4 + 3, none⟩) (World.block_lt_of_cell? w _ E3.out)).trans E3.out
        by_cases hc : checkS q = 0
        · obtain ⟨S, hS⟩ : ∃ S, S = headS q ++ q.b := ⟨_, rfl⟩
          have hSl : S.length ≤ 16384 := by
            obtain ⟨_, _, h3, h4⟩ := check_parts hc
            rw [hS, List.length_append]; omega
          have HPR : Hid (∀ u, Below w.heap.size w u → Calls Tryz.prog 19 #[.agg #[.string (bs q.m), .string (bs q.t), .slice ad1 q.hs.length c1, .string (bs q.b)]] u fun e w' => e = .returned (.tuple #[.string (bs S), .int .i64 0]) ∧ Below u.heap.size u w') := Lib.hid fun u hb => by
            have := HPR0.out u hb
            rw [show printS q = (S, 0) by unfold printS; rw [if_pos hc, hS]] at this
            exact this
          have HC := Lib.hid hc
          have hk : T.length + S.length ≤ 140737488355328 := by have := HTlen.out; omega
          have HT2 : Hid (T ++ S = txtsQ (a ++ [(q, ad1, c1)])) := Lib.hid (by rw [txtsQ_snoc, HT.out, hS]; rfl)
          have HTl2 : Hid ((T ++ S).length ≤ 16384 * (i + 1)) := Lib.hid (by have := HTlen.out; rw [List.length_append]; omega)
          have HAL2 : Hid ((a ++ [(q, ad1, c1)]).length ≤ i + 1) := Lib.hid (by rw [List.length_append]; have := HAL.out; simp only [List.length_cons, List.length_nil]; omega)
          have hak : a.length + 1 ≤ 3000000 := by have := HAL.out; omega
          clear hS hSl hc
          go_upto_region 9 with (first
            | (go_at_call 19; refine (HPR.out _ HB.out).mono ?_; rintro e w6 ⟨rfl, hb6⟩; have hO6 := HO.out.below hb6; have hQ6 := own_keep HOQ.out hb6; have hB6 := HB.out.trans (hb6.mono HB.out.size))
            | (at_builtin; refine wp_appR (w := w) rfl _ _ (by rfl) S (by rfl) (by rfl) hO6 (Nat.le_refl _) hB6 hk ?_; intro g' cap' w8 hrow8 hb8 hgr8))
          have hQ8 := ownQ_rowM hQ6 hO6 hgr8
          clear d0 d1 d2 d3
          have d0 : w8.cell? ⟨b, f + i * 4, none⟩ = some (.string (bs q.m)) := (hb8.cell (p := ⟨b, f + i * 4, none⟩) (World.block_lt_of_cell? w _ E0.out)).trans E0.out
          have d1 : w8.cell? ⟨b, f + i * 4 + 1, none⟩ = some (.string (bs q.t)) := (hb8.cell (p := ⟨b, f + i * 4 + 1, none⟩) (World.block_lt_of_cell? w _ E1.out)).trans E1.out
          have d2 : w8.cell? ⟨b, f + i * 4 + 2, none⟩ = some (.slice ad1 q.hs.length c1) := (hb8.cell (p := ⟨b, f + i * 4 + 2, none⟩) (World.block_lt_of_cell? w _ E2.out)).trans E2.out
          have d3 : w8.cell? ⟨b, f + i * 4 + 3, none⟩ = some (.string (bs q.b)) := (hb8.cell (p := ⟨b, f + i * 4 + 3, none⟩) (World.block_lt_of_cell? w _ E3.out)).trans E3.out
          go_wp2_with (at_builtin; refine wp_snocQ (w := w) (l := a) rfl _ _ (by rfl) (q, ad1, c1) (by rfl) (by rfl) hQ8 hb8 (Nat.le_refl _) hak ?_; intro v' w9 hO9 hb9 hgr9)
          have hrow9 := rowM_own (hrow8.below (b_alloc w8 _)) (hQ8.alloc _) hgr9
          go_roundg (l.length - (i + 1))
          case measure => omega
          case rel => exact ⟨i + 1, a ++ [(q, ad1, c1)], T ++ S, g', cap', v', by omega, by omega, rfl, by first | rfl | rw [List.length_append], rfl, by go_num, HT2.out, HTl2.out, HAL2.out, (fun y hy => by
            rcases List.mem_append.1 hy with hy | hy
            · exact HAC.out y hy
            · obtain rfl := List.mem_singleton.1 hy; exact ⟨HX.out, HC.out⟩), hrow9, hO9, hb9⟩
        · obtain ⟨E, hE⟩ : ∃ E, E = checkS q := ⟨_, rfl⟩
          have hEz : (E == 0) = false := by rw [hE]; simpa using hc
          have hEn : ¬ E = 0 := by rw [hE]; exact hc
          have HPR : Hid (∀ u, Below w.heap.size w u → Calls Tryz.prog 19 #[.agg #[.string (bs q.m), .string (bs q.t), .slice ad1 q.hs.length c1, .string (bs q.b)]] u fun e w' => e = .returned (.tuple #[.string ⟨#[]⟩, .int .i64 E]) ∧ Below u.heap.size u w') := Lib.hid fun u hb => by
            have := HPR0.out u hb
            rw [show printS q = ([], E) by unfold printS; rw [if_neg hc, hE]] at this
            exact this
          clear hE hc
          go_wp2_with (go_at_call 19; refine (HPR.out _ HB.out).mono ?_; rintro e w6 ⟨rfl, hb6⟩; have hO6 := HO.out.below hb6; have hQ6 := own_keep HOQ.out hb6; have hB6 := HB.out.trans (hb6.mono HB.out.size))
          go_roundg (l.length - (i + 1))
          case measure => omega
          case rel => exact ⟨i + 1, a, T, g, cap, _, by omega, by omega, rfl, rfl, rfl, by go_num, HT.out, by have := HTlen.out; show T.length ≤ _; omega, by have := HAL.out; show a.length ≤ _; omega, HAC.out, hO6, hQ6, hB6⟩
      · have h20z : ¬ (i : Int) < 20 := by omega
        obtain ⟨wp, hwp⟩ : ∃ wp, wp = wr := ⟨_, rfl⟩
        subst hwp
        have htx := HO.out.text cap
        have HTT := HT
        obtain ⟨ad4, c4, rfl, hs4⟩ := slc_of_own HOQ.out
        have HS4 := Lib.hid hs4
        have HBR := HB
        have HA := HAC
        have ha20 : a.length ≤ 20 := by have := HAL.out; omega
        have HTL := HTlen
        clear hs4
        go_upto_region 12 with fail
        clear htx
        go_loopg [8, 9] a.length (fun gg s8 s9 wr => ∃ (j : Nat) (R : Bs), j ≤ a.length ∧ gg = a.length - j ∧ s8 = .string (bs R) ∧ s9 = .int .i64 (j : Nat) ∧ R.length ≤ 400000 ∧ Aside (R = txtsQ (a.drop j)) ∧ Aside (Below wp.heap.size wp wr))
        case atStart => exact ⟨0, T, Nat.zero_le _, rfl, rfl, rfl, by have := HTL.out; omega, by rw [List.drop_zero]; exact HTT.out, Below.refl _ _⟩
        case round =>
          obtain ⟨j, R, hja, rfl, rfl, rfl, hRl, HR, HQ⟩ := hrel
          have zR := bs_size R
          have hR := Rws.start wr
          have HWQ : Hid (Below w.heap.size w wr) := Lib.hid (HBR.out.trans (HQ.out.mono HBR.out.size))
          by_cases hlt : j < a.length
          · have hltz : (j : Int) < (a.length : Int) := by omega
            obtain ⟨y, hy⟩ : ∃ y, a[j]? = some y := ⟨a[j], List.getElem?_eq_getElem hlt⟩
            obtain ⟨hyl, hyc⟩ := HA.out y (List.mem_of_getElem? hy)
            obtain ⟨R2, hR2⟩ : ∃ R2, R2 = txtsQ (a.drop (j + 1)) := ⟨_, rfl⟩
            have hRe : R = txtQ y ++ R2 := by rw [HR.out, txtsQ_cons hy, hR2]
            obtain ⟨_, _, b4, f4, had4, hrow4⟩ := HS4.out
            obtain rfl : ad4 = some ⟨b4, f4, none⟩ := by rcases had4 with h | ⟨_, h⟩; exact h; omega
            have hcy := rq_row hrow4 hy
            obtain ⟨q, ad1, c1⟩ := y
            obtain ⟨n, hn⟩ : ∃ n, n = (txtQ (q, ad1, c1)).length := ⟨_, rfl⟩
            have hpp : parseQ R = .ok (q, n) := by rw [hRe, hn]; exact parse_print hyc R2
            obtain ⟨_, _, _, hn0, hnl⟩ := parse_may hpp
            have H1 : Hid (∀ u, Below wr.heap.size wr u → Calls Tryz.prog 10 #[.string (bs R)] u fun e w' => ∃ ad c, e = .returned (.tuple #[.agg (rqC q ad c), .int .i64 (n : Nat), .int .i64 0]) ∧ SlH w' q.hs ad c ∧ Below u.heap.size u w') := Lib.hid fun u hb => by
              have := HP.out R (by omega) u (HWQ.out.trans (hb.mono HWQ.out.size))
              rw [v_ok hpp] at this
              exact this
            have HN1 : Hid (decide ((n : Int) < 1) = false) := Lib.hid (by simp; omega)
            have HN2 : Hid (decide (((bs R).size : Int) < (n : Int)) = false) := Lib.hid (by rw [zR]; simp; omega)
            have hxr : (bs R).extract n (bs R).size = bs R2 := by rw [bs_size, bs_cut, List.take_of_length_le (Nat.le_refl _), hRe, hn, List.drop_left]
            have hxr2 : (bs R).extract n R.length = bs R2 := by rw [← zR]; exact hxr
            have hnlz : (n : Int) ≤ (R.length : Int) := by omega
            have HR2 := Lib.hid hR2
            have HR2l : Hid (R2.length ≤ 400000) := Lib.hid (by rw [hRe, List.length_append] at hRl; omega)
            have HCY0 : Hid (∀ u, Below wp.heap.size wp u → ∀ k v, (qvC (q, ad1, c1))[k]? = some v → u.cell? ⟨b4, f4 + j * 4 + k, none⟩ = some v) := Lib.hid fun u hb k v hk => by
              have := hcy k v hk
              exact (hb.cell (p := ⟨b4, f4 + j * 4 + k, none⟩) (World.block_lt_of_cell? wp _ this)).trans this
            have HSL1 : Hid (SlH wp q.hs ad1 c1) := Lib.hid ((HHS.out _ hyl).grown HBR.out)
            clear hcy hrow4 had4 hn hpp hR2 hRe hy hyl hyc
            go_upto_region 15 with (first
              | (go_at_call 10; refine (H1.out _ hR.below).mono ?_; rintro e wa10 ⟨ad10, c10, rfl, hs10, hb10⟩; have hR := hR.call hb10)
              | (refine wQ_alloc (cs := zQ) rfl _ (by rfl) (by exact hR) zero_rq ?_; intro g10 wb10 hR hbw10 hgw10)
              | (refine wQ_store rfl _ _ _ (by rfl) (by exact hR) g10 rfl (rqC q ad10 c10) (by rfl) _ _ _ (by repeat (first | exact Pick.here | apply Pick.there)) (by kernel_rfl) (by kernel_rfl) (by kernel_rfl) ?_; intro wc10 hR hsm10 hsz10))
            have hkp10 : ∀ k, k < wa10.heap.size → wc10.heap[k]? = wa10.heap[k]? := fun k hk => by rw [hsm10 k (by omega), hbw10.block k hk]
            have HS10 : Hid (SlH wc10 (q : Rq).hs ad10 c10) := Lib.hid (hs10.keep hkp10)
            clear hs10 hb10 hbw10 hgw10 hsm10 hsz10 hkp10
            have HWC := Lib.hid (HQ.out.trans (hR.below.mono HQ.out.size))
            have HCY : Hid (∀ u, Below wc10.heap.size wc10 u → ∀ k v, (qvC (q, ad1, c1))[k]? = some v → u.cell? ⟨b4, f4 + j * 4 + k, none⟩ = some v) := Lib.hid fun u hb => HCY0.out u (HWC.out.trans (hb.mono HWC.out.size))
            have HSM : Hid (∀ u, Below wc10.heap.size wc10 u → Calls Tryz.prog 12 #[.agg (rqC q ad10 c10), .agg (rqC q ad1 c1)] u (RW (Is (.bool true)) u)) := Lib.hid fun u hb => (same_any q ad10 ad1 c10 c1 u (HS10.out.grown hb) (HSL1.out.grown (HWC.out.trans (hb.mono HWC.out.size)))).mono fun _ _ h => rw_below h
            refine wp_region_softG 20 (by kernel_rfl) (by kernel_rfl) (by rfl) hR ?_
            refine g_move (R := Is (.int .i64 0)) (by rfl) (stb_is _) (by exact fun _ _ _ h => h) ?_
            refine g_bin (v := .int .i64 0) (u := .int .i64 0) (r := .bool false) (by rfl) (by exact fun _ _ _ h => h) (by exact fun _ _ _ h => h) (by rfl) (bin_nee) ?_
            refine g_move (R := Is (.bool false)) (by rfl) (stb_is _) (by exact fun _ _ _ h => h) ?_
            refine g_move (R := Is (.int .i64 (n : Nat))) (by rfl) (stb_is _) (by exact fun _ _ _ h => h) ?_
            refine g_bin (v := .int .i64 (n : Nat)) (u := .int .i64 1) (r := .bool false) (by rfl) (by exact fun _ _ _ h => h) (by exact fun _ _ _ h => h) (by rfl) (fun W => bin_lti _ _ HN1.out W) ?_
            refine g_pick (b := false) (R := Is (.bool false)) (by rfl) (by exact fun _ _ _ h => h) (stb_is _) (by exact fun _ _ _ h => h) ?_
            refine g_move (R := Is (.bool false)) (by rfl) (stb_is _) (by exact fun _ _ _ h => h) ?_
            refine g_move (R := Is (.int .i64 (n : Nat))) (by rfl) (stb_is _) (by exact fun _ _ _ h => h) ?_
            refine g_move (R := Is (.string (bs R))) (by rfl) (stb_is _) (by exact fun _ _ _ h => h) ?_
            refine g_lens (s := bs R) (by rfl) (by exact fun _ _ _ h => h) ?_
            refine g_bin (v := .int .i64 (n : Nat)) (u := .int .i64 ((bs R).size : Nat)) (r := .bool false) (by rfl) (by exact fun _ _ _ h => h) (by exact fun _ _ _ h => h) (by rfl) (fun W => bin_gti _ _ HN2.out W) ?_
            refine g_pick (b := false) (R := Is (.bool false)) (by rfl) (by exact fun _ _ _ h => h) (stb_is _) (by exact fun _ _ _ h => h) ?_
            refine g_move (R := Is (.bool false)) (by rfl) (stb_is _) (by exact fun _ _ _ h => h) ?_
            refine g_ldw (g := g10) (cs := (rqC q ad10 c10)) (R := Is (.agg (rqC q ad10 c10))) (by rfl) (by exact fun _ _ _ h => h) (by repeat (first | exact List.Mem.head _ | refine List.Mem.tail _ ?_)) Tryz.underlying24 rfl rq_inf (stb_is _) (by exact fun _ _ => rfl) ?_
            refine g_move (R := Is (.slice (some ⟨b4, f4, none⟩) a.length c4)) (by rfl) (stb_is _) (by exact fun _ _ _ h => h) ?_
            refine g_move (R := Is (.int .i64 (j : Int))) (by rfl) (stb_is _) (by exact fun _ _ _ h => h) ?_
            refine g_ixq (b := b4) (f := f4) (len := a.length) (c := c4) (i := j) (by rfl) (by exact fun _ _ _ h => h) (by exact fun _ _ _ h => h) (hlt) ?_
            refine g_ldq (g := b4) (k := f4 + j * 4) (vs := qvC (q, ad1, c1)) (by rfl) (by exact fun _ _ _ h => h) rfl (HCY.out) ?_
            refine g_callK (f := 12) (xs := [.tmp 75, .tmp 79]) [.agg (rqC q ad10 c10), .agg (rqC q ad1 c1)] (R := Is (.bool true)) (by rfl) Tryz.func12 (by kernel_rfl) rfl (stb_is _) ⟨(by exact fun _ _ _ h => h), (by exact fun _ _ _ h => h), trivial⟩ (HSM.out) ?_
            refine g_not (b := true) (by rfl) (by exact fun _ _ _ h => h) ?_
            intro w15 hR15 hb15 v62 h62 v63 h63 v64 h64 v65 h65 v66 h66 v67 h67 v68 h68 v69 h69 v70 h70 v71 h71 v72 h72 v73 h73 v74 h74 v75 h75 v76 h76 v77 h77 v78 h78 v79 h79 v80 h80 v81 h81
            simp only [softEnd, Act.put, List.setIfInBounds_toArray, List.set_cons_succ, List.set_cons_zero, List.drop_succ_cons, List.drop_zero]
            obtain rfl : v74 = .bool false := h74
            obtain rfl : v81 = .bool false := h81
            clear h62 h63 h64 h65 h66 h67 h68 h69 h70 h71 h72 h73 h75 h76 h77 h78 h79 h80
            have HQ2 := Lib.hid (HQ.out.trans (hR15.below.mono HQ.out.size))
            go_wp2_with fail
            go_roundg (a.length - (j + 1))
            case measure => omega
            case rel => exact ⟨j + 1, R2, by omega, rfl, by first | rfl | rw [hxr] | rw [hxr2], by go_num, HR2l.out, HR2.out, HQ2.out⟩
          · have hltz : ¬ (j : Int) < (a.length : Int) := by omega
            have hR0 : R = [] := by rw [HR.out, List.drop_eq_nil_of_le (by omega)]; rfl
            have hq1 : ((bs R).toList == []) = true := by rw [bs_list, hR0]; rfl
            have H1 : Hid (∀ u, Below wr.heap.size wr u → Calls Tryz.prog 10 #[.string (bs R)] u fun e w' => ∃ ad c, e = .returned (.tuple #[.agg (rqC zRq ad c), .int .i64 (0 : Nat), .int .i64 150]) ∧ SlH w' zRq.hs ad c ∧ Below u.heap.size u w') := Lib.hid fun u hb => by
              have := HP.out R (by omega) u (HWQ.out.trans (hb.mono HWQ.out.size))
              rw [v_err (show parseQ R = .error 150 by rw [hR0]; exact parse_nil)] at this
              exact this
            clear hR0
            go_upto_region 19 with (first
              | (go_at_call 10; refine (H1.out _ hR.below).mono ?_; rintro e wa13 ⟨ad13, c13, rfl, hs13, hb13⟩; have hR := hR.call hb13)
              | (refine wQ_alloc (cs := zQ) rfl _ (by rfl) (by exact hR) zero_rq ?_; intro g13 wb13 hR hbw13 hgw13)
              | (refine wQ_store rfl _ _ _ (by rfl) (by exact hR) g13 rfl (rqC zRq ad13 c13) (by rfl) _ _ _ (by repeat (first | exact Pick.here | apply Pick.there)) (by kernel_rfl) (by kernel_rfl) (by kernel_rfl) ?_; intro wc13 hR hsm13 hsz13))
            have hkp13 : ∀ k, k < wa13.heap.size → wc13.heap[k]? = wa13.heap[k]? := fun k hk => by rw [hsm13 k (by omega), hbw13.block k hk]
            have HS13 : Hid (SlH wc13 (zRq : Rq).hs ad13 c13) := Lib.hid (hs13.keep hkp13)
            clear hs13 hb13 hbw13 hgw13 hsm13 hsz13 hkp13
            have HBW := Lib.hid (HWQ.out.trans (hR.below.mono HWQ.out.size))
            have HFX : Hid (∀ u, Below wc13.heap.size wc13 u → Calls Tryz.prog 18 #[] u (RetB true u)) := Lib.hid fun u hb => fixed_any u (HGW.out.below (HBW.out.trans (hb.mono HBW.out.size)))
            go_wp2_with (go_at_call 18; refine (HFX.out _ (Below.refl _ _)).mono ?_; rintro e w17 ⟨rfl, hb17⟩)
            go_ret
            exact ⟨rfl, HBW.out.trans (hb17.mono HBW.out.size)⟩
    · have hltz0 : ¬ (i : Int) < (l.length : Int) := by omega
      obtain ⟨wp, hwp⟩ : ∃ wp, wp = wr := ⟨_, rfl⟩
      subst hwp
      have htx := HO.out.text cap
      have HTT := HT
      obtain ⟨ad4, c4, rfl, hs4⟩ := slc_of_own HOQ.out
      have HS4 := Lib.hid hs4
      have HBR := HB
      have HA := HAC
      have ha20 : a.length ≤ 20 := by have := HAL.out; omega
      have HTL := HTlen
      clear hs4
      go_upto_region 12 with fail
      clear htx
      go_loopg [8, 9] a.length (fun gg s8 s9 wr => ∃ (j : Nat) (R : Bs), j ≤ a.length ∧ gg = a.length - j ∧ s8 = .string (bs R) ∧ s9 = .int .i64 (j : Nat) ∧ R.length ≤ 400000 ∧ Aside (R = txtsQ (a.drop j)) ∧ Aside (Below wp.heap.size wp wr))
      case atStart => exact ⟨0, T, Nat.zero_le _, rfl, rfl, rfl, by have := HTL.out; omega, by rw [List.drop_zero]; exact HTT.out, Below.refl _ _⟩
      case round =>
        obtain ⟨j, R, hja, rfl, rfl, rfl, hRl, HR, HQ⟩ := hrel
        have zR := bs_size R
        have hR := Rws.start wr
        have HWQ : Hid (Below w.heap.size w wr) := Lib.hid (HBR.out.trans (HQ.out.mono HBR.out.size))
        by_cases hlt : j < a.length
        · have hltz : (j : Int) < (a.length : Int) := by omega
          obtain ⟨y, hy⟩ : ∃ y, a[j]? = some y := ⟨a[j], List.getElem?_eq_getElem hlt⟩
          obtain ⟨hyl, hyc⟩ := HA.out y (List.mem_of_getElem? hy)
          obtain ⟨R2, hR2⟩ : ∃ R2, R2 = txtsQ (a.drop (j + 1)) := ⟨_, rfl⟩
          have hRe : R = txtQ y ++ R2 := by rw [HR.out, txtsQ_cons hy, hR2]
          obtain ⟨_, _, b4, f4, had4, hrow4⟩ := HS4.out
          obtain rfl : ad4 = some ⟨b4, f4, none⟩ := by rcases had4 with h | ⟨_, h⟩; exact h; omega
          have hcy := rq_row hrow4 hy
          obtain ⟨q, ad1, c1⟩ := y
          obtain ⟨n, hn⟩ : ∃ n, n = (txtQ (q, ad1, c1)).length := ⟨_, rfl⟩
          have hpp : parseQ R = .ok (q, n) := by rw [hRe, hn]; exact parse_print hyc R2
          obtain ⟨_, _, _, hn0, hnl⟩ := parse_may hpp
          have H1 : Hid (∀ u, Below wr.heap.size wr u → Calls Tryz.prog 10 #[.string (bs R)] u fun e w' => ∃ ad c, e = .returned (.tuple #[.agg (rqC q ad c), .int .i64 (n : Nat), .int .i64 0]) ∧ SlH w' q.hs ad c ∧ Below u.heap.size u w') := Lib.hid fun u hb => by
            have := HP.out R (by omega) u (HWQ.out.trans (hb.mono HWQ.out.size))
            rw [v_ok hpp] at this
            exact this
          have HN1 : Hid (decide ((n : Int) < 1) = false) := Lib.hid (by simp; omega)
          have HN2 : Hid (decide (((bs R).size : Int) < (n : Int)) = false) := Lib.hid (by rw [zR]; simp; omega)
          have hxr : (bs R).extract n (bs R).size = bs R2 := by rw [bs_size, bs_cut, List.take_of_length_le (Nat.le_refl _), hRe, hn, List.drop_left]
          have hxr2 : (bs R).extract n R.length = bs R2 := by rw [← zR]; exact hxr
          have hnlz : (n : Int) ≤ (R.length : Int) := by omega
          have HR2 := Lib.hid hR2
          have HR2l : Hid (R2.length ≤ 400000) := Lib.hid (by rw [hRe, List.length_append] at hRl; omega)
          have HCY0 : Hid (∀ u, Below wp.heap.size wp u → ∀ k v, (qvC (q, ad1, c1))[k]? = some v → u.cell? ⟨b4, f4 + j * 4 + k, none⟩ = some v) := Lib.hid fun u hb k v hk => by
            have := hcy k v hk
            exact (hb.cell (p := ⟨b4, f4 + j * 4 + k, none⟩) (World.block_lt_of_cell? wp _ this)).trans this
          have HSL1 : Hid (SlH wp q.hs ad1 c1) := Lib.hid ((HHS.out _ hyl).grown HBR.out)
          clear hcy hrow4 had4 hn hpp hR2 hRe hy hyl hyc
          go_upto_region 15 with (first
            | (go_at_call 10; refine (H1.out _ hR.below).mono ?_; rintro e wa10 ⟨ad10, c10, rfl, hs10, hb10⟩; have hR := hR.call hb10)
            | (refine wQ_alloc (cs := zQ) rfl _ (by rfl) (by exact hR) zero_rq ?_; intro g10 wb10 hR hbw10 hgw10)
            | (refine wQ_store rfl _ _ _ (by rfl) (by exact hR) g10 rfl (rqC q ad10 c10) (by rfl) _ _ _ (by repeat (first | exact Pick.here | apply Pick.there)) (by kernel_rfl) (by kernel_rfl) (by kernel_rfl) ?_; intro wc10 hR hsm10 hsz10))
          have hkp10 : ∀ k, k < wa10.heap.size → wc10.heap[k]? = wa10.heap[k]? := fun k hk => by rw [hsm10 k (by omega), hbw10.block k hk]
          have HS10 : Hid (SlH wc10 (q : Rq).hs ad10 c10) := Lib.hid (hs10.keep hkp10)
          clear hs10 hb10 hbw10 hgw10 hsm10 hsz10 hkp10
          have HWC := Lib.hid (HQ.out.trans (hR.below.mono HQ.out.size))
          have HCY : Hid (∀ u, Below wc10.heap.size wc10 u → ∀ k v, (qvC (q, ad1, c1))[k]? = some v → u.cell? ⟨b4, f4 + j * 4 + k, none⟩ = some v) := Lib.hid fun u hb => HCY0.out u (HWC.out.trans (hb.mono HWC.out.size))
          have HSM : Hid (∀ u, Below wc10.heap.size wc10 u → Calls Tryz.prog 12 #[.agg (rqC q ad10 c10), .agg (rqC q ad1 c1)] u (RW (Is (.bool true)) u)) := Lib.hid fun u hb => (same_any q ad10 ad1 c10 c1 u (HS10.out.grown hb) (HSL1.out.grown (HWC.out.trans (hb.mono HWC.out.size)))).mono fun _ _ h => rw_below h
          refine wp_region_softG 20 (by kernel_rfl) (by kernel_rfl) (by rfl) hR ?_
          refine g_move (R := Is (.int .i64 0)) (by rfl) (stb_is _) (by exact fun _ _ _ h => h) ?_
          refine g_bin (v := .int .i64 0) (u := .int .i64 0) (r := .bool false) (by rfl) (by exact fun _ _ _ h => h) (by exact fun _ _ _ h => h) (by rfl) (bin_nee) ?_
          refine g_move (R := Is (.bool false)) (by rfl) (stb_is _) (by exact fun _ _ _ h => h) ?_
          refine g_move (R := Is (.int .i64 (n : Nat))) (by rfl) (stb_is _) (by exact fun _ _ _ h => h) ?_
          refine g_bin (v := .int .i64 (n : Nat)) (u := .int .i64 1) (r := .bool false) (by rfl) (by exact fun _ _ _ h => h) (by exact fun _ _ _ h => h) (by rfl) (fun W => bin_lti _ _ HN1.out W) ?_
          refine g_pick (b := false) (R := Is (.bool false)) (by rfl) (by exact fun _ _ _ h => h) (stb_is _) (by exact fun _ _ _ h => h) ?_
          refine g_move (R := Is (.bool false)) (by rfl) (stb_is _) (by exact fun _ _ _ h => h) ?_
          refine g_move (R := Is (.int .i64 (n : Nat))) (by rfl) (stb_is _) (by exact fun _ _ _ h => h) ?_
          refine g_move (R := Is (.string (bs R))) (by rfl) (stb_is _) (by exact fun _ _ _ h => h) ?_
          refine g_lens (s := bs R) (by rfl) (by exact fun _ _ _ h => h) ?_
          refine g_bin (v := .int .i64 (n : Nat)) (u := .int .i64 ((bs R).size : Nat)) (r := .bool false) (by rfl) (by exact fun _ _ _ h => h) (by exact fun _ _ _ h => h) (by rfl) (fun W => bin_gti _ _ HN2.out W) ?_
          refine g_pick (b := false) (R := Is (.bool false)) (by rfl) (by exact fun _ _ _ h => h) (stb_is _) (by exact fun _ _ _ h => h) ?_
          refine g_move (R := Is (.bool false)) (by rfl) (stb_is _) (by exact fun _ _ _ h => h) ?_
          refine g_ldw (g := g10) (cs := (rqC q ad10 c10)) (R := Is (.agg (rqC q ad10 c10))) (by rfl) (by exact fun _ _ _ h => h) (by repeat (first | exact List.Mem.head _ | refine List.Mem.tail _ ?_)) Tryz.underlying24 rfl rq_inf (stb_is _) (by exact fun _ _ => rfl) ?_
          refine g_move (R := Is (.slice (some ⟨b4, f4, none⟩) a.length c4)) (by rfl) (stb_is _) (by exact fun _ _ _ h => h) ?_
          refine g_move (R := Is (.int .i64 (j : Int))) (by rfl) (stb_is _) (by exact fun _ _ _ h => h) ?_
          refine g_ixq (b := b4) (f := f4) (len := a.length) (c := c4) (i := j) (by rfl) (by exact fun _ _ _ h => h) (by exact fun _ _ _ h => h) (hlt) ?_
          refine g_ldq (g := b4) (k := f4 + j * 4) (vs := qvC (q, ad1, c1)) (by rfl) (by exact fun _ _ _ h => h) rfl (HCY.out) ?_
          refine g_callK (f := 12) (xs := [.tmp 75, .tmp 79]) [.agg (rqC q ad10 c10), .agg (rqC q ad1 c1)] (R := Is (.bool true)) (by rfl) Tryz.func12 (by kernel_rfl) rfl (stb_is _) ⟨(by exact fun _ _ _ h => h), (by exact fun _ _ _ h => h), trivial⟩ (HSM.out) ?_
          refine g_not (b := true) (by rfl) (by exact fun _ _ _ h => h) ?_
          intro w15 hR15 hb15 v62 h62 v63 h63 v64 h64 v65 h65 v66 h66 v67 h67 v68 h68 v69 h69 v70 h70 v71 h71 v72 h72 v73 h73 v74 h74 v75 h75 v76 h76 v77 h77 v78 h78 v79 h79 v80 h80 v81 h81
          simp only [softEnd, Act.put, List.setIfInBounds_toArray, List.set_cons_succ, List.set_cons_zero, List.drop_succ_cons, List.drop_zero]
          obtain rfl : v74 = .bool false := h74
          obtain rfl : v81 = .bool false := h81
          clear h62 h63 h64 h65 h66 h67 h68 h69 h70 h71 h72 h73 h75 h76 h77 h78 h79 h80
          have HQ2 := Lib.hid (HQ.out.trans (hR15.below.mono HQ.out.size))
          go_wp2_with fail
          go_roundg (a.length - (j + 1))
          case measure => omega
          case rel => exact ⟨j + 1, R2, by omega, rfl, by first | rfl | rw [hxr] | rw [hxr2], by go_num, HR2l.out, HR2.out, HQ2.out⟩
        · have hltz : ¬ (j : Int) < (a.length : Int) := by omega
          have hR0 : R = [] := by rw [HR.out, List.drop_eq_nil_of_le (by omega)]; rfl
          have hq1 : ((bs R).toList == []) = true := by rw [bs_list, hR0]; rfl
          have H1 : Hid (∀ u, Below wr.heap.size wr u → Calls Tryz.prog 10 #[.string (bs R)] u fun e w' => ∃ ad c, e = .returned (.tuple #[.agg (rqC zRq ad c), .int .i64 (0 : Nat), .int .i64 150]) ∧ SlH w' zRq.hs ad c ∧ Below u.heap.size u w') := Lib.hid fun u hb => by
            have := HP.out R (by omega) u (HWQ.out.trans (hb.mono HWQ.out.size))
            rw [v_err (show parseQ R = .error 150 by rw [hR0]; exact parse_nil)] at this
            exact this
          clear hR0
          go_upto_region 19 with (first
            | (go_at_call 10; refine (H1.out _ hR.below).mono ?_; rintro e wa13 ⟨ad13, c13, rfl, hs13, hb13⟩; have hR := hR.call hb13)
            | (refine wQ_alloc (cs := zQ) rfl _ (by rfl) (by exact hR) zero_rq ?_; intro g13 wb13 hR hbw13 hgw13)
            | (refine wQ_store rfl _ _ _ (by rfl) (by exact hR) g13 rfl (rqC zRq ad13 c13) (by rfl) _ _ _ (by repeat (first | exact Pick.here | apply Pick.there)) (by kernel_rfl) (by kernel_rfl) (by kernel_rfl) ?_; intro wc13 hR hsm13 hsz13))
          have hkp13 : ∀ k, k < wa13.heap.size → wc13.heap[k]? = wa13.heap[k]? := fun k hk => by rw [hsm13 k (by omega), hbw13.block k hk]
          have HS13 : Hid (SlH wc13 (zRq : Rq).hs ad13 c13) := Lib.hid (hs13.keep hkp13)
          clear hs13 hb13 hbw13 hgw13 hsm13 hsz13 hkp13
          have HBW := Lib.hid (HWQ.out.trans (hR.below.mono HWQ.out.size))
          have HFX : Hid (∀ u, Below wc13.heap.size wc13 u → Calls Tryz.prog 18 #[] u (RetB true u)) := Lib.hid fun u hb => fixed_any u (HGW.out.below (HBW.out.trans (hb.mono HBW.out.size)))
          go_wp2_with (go_at_call 18; refine (HFX.out _ (Below.refl _ _)).mono ?_; rintro e w17 ⟨rfl, hb17⟩)
          go_ret
          exact ⟨rfl, HBW.out.trans (hb17.mono HBW.out.size)⟩
end Go.Proofs.YtipjkjcmceeaeaaGreatDoor.httpPipes
