/- HttpBack: the law's walk. -/
import Derived.Test.YtipjkjcmceeaeaaGreatDoorYLawKit
import Derived.Test.YtipjkjcmceeaeaaGreatDoorYPChk
import Derived.Test.YtipjkjcmceeaeaaGreatDoorYBack2
import Derived.Deep.CutBlock
namespace Go.Proofs.YtipjkjcmceeaeaaGreatDoor.httpBack
open Go.RowKit

theorem v_ok {s : Bs} {q : Rq} {n : Nat} (h : parseQ s = .ok (q, n)) : parseV s = (q, n, 0) := by unfold parseV; rw [h]
theorem v_err {s : Bs} {e : Int} (h : parseQ s = .error e) : parseV s = (zRq, 0, e) := by unfold parseV; rw [h]
set_option maxRecDepth 100000 in
set_option maxHeartbeats 8000000 in
theorem law_any (q : Rq) (ad : Option Addr) (c : Nat) (more : Bs) (ct : Int) (w : World) (hs : SlH w q.hs ad c) (hq : SmallQ q) (hm : more.length ≤ 1048576) (hct1 : -9223372036854775808 ≤ ct) (hct2 : ct ≤ 9223372036854775807) (hgw : Gw w) : Calls Tryz.prog 6 #[rqv q ad c, .string (bs more), .int .i64 ct] w (RetB true w) := by
  have hMX := MX_eq
  have hR := Rws.start w
  have HP : Hid (∀ x : Bs, x.length ≤ 16777216 → ∀ u, Below w.heap.size w u → Calls Tryz.prog 10 #[.string (bs x)] u (ParsePost (parseV x) u)) := Lib.hid fun x hx u hb => Parse_any x u hx (hgw.below hb)
  have HPR : Hid (∀ u, Below w.heap.size w u → Calls Tryz.prog 19 #[rqv q ad c] u (RetSE (printS q) u)) := Lib.hid fun u hb => Print_any q ad c u (hs.grown hb) hq (hgw.below hb)
  have HGW := Lib.hid hgw
  have HS0 := Lib.hid hs
  have zm := bs_size more
  obtain ⟨PS, hPS⟩ : ∃ PS, PS = printS q := ⟨_, rfl⟩
  rw [← hPS] at HPR
  obtain ⟨S, E⟩ := PS
  have HPS := Lib.hid hPS
  have HPR2 : Hid (∀ u, Below w.heap.size w u → Calls Tryz.prog 19 #[rqv q ad c] u fun e w' => e = .returned (.tuple #[.string (bs S), .int .i64 E]) ∧ Below u.heap.size u w') := Lib.hid HPR.out
  clear hPS hgw hs HPR
  go_enter Tryz.func6, Tryz.ntmps6
  go_upto_region 2 with (first
    | (refine wpList_box_rws rfl _ _ (by rfl) (by exact hR) (rqC q ad c) rfl ?_; intro g3 w1 hR)
    | (refine wpList_load_rws rfl _ _ (by rfl) (by exact hR) g3 rfl _ _ (by repeat (first | exact List.Mem.head _ | refine List.Mem.tail _ ?_)) _ Tryz.underlying24 rfl (by kernel_rfl) ?_)
    | (go_at_call 19; refine (HPR2.out _ hR.below).mono ?_; rintro e w2 ⟨rfl, hb2⟩; have hR := hR.call hb2))
  have hBP := hR.below
  have HB1 := Lib.hid hBP
  go_upto_if 29 with fail
  go_cut [] (fun wx => Aside (Below w.heap.size w wx))
  case first =>
    by_cases hc : checkS q = 0
    · have hPS := HPS.out
      have e1 : S = headS q ++ q.b ∧ E = 0 := by
        unfold printS at hPS
        rw [if_pos hc] at hPS
        exact ⟨congrArg Prod.fst hPS, congrArg Prod.snd hPS⟩
      obtain ⟨e1, rfl⟩ := e1
      have hSl : S.length ≤ 16384 := by
        obtain ⟨_, _, h3, h4⟩ := check_parts hc
        rw [e1, List.length_append]; omega
      have hS0 : 0 < S.length := by
        rw [e1, List.length_append]
        have : 0 < (headS q).length := by unfold headS; simp only [List.length_append, List.length_cons]; omega
        omega
      have zS := bs_size S
      obtain ⟨SM, hSM⟩ : ∃ SM, SM = S ++ more := ⟨_, rfl⟩
      have hap : bs S ++ bs more = bs SM := by rw [hSM]; exact bs_app2 _ _
      have hSMl : SM.length = S.length + more.length := by rw [hSM, List.length_append]
      have hcutq : ∀ k, k < S.length → parseQ (S.take k) = .error 150 := fun k hk => by rw [e1] at hk ⊢; exact parse_cut hc hk
      have HCQ := Lib.hid hcutq
      have H1 : Hid (∀ u, Below w.heap.size w u → Calls Tryz.prog 10 #[.string (bs SM)] u fun e w' => ∃ ad c, e = .returned (.tuple #[.agg (rqC q ad c), .int .i64 (S.length : Nat), .int .i64 0]) ∧ SlH w' q.hs ad c ∧ Below u.heap.size u w') := Lib.hid fun u hb => by
        have := HP.out SM (by omega) u hb
        rw [v_ok (show parseQ SM = .ok (q, S.length) by rw [hSM, e1]; exact parse_print hc more)] at this
        exact this
      have hSMl2 := hSMl
      have hct0 : 0 ≤ ct ∨ ct < 0 := by omega
      have hsn : ((S.length : Int) == 0) = false := beq_eq_false_iff_ne.2 (by omega)
      have hsn2 : ¬ (S.length : Int) = 0 := by omega
      clear hPS hSM hcutq e1 hc
      go_upto_region 4 with (first
        | (go_at_call 10; refine (H1.out _ hR.below).mono ?_; rintro e wa9 ⟨ad9, c9, rfl, hs9, hb9⟩; have hR := hR.call hb9)
        | (refine wQ_alloc (cs := zQ) rfl _ (by rfl) (by exact hR) zero_rq ?_; intro g9 wb9 hR hbw9 hgw9)
        | (refine wQ_store rfl _ _ _ (by rfl) (by exact hR) g9 rfl (rqC q ad9 c9) (by rfl) _ _ _ (by repeat (first | exact Pick.here | apply Pick.there)) (by kernel_rfl) (by kernel_rfl) (by kernel_rfl) ?_; intro wc9 hR hsm9 hsz9))
      have hkp9 : ∀ k, k < wa9.heap.size → wc9.heap[k]? = wa9.heap[k]? := fun k hk => by rw [hsm9 k (by omega), hbw9.block k hk]
      have HS9 : Hid (SlH wc9 q.hs ad9 c9) := Lib.hid (hs9.keep hkp9)
      have HSQ : Hid (SlH wc9 q.hs ad c) := Lib.hid (((HS0.out.grown hBP).keep (fun k hk => hb9.block k hk)).keep hkp9)
      have HSM : Hid (∀ u, Below wc9.heap.size wc9 u → Calls Tryz.prog 12 #[.agg (rqC q ad9 c9), .agg (rqC q ad c)] u (RetB true u)) := Lib.hid fun u hb => same_any q ad9 ad c9 c u (HS9.out.grown hb) (HSQ.out.grown hb)
      clear hs9 hb9 hbw9 hgw9 hsm9 hsz9 hkp9
      have m0 : wc9.cell? ⟨g9, 0, none⟩ = some (.string (bs q.m)) := hR.cellAt (g := g9) (by repeat (first | exact List.Mem.head _ | refine List.Mem.tail _ ?_)) 0 rfl
      have m1 : wc9.cell? ⟨g9, 1, none⟩ = some (.string (bs q.t)) := hR.cellAt (g := g9) (by repeat (first | exact List.Mem.head _ | refine List.Mem.tail _ ?_)) 1 rfl
      have m2 : wc9.cell? ⟨g9, 2, none⟩ = some (.slice ad9 q.hs.length c9) := hR.cellAt (g := g9) (by repeat (first | exact List.Mem.head _ | refine List.Mem.tail _ ?_)) 2 rfl
      have m3 : wc9.cell? ⟨g9, 3, none⟩ = some (.string (bs q.b)) := hR.cellAt (g := g9) (by repeat (first | exact List.Mem.head _ | refine List.Mem.tail _ ?_)) 3 rfl
      have d0 : wc9.cell? ⟨g3, 0, none⟩ = some (.string (bs q.m)) := hR.cellAt (g := g3) (by repeat (first | exact List.Mem.head _ | refine List.Mem.tail _ ?_)) 0 rfl
      have d1 : wc9.cell? ⟨g3, 1, none⟩ = some (.string (bs q.t)) := hR.cellAt (g := g3) (by repeat (first | exact List.Mem.head _ | refine List.Mem.tail _ ?_)) 1 rfl
      have d2 : wc9.cell? ⟨g3, 2, none⟩ = some (.slice ad q.hs.length c) := hR.cellAt (g := g3) (by repeat (first | exact List.Mem.head _ | refine List.Mem.tail _ ?_)) 2 rfl
      have d3 : wc9.cell? ⟨g3, 3, none⟩ = some (.string (bs q.b)) := hR.cellAt (g := g3) (by repeat (first | exact List.Mem.head _ | refine List.Mem.tail _ ?_)) 3 rfl
      go_upto_region 6 with (go_at_call 12; refine (HSM.out _ (Below.refl _ _)).mono ?_; rintro e w5 ⟨rfl, hb5⟩; have hR := hR.call hb5)
      clear m0 m1 m2 m3 d0 d1 d2 d3 hap hSMl
      rcases hct0 with hpos | hneg
      · obtain ⟨a, rfl⟩ : ∃ a : Nat, ct = (a : Int) := ⟨ct.toNat, by omega⟩
        obtain ⟨k2, hk2⟩ : ∃ k2, k2 = a % S.length := ⟨_, rfl⟩
        have hk2l : k2 < S.length := by rw [hk2]; exact Nat.mod_lt _ hS0
        have htm : Int.tmod (a : Int) (S.length : Int) = (k2 : Int) := by rw [hk2]; rfl
        have hk2n : ¬ (k2 : Int) < 0 := by omega
        clear hk2 hpos
        go_upto_region 9 with fail
        clear htm
        obtain ⟨C, hC⟩ : ∃ C, C = S.take k2 := ⟨_, rfl⟩
        have xk : (bs S).extract 0 k2 = bs C := by rw [bs_cut, List.drop_zero, hC]
        have hCl : C.length ≤ 16777216 := by rw [hC, List.length_take]; omega
        have hk2z : (k2 : Int) ≤ (S.length : Int) := by omega
        have H2 : Hid (∀ u, Below w.heap.size w u → Calls Tryz.prog 10 #[.string (bs C)] u fun e w' => ∃ ad c, e = .returned (.tuple #[.agg (rqC zRq ad c), .int .i64 (0 : Nat), .int .i64 150]) ∧ SlH w' zRq.hs ad c ∧ Below u.heap.size u w') := Lib.hid fun u hb => by
          have := HP.out C (by omega) u hb
          rw [v_err (by rw [hC]; exact HCQ.out k2 hk2l)] at this
          exact this
        clear hC
        go_upto_region 10 with (first
          | (go_at_call 10; refine (H2.out _ hR.below).mono ?_; rintro e wa12 ⟨ad12, c12, rfl, hs12, hb12⟩; have hR := hR.call hb12)
          | (refine wQ_alloc (cs := zQ) rfl _ (by rfl) (by exact hR) zero_rq ?_; intro g12 wb12 hR hbw12 hgw12)
          | (refine wQ_store rfl _ _ _ (by rfl) (by exact hR) g12 rfl (rqC zRq ad12 c12) (by rfl) _ _ _ (by repeat (first | exact Pick.here | apply Pick.there)) (by kernel_rfl) (by kernel_rfl) (by kernel_rfl) ?_; intro wc12 hR hsm12 hsz12))
        go_wp2_with fail
        go_meet
        exact hR.below
      · obtain ⟨a, ha⟩ : ∃ a : Nat, ct = -(a : Int) := ⟨(-ct).toNat, by omega⟩
        obtain ⟨j, hj⟩ : ∃ j, j = a % S.length := ⟨_, rfl⟩
        have hjl : j < S.length := by rw [hj]; exact Nat.mod_lt _ hS0
        have htm : Int.tmod ct (S.length : Int) = -(j : Int) := by rw [ha, hj, Int.neg_tmod]; rfl
        by_cases hj0 : j = 0
        · obtain ⟨k2, hk2⟩ : ∃ k2, k2 = 0 := ⟨_, rfl⟩
          have hk2l : k2 < S.length := by omega
          have htm2 : Int.tmod ct (S.length : Int) = (k2 : Int) := by rw [htm, hj0, hk2]; rfl
          have hk2n : ¬ (k2 : Int) < 0 := by omega
          clear htm hj hj0 hk2 ha hjl
          go_upto_region 9 with fail
          clear htm2
          obtain ⟨C, hC⟩ : ∃ C, C = S.take k2 := ⟨_, rfl⟩
          have xk : (bs S).extract 0 k2 = bs C := by rw [bs_cut, List.drop_zero, hC]
          have hCl : C.length ≤ 16777216 := by rw [hC, List.length_take]; omega
          have hk2z : (k2 : Int) ≤ (S.length : Int) := by omega
          have H2 : Hid (∀ u, Below w.heap.size w u → Calls Tryz.prog 10 #[.string (bs C)] u fun e w' => ∃ ad c, e = .returned (.tuple #[.agg (rqC zRq ad c), .int .i64 (0 : Nat), .int .i64 150]) ∧ SlH w' zRq.hs ad c ∧ Below u.heap.size u w') := Lib.hid fun u hb => by
            have := HP.out C (by omega) u hb
            rw [v_err (by rw [hC]; exact HCQ.out k2 hk2l)] at this
            exact this
          clear hC
          go_upto_region 10 with (first
            | (go_at_call 10; refine (H2.out _ hR.below).mono ?_; rintro e wa12 ⟨ad12, c12, rfl, hs12, hb12⟩; have hR := hR.call hb12)
            | (refine wQ_alloc (cs := zQ) rfl _ (by rfl) (by exact hR) zero_rq ?_; intro g12 wb12 hR hbw12 hgw12)
            | (refine wQ_store rfl _ _ _ (by rfl) (by exact hR) g12 rfl (rqC zRq ad12 c12) (by rfl) _ _ _ (by repeat (first | exact Pick.here | apply Pick.there)) (by kernel_rfl) (by kernel_rfl) (by kernel_rfl) ?_; intro wc12 hR hsm12 hsz12))
          go_wp2_with fail
          go_meet
          exact hR.below
        · obtain ⟨k2, hk2⟩ : ∃ k2, k2 = S.length - j := ⟨_, rfl⟩
          have hk2l : k2 < S.length := by omega
          have hjn : -(j : Int) < 0 := by omega
          have hk2e : -(j : Int) + (S.length : Int) = (k2 : Int) := by omega
          clear hj hj0 hk2 ha
          go_upto_region 9 with fail
          clear htm hk2e hjn
          obtain ⟨C, hC⟩ : ∃ C, C = S.take k2 := ⟨_, rfl⟩
          have xk : (bs S).extract 0 k2 = bs C := by rw [bs_cut, List.drop_zero, hC]
          have hCl : C.length ≤ 16777216 := by rw [hC, List.length_take]; omega
          have hk2z : (k2 : Int) ≤ (S.length : Int) := by omega
          have H2 : Hid (∀ u, Below w.heap.size w u → Calls Tryz.prog 10 #[.string (bs C)] u fun e w' => ∃ ad c, e = .returned (.tuple #[.agg (rqC zRq ad c), .int .i64 (0 : Nat), .int .i64 150]) ∧ SlH w' zRq.hs ad c ∧ Below u.heap.size u w') := Lib.hid fun u hb => by
            have := HP.out C (by omega) u hb
            rw [v_err (by rw [hC]; exact HCQ.out k2 hk2l)] at this
            exact this
          clear hC
          go_upto_region 10 with (first
            | (go_at_call 10; refine (H2.out _ hR.below).mono ?_; rintro e wa12 ⟨ad12, c12, rfl, hs12, hb12⟩; have hR := hR.call hb12)
            | (refine wQ_alloc (cs := zQ) rfl _ (by rfl) (by exact hR) zero_rq ?_; intro g12 wb12 hR hbw12 hgw12)
            | (refine wQ_store rfl _ _ _ (by rfl) (by exact hR) g12 rfl (rqC zRq ad12 c12) (by rfl) _ _ _ (by repeat (first | exact Pick.here | apply Pick.there)) (by kernel_rfl) (by kernel_rfl) (by kernel_rfl) ?_; intro wc12 hR hsm12 hsz12))
          go_wp2_with fail
          go_meet
          exact hR.below
    · have hPS := HPS.out
      have e1 : E = checkS q := by
        unfold printS at hPS
        rw [if_neg hc] at hPS
        exact congrArg Prod.snd hPS
      have hEz : (E == 0) = false := by rw [e1]; simpa using hc
      clear hPS e1 hc
      go_wp2_with fail
      go_meet
      exact HB1.out
  case rest =>
  have HB0 := Lib.hid hcut.out
  clear hcut hR hBP HB1 HPR2 HPS HS0
  have hR := Rws.start wc
  cases hp : parseQ more with
  | error E0 =>
    have hee := parse_err hp
    have H3 : Hid (∀ u, Below w.heap.size w u → Calls Tryz.prog 10 #[.string (bs more)] u fun e w' => ∃ ad c, e = .returned (.tuple #[.agg (rqC zRq ad c), .int .i64 (0 : Nat), .int .i64 E0]) ∧ SlH w' zRq.hs ad c ∧ Below u.heap.size u w') := Lib.hid fun u hb => by
      have := HP.out more (by omega) u hb
      rw [v_err hp] at this
      exact this
    clear hp HP
    rcases hee with rfl | rfl | rfl | rfl
    all_goals
      go_upto_region 13 with (first
        | (go_at_call 10; refine (H3.out _ (HB0.out.trans (hR.below.mono HB0.out.size))).mono ?_; rintro e wa15 ⟨ad15, c15, rfl, hs15, hb15⟩; have hR := hR.call hb15)
        | (refine wQ_alloc (cs := zQ) rfl _ (by rfl) (by exact hR) zero_rq ?_; intro g15 wb15 hR hbw15 hgw15)
        | (refine wQ_store rfl _ _ _ (by rfl) (by exact hR) g15 rfl (rqC zRq ad15 c15) (by rfl) _ _ _ (by repeat (first | exact Pick.here | apply Pick.there)) (by kernel_rfl) (by kernel_rfl) (by kernel_rfl) ?_; intro wc15 hR hsm15 hsz15))
      have hkp15 : ∀ k, k < wa15.heap.size → wc15.heap[k]? = wa15.heap[k]? := fun k hk => by rw [hsm15 k (by omega), hbw15.block k hk]
      have HS15 : Hid (SlH wc15 zRq.hs ad15 c15) := Lib.hid (hs15.keep hkp15)
      clear hs15 hb15 hbw15 hgw15 hsm15 hsz15 hkp15
      have HSM : Hid (∀ u, Below wc15.heap.size wc15 u → Calls Tryz.prog 12 #[.agg (rqC zRq ad15 c15), .agg #[.string ⟨#[]⟩, .string ⟨#[]⟩, .slice none 0 0, .string ⟨#[]⟩]] u (RetB true u)) := Lib.hid fun u hb => same_any zRq ad15 none c15 0 u (HS15.out.grown hb) (slh_nil u)
      have HBW := Lib.hid hR.below
      have HFX : Hid (∀ u, Below wc15.heap.size wc15 u → Calls Tryz.prog 18 #[] u (RetB true u)) := Lib.hid fun u hb => fixed_any u (HGW.out.below (HB0.out.trans ((HBW.out.trans (hb.mono HBW.out.size)).mono HB0.out.size)))
      have m0 : wc15.cell? ⟨g15, 0, none⟩ = some (.string (bs zRq.m)) := hR.cellAt (g := g15) (by repeat (first | exact List.Mem.head _ | refine List.Mem.tail _ ?_)) 0 rfl
      have m1 : wc15.cell? ⟨g15, 1, none⟩ = some (.string (bs zRq.t)) := hR.cellAt (g := g15) (by repeat (first | exact List.Mem.head _ | refine List.Mem.tail _ ?_)) 1 rfl
      have m2 : wc15.cell? ⟨g15, 2, none⟩ = some (.slice ad15 zRq.hs.length c15) := hR.cellAt (g := g15) (by repeat (first | exact List.Mem.head _ | refine List.Mem.tail _ ?_)) 2 rfl
      have m3 : wc15.cell? ⟨g15, 3, none⟩ = some (.string (bs zRq.b)) := hR.cellAt (g := g15) (by repeat (first | exact List.Mem.head _ | refine List.Mem.tail _ ?_)) 3 rfl
      go_wp2_with (first
        | (go_at_call 12; refine (HSM.out _ (Below.refl _ _)).mono ?_; rintro e w16 ⟨rfl, hb16⟩)
        | (go_at_call 18; refine (HFX.out _ hb16).mono ?_; rintro e w17 ⟨rfl, hb17⟩))
      go_ret
      exact ⟨rfl, HB0.out.trans ((HBW.out.trans ((hb16.trans (hb17.mono hb16.size)).mono HBW.out.size)).mono HB0.out.size)⟩
  | ok p =>
    obtain ⟨Q, n⟩ := p
    have hsmall := parse_small hp
    obtain ⟨hfm, h31, hb8, hn0, hnl⟩ := parse_may hp
    have hn0z : (0 : Int) < (n : Int) := by omega
    have hnlz : (n : Int) ≤ (more.length : Int) := by omega
    have H3 : Hid (∀ u, Below w.heap.size w u → Calls Tryz.prog 10 #[.string (bs more)] u fun e w' => ∃ ad c, e = .returned (.tuple #[.agg (rqC Q ad c), .int .i64 (n : Nat), .int .i64 0]) ∧ SlH w' Q.hs ad c ∧ Below u.heap.size u w') := Lib.hid fun u hb => by
      have := HP.out more (by omega) u hb
      rw [v_ok hp] at this
      exact this
    have HP2 : Hid (∀ ad c u, Below w.heap.size w u → SlH u Q.hs ad c → Calls Tryz.prog 19 #[.agg (rqC Q ad c)] u (RetSE (printS Q) u)) := Lib.hid fun ad c u hb hs => Print_any Q ad c u hs hsmall (HGW.out.below hb)
    rcases check_of hfm h31 with hc | hc
    · obtain ⟨T, hT⟩ : ∃ T, T = headS Q ++ Q.b := ⟨_, rfl⟩
      have hTl : T.length ≤ 16384 := by
        obtain ⟨_, _, h3, h4⟩ := check_parts hc
        rw [hT, List.length_append]; omega
      have zT := bs_size T
      have hpp : parseQ T = .ok (Q, T.length) := by
        have := parse_print hc []
        rw [List.append_nil, ← hT] at this
        exact this
      have HP3 : Hid (∀ ad c u, Below w.heap.size w u → SlH u Q.hs ad c → Calls Tryz.prog 19 #[.agg (rqC Q ad c)] u fun e w' => e = .returned (.tuple #[.string (bs T), .int .i64 0]) ∧ Below u.heap.size u w') := Lib.hid fun ad c u hb hs => by
        have := HP2.out ad c u hb hs
        rw [show printS Q = (T, 0) by unfold printS; rw [if_pos hc, hT]] at this
        exact this
      have H4 : Hid (∀ u, Below w.heap.size w u → Calls Tryz.prog 10 #[.string (bs T)] u fun e w' => ∃ ad c, e = .returned (.tuple #[.agg (rqC Q ad c), .int .i64 (T.length : Nat), .int .i64 0]) ∧ SlH w' Q.hs ad c ∧ Below u.heap.size u w') := Lib.hid fun u hb => by
        have := HP.out T (by omega) u hb
        rw [v_ok hpp] at this
        exact this
      clear hp HP hpp hT hc HP2 hsmall hfm
      go_upto_region 13 with (first
        | (go_at_call 10; refine (H3.out _ (HB0.out.trans (hR.below.mono HB0.out.size))).mono ?_; rintro e wa15 ⟨ad15, c15, rfl, hs15, hb15⟩; have hR := hR.call hb15)
        | (refine wQ_alloc (cs := zQ) rfl _ (by rfl) (by exact hR) zero_rq ?_; intro g15 wb15 hR hbw15 hgw15)
        | (refine wQ_store rfl _ _ _ (by rfl) (by exact hR) g15 rfl (rqC Q ad15 c15) (by rfl) _ _ _ (by repeat (first | exact Pick.here | apply Pick.there)) (by kernel_rfl) (by kernel_rfl) (by kernel_rfl) ?_; intro wc15 hR hsm15 hsz15))
      have hkp15 : ∀ k, k < wa15.heap.size → wc15.heap[k]? = wa15.heap[k]? := fun k hk => by rw [hsm15 k (by omega), hbw15.block k hk]
      have HS15 : Hid (SlH wc15 Q.hs ad15 c15) := Lib.hid (hs15.keep hkp15)
      clear hs15 hb15 hbw15 hgw15 hsm15 hsz15 hkp15
      go_upto_region 16 with (first
        | (refine wpList_load_rws rfl _ _ (by rfl) (by exact hR) g15 rfl _ _ (by repeat (first | exact List.Mem.head _ | refine List.Mem.tail _ ?_)) _ Tryz.underlying24 rfl (by kernel_rfl) ?_)
        | (go_at_call 19; refine (HP3.out _ _ _ (HB0.out.trans (hR.below.mono HB0.out.size)) HS15.out).mono ?_; rintro e w18 ⟨rfl, hb18⟩; have hR := hR.call hb18)) 
      have HS15b := Lib.hid (HS15.out.grown hb18)
      clear hb18
      go_upto_region 19 with (first
        | (go_at_call 10; refine (H4.out _ (HB0.out.trans (hR.below.mono HB0.out.size))).mono ?_; rintro e wa20 ⟨ad20, c20, rfl, hs20, hb20⟩; have hR := hR.call hb20)
        | (refine wQ_alloc (cs := zQ) rfl _ (by rfl) (by exact hR) zero_rq ?_; intro g20 wb20 hR hbw20 hgw20)
        | (refine wQ_store rfl _ _ _ (by rfl) (by exact hR) g20 rfl (rqC Q ad20 c20) (by rfl) _ _ _ (by repeat (first | exact Pick.here | apply Pick.there)) (by kernel_rfl) (by kernel_rfl) (by kernel_rfl) ?_; intro wc20 hR hsm20 hsz20))
      have hkp20 : ∀ k, k < wa20.heap.size → wc20.heap[k]? = wa20.heap[k]? := fun k hk => by rw [hsm20 k (by omega), hbw20.block k hk]
      have HS20 : Hid (SlH wc20 Q.hs ad20 c20) := Lib.hid (hs20.keep hkp20)
      have HS15c : Hid (SlH wc20 Q.hs ad15 c15) := Lib.hid ((HS15b.out.keep (fun k hk => hb20.block k hk)).keep hkp20)
      clear hs20 hb20 hbw20 hgw20 hsm20 hsz20 hkp20
      have HSM : Hid (∀ u, Below wc20.heap.size wc20 u → Calls Tryz.prog 12 #[.agg (rqC Q ad20 c20), .agg (rqC Q ad15 c15)] u (RetB true u)) := Lib.hid fun u hb => same_any Q ad20 ad15 c20 c15 u (HS20.out.grown hb) (HS15c.out.grown hb)
      have HBW := Lib.hid hR.below
      have HFX : Hid (∀ u, Below wc20.heap.size wc20 u → Calls Tryz.prog 18 #[] u (RetB true u)) := Lib.hid fun u hb => fixed_any u (HGW.out.below (HB0.out.trans ((HBW.out.trans (hb.mono HBW.out.size)).mono HB0.out.size)))
      have m0 : wc20.cell? ⟨g20, 0, none⟩ = some (.string (bs Q.m)) := hR.cellAt (g := g20) (by repeat (first | exact List.Mem.head _ | refine List.Mem.tail _ ?_)) 0 rfl
      have m1 : wc20.cell? ⟨g20, 1, none⟩ = some (.string (bs Q.t)) := hR.cellAt (g := g20) (by repeat (first | exact List.Mem.head _ | refine List.Mem.tail _ ?_)) 1 rfl
      have m2 : wc20.cell? ⟨g20, 2, none⟩ = some (.slice ad20 Q.hs.length c20) := hR.cellAt (g := g20) (by repeat (first | exact List.Mem.head _ | refine List.Mem.tail _ ?_)) 2 rfl
      have m3 : wc20.cell? ⟨g20, 3, none⟩ = some (.string (bs Q.b)) := hR.cellAt (g := g20) (by repeat (first | exact List.Mem.head _ | refine List.Mem.tail _ ?_)) 3 rfl
      have d0 : wc20.cell? ⟨g15, 0, none⟩ = some (.string (bs Q.m)) := hR.cellAt (g := g15) (by repeat (first | exact List.Mem.head _ | refine List.Mem.tail _ ?_)) 0 rfl
      have d1 : wc20.cell? ⟨g15, 1, none⟩ = some (.string (bs Q.t)) := hR.cellAt (g := g15) (by repeat (first | exact List.Mem.head _ | refine List.Mem.tail _ ?_)) 1 rfl
      have d2 : wc20.cell? ⟨g15, 2, none⟩ = some (.slice ad15 Q.hs.length c15) := hR.cellAt (g := g15) (by repeat (first | exact List.Mem.head _ | refine List.Mem.tail _ ?_)) 2 rfl
      have d3 : wc20.cell? ⟨g15, 3, none⟩ = some (.string (bs Q.b)) := hR.cellAt (g := g15) (by repeat (first | exact List.Mem.head _ | refine List.Mem.tail _ ?_)) 3 rfl
      go_wp2_with (first
        | (go_at_call 12; refine (HSM.out _ (Below.refl _ _)).mono ?_; rintro e w21 ⟨rfl, hb21⟩)
        | (go_at_call 18; refine (HFX.out _ hb21).mono ?_; rintro e w22 ⟨rfl, hb22⟩))
      go_ret
      exact ⟨rfl, HB0.out.trans ((HBW.out.trans ((hb21.trans (hb22.mono hb21.size)).mono HBW.out.size)).mono HB0.out.size)⟩
    · have HP3 : Hid (∀ ad c u, Below w.heap.size w u → SlH u Q.hs ad c → Calls Tryz.prog 19 #[.agg (rqC Q ad c)] u fun e w' => e = .returned (.tuple #[.string ⟨#[]⟩, .int .i64 152]) ∧ Below u.heap.size u w') := Lib.hid fun ad c u hb hs => by
        have := HP2.out ad c u hb hs
        rw [show printS Q = ([], 152) by unfold printS; rw [if_neg (by rw [hc]; decide), hc]] at this
        exact this
      clear hp HP hc HP2 hsmall hfm
      go_upto_region 13 with (first
        | (go_at_call 10; refine (H3.out _ (HB0.out.trans (hR.below.mono HB0.out.size))).mono ?_; rintro e wa15 ⟨ad15, c15, rfl, hs15, hb15⟩; have hR := hR.call hb15)
        | (refine wQ_alloc (cs := zQ) rfl _ (by rfl) (by exact hR) zero_rq ?_; intro g15 wb15 hR hbw15 hgw15)
        | (refine wQ_store rfl _ _ _ (by rfl) (by exact hR) g15 rfl (rqC Q ad15 c15) (by rfl) _ _ _ (by repeat (first | exact Pick.here | apply Pick.there)) (by kernel_rfl) (by kernel_rfl) (by kernel_rfl) ?_; intro wc15 hR hsm15 hsz15))
      have hkp15 : ∀ k, k < wa15.heap.size → wc15.heap[k]? = wa15.heap[k]? := fun k hk => by rw [hsm15 k (by omega), hbw15.block k hk]
      have HS15 : Hid (SlH wc15 Q.hs ad15 c15) := Lib.hid (hs15.keep hkp15)
      clear hs15 hb15 hbw15 hgw15 hsm15 hsz15 hkp15
      go_upto_region 16 with (first
        | (refine wpList_load_rws rfl _ _ (by rfl) (by exact hR) g15 rfl _ _ (by repeat (first | exact List.Mem.head _ | refine List.Mem.tail _ ?_)) _ Tryz.underlying24 rfl (by kernel_rfl) ?_)
        | (go_at_call 19; refine (HP3.out _ _ _ (HB0.out.trans (hR.below.mono HB0.out.size)) HS15.out).mono ?_; rintro e w18 ⟨rfl, hb18⟩; have hR := hR.call hb18))
      have HBW := Lib.hid hR.below
      have HFX : Hid (∀ u, Below w18.heap.size w18 u → Calls Tryz.prog 18 #[] u (RetB true u)) := Lib.hid fun u hb => fixed_any u (HGW.out.below (HB0.out.trans ((HBW.out.trans (hb.mono HBW.out.size)).mono HB0.out.size)))
      go_wp2_with (go_at_call 18; refine (HFX.out _ (Below.refl _ _)).mono ?_; rintro e w22 ⟨rfl, hb22⟩)
      go_ret
      exact ⟨rfl, HB0.out.trans ((HBW.out.trans (hb22.mono HBW.out.size)).mono HB0.out.size)⟩
end Go.Proofs.YtipjkjcmceeaeaaGreatDoor.httpBack
