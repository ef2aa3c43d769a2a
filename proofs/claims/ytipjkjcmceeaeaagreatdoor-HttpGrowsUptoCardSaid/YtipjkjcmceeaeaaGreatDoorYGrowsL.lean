/- HttpGrows: the law's walk. -/
import Derived.Test.YtipjkjcmceeaeaaGreatDoorYLawKit
import Derived.Test.YtipjkjcmceeaeaaGreatDoorYGrow
namespace Go.Proofs.YtipjkjcmceeaeaaGreatDoor.httpGrows
open Go.RowKit

theorem v_ok {s : Bs} {q : Rq} {n : Nat} (h : parseQ s = .ok (q, n)) : parseV s = (q, n, 0) := by unfold parseV; rw [h]
theorem v_err {s : Bs} {e : Int} (h : parseQ s = .error e) : parseV s = (zRq, 0, e) := by unfold parseV; rw [h]
set_option maxRecDepth 100000 in
set_option maxHeartbeats 8000000 in
theorem law_any (s more : Bs) (w : World) (hs : s.length ≤ 1048576) (hm : more.length ≤ 1048576) (hgw : Gw w) : Calls Tryz.prog 4 #[.string (bs s), .string (bs more)] w (RetB true w) := by
  have hMX := MX_eq
  have hR := Rws.start w
  have HP : Hid (∀ x : Bs, x.length ≤ 16777216 → ∀ u, Below w.heap.size w u → Calls Tryz.prog 10 #[.string (bs x)] u (ParsePost (parseV x) u)) := Lib.hid fun x hx u hb => Parse_any x u hx (hgw.below hb)
  have HGW := Lib.hid hgw
  obtain ⟨sm, hsm⟩ : ∃ sm, sm = s ++ more := ⟨_, rfl⟩
  have hsl : sm.length = s.length + more.length := by rw [hsm, List.length_append]
  have hap : bs s ++ bs more = bs sm := by rw [hsm]; exact bs_app2 _ _
  have zs := bs_size s
  have zm := bs_size more
  clear hgw
  cases h1 : parseQ s with
  | ok p =>
    obtain ⟨Q, n⟩ := p
    have h2 : parseQ sm = .ok (Q, n) := by rw [hsm]; exact parse_app more h1
    have H1 : Hid (∀ u, Below w.heap.size w u → Calls Tryz.prog 10 #[.string (bs s)] u fun e w' => ∃ ad c, e = .returned (.tuple #[.agg (rqC Q ad c), .int .i64 (n : Nat), .int .i64 0]) ∧ SlH w' Q.hs ad c ∧ Below u.heap.size u w') := Lib.hid fun u hb => by
      have := HP.out s (by omega) u hb
      rw [v_ok h1] at this
      exact this
    have H2 : Hid (∀ u, Below w.heap.size w u → Calls Tryz.prog 10 #[.string (bs sm)] u fun e w' => ∃ ad c, e = .returned (.tuple #[.agg (rqC Q ad c), .int .i64 (n : Nat), .int .i64 0]) ∧ SlH w' Q.hs ad c ∧ Below u.heap.size u w') := Lib.hid fun u hb => by
      have := HP.out sm (by omega) u hb
      rw [v_ok h2] at this
      exact this
    clear h1 h2 HP hsm hsl
    go_enter Tryz.func4, Tryz.ntmps4
    go_upto_region 2 with (first
      | (go_at_call 10; refine (H1.out _ hR.below).mono ?_; rintro e wa1 ⟨ad1, c1, rfl, hs1, hb1⟩; have hR := hR.call hb1)
      | (refine wQ_alloc (cs := zQ) rfl _ (by rfl) (by exact hR) zero_rq ?_; intro g5 wb1 hR hbw1 hgw1)
      | (refine wQ_store rfl _ _ _ (by rfl) (by exact hR) g5 rfl (rqC Q ad1 c1) (by rfl) _ _ _ (by repeat (first | exact Pick.here | apply Pick.there)) (by kernel_rfl) (by kernel_rfl) (by kernel_rfl) ?_; intro wc1 hR hsm1 hsz1))
    have hkp1 : ∀ k, k < wa1.heap.size → wc1.heap[k]? = wa1.heap[k]? := fun k hk => by rw [hsm1 k (by omega), hbw1.block k hk]
    have HS1 : Hid (SlH wc1 Q.hs ad1 c1) := Lib.hid (hs1.keep hkp1)
    clear hs1 hb1 hbw1 hgw1 hsm1 hsz1 hkp1
    go_upto_region 3 with (first
      | (go_at_call 10; refine (H2.out _ hR.below).mono ?_; rintro e wa2 ⟨ad2, c2, rfl, hs2, hb2⟩; have hR := hR.call hb2)
      | (refine wQ_alloc (cs := zQ) rfl _ (by rfl) (by exact hR) zero_rq ?_; intro g8 wb2 hR hbw2 hgw2)
      | (refine wQ_store rfl _ _ _ (by rfl) (by exact hR) g8 rfl (rqC Q ad2 c2) (by rfl) _ _ _ (by repeat (first | exact Pick.here | apply Pick.there)) (by kernel_rfl) (by kernel_rfl) (by kernel_rfl) ?_; intro wc2 hR hsm2 hsz2))
    have hkp2 : ∀ k, k < wa2.heap.size → wc2.heap[k]? = wa2.heap[k]? := fun k hk => by rw [hsm2 k (by omega), hbw2.block k hk]
    have HS2 : Hid (SlH wc2 Q.hs ad2 c2) := Lib.hid (hs2.keep hkp2)
    have HS1b : Hid (SlH wc2 Q.hs ad1 c1) := Lib.hid ((HS1.out.keep (fun k hk => hb2.block k hk)).keep hkp2)
    clear hs2 hb2 hbw2 hgw2 hsm2 hsz2 hkp2
    have HSM : Hid (∀ u, Below wc2.heap.size wc2 u → Calls Tryz.prog 12 #[.agg (rqC Q ad1 c1), .agg (rqC Q ad2 c2)] u (RetB true u)) := Lib.hid fun u hb => same_any Q ad1 ad2 c1 c2 u (HS1b.out.grown hb) (HS2.out.grown hb)
    have m0 : wc2.cell? ⟨g5, 0, none⟩ = some (.string (bs Q.m)) := hR.cellAt (g := g5) (by repeat (first | exact List.Mem.head _ | refine List.Mem.tail _ ?_)) 0 rfl
    have m1 : wc2.cell? ⟨g5, 1, none⟩ = some (.string (bs Q.t)) := hR.cellAt (g := g5) (by repeat (first | exact List.Mem.head _ | refine List.Mem.tail _ ?_)) 1 rfl
    have m2 : wc2.cell? ⟨g5, 2, none⟩ = some (.slice ad1 Q.hs.length c1) := hR.cellAt (g := g5) (by repeat (first | exact List.Mem.head _ | refine List.Mem.tail _ ?_)) 2 rfl
    have m3 : wc2.cell? ⟨g5, 3, none⟩ = some (.string (bs Q.b)) := hR.cellAt (g := g5) (by repeat (first | exact List.Mem.head _ | refine List.Mem.tail _ ?_)) 3 rfl
    have d0 : wc2.cell? ⟨g8, 0, none⟩ = some (.string (bs Q.m)) := hR.cellAt (g := g8) (by repeat (first | exact List.Mem.head _ | refine List.Mem.tail _ ?_)) 0 rfl
    have d1 : wc2.cell? ⟨g8, 1, none⟩ = some (.string (bs Q.t)) := hR.cellAt (g := g8) (by repeat (first | exact List.Mem.head _ | refine List.Mem.tail _ ?_)) 1 rfl
    have d2 : wc2.cell? ⟨g8, 2, none⟩ = some (.slice ad2 Q.hs.length c2) := hR.cellAt (g := g8) (by repeat (first | exact List.Mem.head _ | refine List.Mem.tail _ ?_)) 2 rfl
    have d3 : wc2.cell? ⟨g8, 3, none⟩ = some (.string (bs Q.b)) := hR.cellAt (g := g8) (by repeat (first | exact List.Mem.head _ | refine List.Mem.tail _ ?_)) 3 rfl
    have HBW := Lib.hid hR.below
    have HFX : Hid (∀ u, Below wc2.heap.size wc2 u → Calls Tryz.prog 18 #[] u (RetB true u)) := Lib.hid fun u hb => fixed_any u (HGW.out.below (HBW.out.trans (hb.mono HBW.out.size)))
    go_wp2_with (first
      | (go_at_call 12; refine (HSM.out _ (Below.refl _ _)).mono ?_; rintro e w5 ⟨rfl, hb5⟩)
      | (go_at_call 18; refine (HFX.out _ hb5).mono ?_; rintro e w6 ⟨rfl, hb6⟩))
    go_ret
    exact ⟨rfl, HBW.out.trans ((hb5.trans (hb6.mono hb5.size)).mono HBW.out.size)⟩
  | error E0 =>
    by_cases he : E0 = 150
    · subst he
      cases h2 : parseQ sm with
      | error e' =>
        have H1 : Hid (∀ u, Below w.heap.size w u → Calls Tryz.prog 10 #[.string (bs s)] u fun e w' => ∃ ad c, e = .returned (.tuple #[.agg (rqC zRq ad c), .int .i64 (0 : Nat), .int .i64 150]) ∧ SlH w' zRq.hs ad c ∧ Below u.heap.size u w') := Lib.hid fun u hb => by
          have := HP.out s (by omega) u hb
          rw [v_err h1] at this
          exact this
        have H2 : Hid (∀ u, Below w.heap.size w u → Calls Tryz.prog 10 #[.string (bs sm)] u fun e w' => ∃ ad c, e = .returned (.tuple #[.agg (rqC zRq ad c), .int .i64 (0 : Nat), .int .i64 e']) ∧ SlH w' zRq.hs ad c ∧ Below u.heap.size u w') := Lib.hid fun u hb => by
          have := HP.out sm (by omega) u hb
          rw [v_err h2] at this
          exact this
        have hee := parse_err h2
        clear h1 h2 HP hsm hsl
        rcases hee with rfl | rfl | rfl | rfl
        all_goals
          go_enter Tryz.func4, Tryz.ntmps4
          go_upto_region 2 with (first
            | (go_at_call 10; refine (H1.out _ hR.below).mono ?_; rintro e wa1 ⟨ad1, c1, rfl, hs1, hb1⟩; have hR := hR.call hb1)
            | (refine wQ_alloc (cs := zQ) rfl _ (by rfl) (by exact hR) zero_rq ?_; intro g5 wb1 hR hbw1 hgw1)
            | (refine wQ_store rfl _ _ _ (by rfl) (by exact hR) g5 rfl (rqC zRq ad1 c1) (by rfl) _ _ _ (by repeat (first | exact Pick.here | apply Pick.there)) (by kernel_rfl) (by kernel_rfl) (by kernel_rfl) ?_; intro wc1 hR hsm1 hsz1))
          have hkp1 : ∀ k, k < wa1.heap.size → wc1.heap[k]? = wa1.heap[k]? := fun k hk => by rw [hsm1 k (by omega), hbw1.block k hk]
          have HS1 : Hid (SlH wc1 zRq.hs ad1 c1) := Lib.hid (hs1.keep hkp1)
          clear hs1 hb1 hbw1 hgw1 hsm1 hsz1 hkp1
          go_upto_region 3 with (first
            | (go_at_call 10; refine (H2.out _ hR.below).mono ?_; rintro e wa2 ⟨ad2, c2, rfl, hs2, hb2⟩; have hR := hR.call hb2)
            | (refine wQ_alloc (cs := zQ) rfl _ (by rfl) (by exact hR) zero_rq ?_; intro g8 wb2 hR hbw2 hgw2)
            | (refine wQ_store rfl _ _ _ (by rfl) (by exact hR) g8 rfl (rqC zRq ad2 c2) (by rfl) _ _ _ (by repeat (first | exact Pick.here | apply Pick.there)) (by kernel_rfl) (by kernel_rfl) (by kernel_rfl) ?_; intro wc2 hR hsm2 hsz2))
          have hkp2 : ∀ k, k < wa2.heap.size → wc2.heap[k]? = wa2.heap[k]? := fun k hk => by rw [hsm2 k (by omega), hbw2.block k hk]
          have HS2 : Hid (SlH wc2 zRq.hs ad2 c2) := Lib.hid (hs2.keep hkp2)
          have HS1b : Hid (SlH wc2 zRq.hs ad1 c1) := Lib.hid ((HS1.out.keep (fun k hk => hb2.block k hk)).keep hkp2)
          clear hs2 hb2 hbw2 hgw2 hsm2 hsz2 hkp2
          have HBW := Lib.hid hR.below
          have HFX : Hid (∀ u, Below wc2.heap.size wc2 u → Calls Tryz.prog 18 #[] u (RetB true u)) := Lib.hid fun u hb => fixed_any u (HGW.out.below (HBW.out.trans (hb.mono HBW.out.size)))
          go_wp2_with (go_at_call 18; refine (HFX.out _ (Below.refl _ _)).mono ?_; rintro e w6 ⟨rfl, hb6⟩)
          go_ret
          exact ⟨rfl, HBW.out.trans (hb6.mono HBW.out.size)⟩
      | ok p =>
        obtain ⟨Q, n⟩ := p
        have hlt : s.length < n := parse_app_short more h1 (by rw [← hsm]; exact h2)
        have hltz : (s.length : Int) < (n : Int) := by omega
        have H1 : Hid (∀ u, Below w.heap.size w u → Calls Tryz.prog 10 #[.string (bs s)] u fun e w' => ∃ ad c, e = .returned (.tuple #[.agg (rqC zRq ad c), .int .i64 (0 : Nat), .int .i64 150]) ∧ SlH w' zRq.hs ad c ∧ Below u.heap.size u w') := Lib.hid fun u hb => by
          have := HP.out s (by omega) u hb
          rw [v_err h1] at this
          exact this
        have H2 : Hid (∀ u, Below w.heap.size w u → Calls Tryz.prog 10 #[.string (bs sm)] u fun e w' => ∃ ad c, e = .returned (.tuple #[.agg (rqC Q ad c), .int .i64 (n : Nat), .int .i64 0]) ∧ SlH w' Q.hs ad c ∧ Below u.heap.size u w') := Lib.hid fun u hb => by
          have := HP.out sm (by omega) u hb
          rw [v_ok h2] at this
          exact this
        clear h1 h2 HP hsm hsl hlt
        go_enter Tryz.func4, Tryz.ntmps4
        go_upto_region 2 with (first
          | (go_at_call 10; refine (H1.out _ hR.below).mono ?_; rintro e wa1 ⟨ad1, c1, rfl, hs1, hb1⟩; have hR := hR.call hb1)
          | (refine wQ_alloc (cs := zQ) rfl _ (by rfl) (by exact hR) zero_rq ?_; intro g5 wb1 hR hbw1 hgw1)
          | (refine wQ_store rfl _ _ _ (by rfl) (by exact hR) g5 rfl (rqC zRq ad1 c1) (by rfl) _ _ _ (by repeat (first | exact Pick.here | apply Pick.there)) (by kernel_rfl) (by kernel_rfl) (by kernel_rfl) ?_; intro wc1 hR hsm1 hsz1))
        have hkp1 : ∀ k, k < wa1.heap.size → wc1.heap[k]? = wa1.heap[k]? := fun k hk => by rw [hsm1 k (by omega), hbw1.block k hk]
        have HS1 : Hid (SlH wc1 zRq.hs ad1 c1) := Lib.hid (hs1.keep hkp1)
        clear hs1 hb1 hbw1 hgw1 hsm1 hsz1 hkp1
        go_upto_region 3 with (first
          | (go_at_call 10; refine (H2.out _ hR.below).mono ?_; rintro e wa2 ⟨ad2, c2, rfl, hs2, hb2⟩; have hR := hR.call hb2)
          | (refine wQ_alloc (cs := zQ) rfl _ (by rfl) (by exact hR) zero_rq ?_; intro g8 wb2 hR hbw2 hgw2)
          | (refine wQ_store rfl _ _ _ (by rfl) (by exact hR) g8 rfl (rqC Q ad2 c2) (by rfl) _ _ _ (by repeat (first | exact Pick.here | apply Pick.there)) (by kernel_rfl) (by kernel_rfl) (by kernel_rfl) ?_; intro wc2 hR hsm2 hsz2))
        have hkp2 : ∀ k, k < wa2.heap.size → wc2.heap[k]? = wa2.heap[k]? := fun k hk => by rw [hsm2 k (by omega), hbw2.block k hk]
        have HS2 : Hid (SlH wc2 Q.hs ad2 c2) := Lib.hid (hs2.keep hkp2)
        have HS1b : Hid (SlH wc2 zRq.hs ad1 c1) := Lib.hid ((HS1.out.keep (fun k hk => hb2.block k hk)).keep hkp2)
        clear hs2 hb2 hbw2 hgw2 hsm2 hsz2 hkp2
        have HBW := Lib.hid hR.below
        have HFX : Hid (∀ u, Below wc2.heap.size wc2 u → Calls Tryz.prog 18 #[] u (RetB true u)) := Lib.hid fun u hb => fixed_any u (HGW.out.below (HBW.out.trans (hb.mono HBW.out.size)))
        go_wp2_with (go_at_call 18; refine (HFX.out _ (Below.refl _ _)).mono ?_; rintro e w6 ⟨rfl, hb6⟩)
        go_ret
        exact ⟨rfl, HBW.out.trans (hb6.mono HBW.out.size)⟩
    · have h2 : parseQ sm = .error E0 := by rw [hsm]; exact parse_app_err more h1 he
      have H1 : Hid (∀ u, Below w.heap.size w u → Calls Tryz.prog 10 #[.string (bs s)] u fun e w' => ∃ ad c, e = .returned (.tuple #[.agg (rqC zRq ad c), .int .i64 (0 : Nat), .int .i64 E0]) ∧ SlH w' zRq.hs ad c ∧ Below u.heap.size u w') := Lib.hid fun u hb => by
        have := HP.out s (by omega) u hb
        rw [v_err h1] at this
        exact this
      have H2 : Hid (∀ u, Below w.heap.size w u → Calls Tryz.prog 10 #[.string (bs sm)] u fun e w' => ∃ ad c, e = .returned (.tuple #[.agg (rqC zRq ad c), .int .i64 (0 : Nat), .int .i64 E0]) ∧ SlH w' zRq.hs ad c ∧ Below u.heap.size u w') := Lib.hid fun u hb => by
        have := HP.out sm (by omega) u hb
        rw [v_err h2] at this
        exact this
      have hee : E0 = 151 ∨ E0 = 152 ∨ E0 = 153 := (parse_err h1).resolve_left he
      clear h1 h2 HP hsm hsl he
      rcases hee with rfl | rfl | rfl
      all_goals
        go_enter Tryz.func4, Tryz.ntmps4
        go_upto_region 2 with (first
          | (go_at_call 10; refine (H1.out _ hR.below).mono ?_; rintro e wa1 ⟨ad1, c1, rfl, hs1, hb1⟩; have hR := hR.call hb1)
          | (refine wQ_alloc (cs := zQ) rfl _ (by rfl) (by exact hR) zero_rq ?_; intro g5 wb1 hR hbw1 hgw1)
          | (refine wQ_store rfl _ _ _ (by rfl) (by exact hR) g5 rfl (rqC zRq ad1 c1) (by rfl) _ _ _ (by repeat (first | exact Pick.here | apply Pick.there)) (by kernel_rfl) (by kernel_rfl) (by kernel_rfl) ?_; intro wc1 hR hsm1 hsz1))
        have hkp1 : ∀ k, k < wa1.heap.size → wc1.heap[k]? = wa1.heap[k]? := fun k hk => by rw [hsm1 k (by omega), hbw1.block k hk]
        have HS1 : Hid (SlH wc1 zRq.hs ad1 c1) := Lib.hid (hs1.keep hkp1)
        clear hs1 hb1 hbw1 hgw1 hsm1 hsz1 hkp1
        go_upto_region 3 with (first
          | (go_at_call 10; refine (H2.out _ hR.below).mono ?_; rintro e wa2 ⟨ad2, c2, rfl, hs2, hb2⟩; have hR := hR.call hb2)
          | (refine wQ_alloc (cs := zQ) rfl _ (by rfl) (by exact hR) zero_rq ?_; intro g8 wb2 hR hbw2 hgw2)
          | (refine wQ_store rfl _ _ _ (by rfl) (by exact hR) g8 rfl (rqC zRq ad2 c2) (by rfl) _ _ _ (by repeat (first | exact Pick.here | apply Pick.there)) (by kernel_rfl) (by kernel_rfl) (by kernel_rfl) ?_; intro wc2 hR hsm2 hsz2))
        have hkp2 : ∀ k, k < wa2.heap.size → wc2.heap[k]? = wa2.heap[k]? := fun k hk => by rw [hsm2 k (by omega), hbw2.block k hk]
        have HS2 : Hid (SlH wc2 zRq.hs ad2 c2) := Lib.hid (hs2.keep hkp2)
        have HS1b : Hid (SlH wc2 zRq.hs ad1 c1) := Lib.hid ((HS1.out.keep (fun k hk => hb2.block k hk)).keep hkp2)
        clear hs2 hb2 hbw2 hgw2 hsm2 hsz2 hkp2
        have HBW := Lib.hid hR.below
        have HFX : Hid (∀ u, Below wc2.heap.size wc2 u → Calls Tryz.prog 18 #[] u (RetB true u)) := Lib.hid fun u hb => fixed_any u (HGW.out.below (HBW.out.trans (hb.mono HBW.out.size)))
        go_wp2_with (go_at_call 18; refine (HFX.out _ (Below.refl _ _)).mono ?_; rintro e w6 ⟨rfl, hb6⟩)
        go_ret
        exact ⟨rfl, HBW.out.trans (hb6.mono HBW.out.size)⟩
end Go.Proofs.YtipjkjcmceeaeaaGreatDoor.httpGrows
