/- http.Parse: the walk. -/
import Derived.Test.YtipjkjcmceeaeaaGreatDoorYRead
import Derived.Test.YtipjkjcmceeaeaaGreatDoorYGet
import Derived.Test.YtipjkjcmceeaeaaGreatDoorYChunks
import Derived.Test.YtipjkjcmceeaeaaGreatDoorYBack2
import Derived.Test.YtipjkjcmceeaeaaGreatDoorYGS3
namespace Go.Proofs.YtipjkjcmceeaeaaGreatDoor
open Go.RowKit

theorem lk_neq (s : ByteArray) (w : World) : (binOp .neq 59 (lkV s) .nilIface).run Tryz.prog w = .ok (.bool true) w := by kernel_rfl
theorem lk_guard (i : Nat) (s : ByteArray) (w : World) : (eqGuard .neq 59 (.tmp i) (.const .nilIface) (lkV s) .nilIface).run Tryz.prog w = .ok () w := by kernel_rfl
theorem slh_nil (w : World) : SlH w [] none 0 := ⟨Nat.le_refl _, Nat.zero_le _, 0, 0, Or.inr ⟨rfl, rfl⟩, fun j u hj => by simp [HdC] at hj⟩
def ParsePost (r : Rq × Nat × Int) (w : World) : Ending → World → Prop := fun e w' => ∃ ad c, e = .returned (.tuple #[rqv r.1 ad c, .int .i64 (r.2.1 : Nat), .int .i64 r.2.2]) ∧ SlH w' r.1.hs ad c ∧ Below w.heap.size w w'
set_option maxRecDepth 100000 in
set_option maxHeartbeats 8000000 in
theorem Parse_any (s : Bs) (w : World) (hl : s.length ≤ 16777216) (hgw : Gw w) : Calls Tryz.prog 10 #[.string (bs s)] w (ParsePost (parseV s) w) := by
  have hSB := SB_eq
  have hMX := MX_eq
  have HGW := Lib.hid hgw
  have hR := Rws.start w
  have zs := bs_size s
  have HCU0 : Hid (∀ u, Below w.heap.size w u → Calls Tryz.prog 28 #[.string (bs s), .string ⟨#[13, 10, 13, 10]⟩] u fun e w' => e = .returned (cutV HEND s) ∧ Below u.heap.size u w') := Lib.hid fun u hb => cut_any s HEND (by omega) u (HGW.out.below hb)
  clear hgw
  cases hcut : cutA HEND s with
  | none =>
    have HCU : Hid (∀ u, Below w.heap.size w u → Calls Tryz.prog 28 #[.string (bs s), .string ⟨#[13, 10, 13, 10]⟩] u fun e w' => e = .returned (.tuple #[.string (bs s), .string ⟨#[]⟩, .bool false]) ∧ Below u.heap.size u w') := Lib.hid (by rw [← cutV_none hcut]; exact HCU0.out)
    by_cases h8 : 8192 < s.length
    · have z8 : (8192 : Int) < (s.length : Int) := by omega
      have HV : Hid (parseV s = (zRq, 0, 152)) := Lib.hid (by unfold parseV parseQ; rw [hcut]; simp only [if_pos h8])
      clear hcut HCU0 h8
      go_enter Tryz.func10, Tryz.ntmps10
      go_upto_region 1 with (refine wQ_alloc (cs := zQ) rfl _ (by rfl) (by exact hR) zero_rq ?_; intro g2 w1 hR hbw1 hgw1)
      clear hbw1 hgw1
      go_wp2_with (first
        | (go_at_call 28; refine (HCU.out _ hR.below).mono ?_; rintro e w3 ⟨rfl, hb3⟩; have hR := hR.call hb3)
        | (refine wQ_store rfl _ _ _ (by rfl) (by exact hR) g2 rfl zQ (by rfl) _ _ _ (by repeat (first | exact Pick.here | apply Pick.there)) (by kernel_rfl) (by kernel_rfl) (by kernel_rfl) ?_; intro w20 hR hsmw20 hszw20))
      refine bodyPost_ctt rfl hR g2 rfl _ _ (by repeat (first | exact List.Mem.head _ | refine List.Mem.tail _ ?_)) _ Tryz.underlying24 rfl (by kernel_rfl) _ rfl _ rfl rfl (fun hbz => ?_)
      rw [HV.out]
      exact ⟨none, 0, rfl, slh_nil _, hbz⟩
    · have z8 : ¬ (8192 : Int) < (s.length : Int) := by omega
      have HV : Hid (parseV s = (zRq, 0, 150)) := Lib.hid (by unfold parseV parseQ; rw [hcut]; simp only [if_neg h8])
      clear hcut HCU0 h8
      go_enter Tryz.func10, Tryz.ntmps10
      go_upto_region 1 with (refine wQ_alloc (cs := zQ) rfl _ (by rfl) (by exact hR) zero_rq ?_; intro g2 w1 hR hbw1 hgw1)
      clear hbw1 hgw1
      go_wp2_with (first
        | (go_at_call 28; refine (HCU.out _ hR.below).mono ?_; rintro e w3 ⟨rfl, hb3⟩; have hR := hR.call hb3)
        | (refine wQ_store rfl _ _ _ (by rfl) (by exact hR) g2 rfl zQ (by rfl) _ _ _ (by repeat (first | exact Pick.here | apply Pick.there)) (by kernel_rfl) (by kernel_rfl) (by kernel_rfl) ?_; intro w20 hR hsmw20 hszw20))
      refine bodyPost_ctt rfl hR g2 rfl _ _ (by repeat (first | exact List.Mem.head _ | refine List.Mem.tail _ ?_)) _ Tryz.underlying24 rfl (by kernel_rfl) _ rfl _ rfl rfl (fun hbz => ?_)
      rw [HV.out]
      exact ⟨none, 0, rfl, slh_nil _, hbz⟩
  | some p =>
    obtain ⟨t, r⟩ := p
    have HCU : Hid (∀ u, Below w.heap.size w u → Calls Tryz.prog 28 #[.string (bs s), .string ⟨#[13, 10, 13, 10]⟩] u fun e w' => e = .returned (.tuple #[.string (bs t), .string (bs r), .bool true]) ∧ Below u.heap.size u w') := Lib.hid (by rw [← cutV_some hcut]; exact HCU0.out)
    have hsl : s.length = t.length + 4 + r.length := by
      have := congrArg List.length (cutA_some hcut).1
      rw [List.length_append, List.length_append, HEND_len] at this
      exact this
    have zt := bs_size t
    have zr := bs_size r
    by_cases h8 : 8192 < t.length + 4
    · have z8 : (8192 : Int) < (t.length : Int) + 4 := by omega
      have HV : Hid (parseV s = (zRq, 0, 152)) := Lib.hid (by unfold parseV parseQ; rw [hcut]; simp only [if_pos h8])
      clear hcut HCU0 h8
      go_enter Tryz.func10, Tryz.ntmps10
      go_upto_region 1 with (refine wQ_alloc (cs := zQ) rfl _ (by rfl) (by exact hR) zero_rq ?_; intro g2 w1 hR hbw1 hgw1)
      clear hbw1 hgw1
      go_wp2_with (first
        | (go_at_call 28; refine (HCU.out _ hR.below).mono ?_; rintro e w3 ⟨rfl, hb3⟩; have hR := hR.call hb3)
        | (refine wQ_store rfl _ _ _ (by rfl) (by exact hR) g2 rfl zQ (by rfl) _ _ _ (by repeat (first | exact Pick.here | apply Pick.there)) (by kernel_rfl) (by kernel_rfl) (by kernel_rfl) ?_; intro w20 hR hsmw20 hszw20))
      refine bodyPost_ctt rfl hR g2 rfl _ _ (by repeat (first | exact List.Mem.head _ | refine List.Mem.tail _ ?_)) _ Tryz.underlying24 rfl (by kernel_rfl) _ rfl _ rfl rfl (fun hbz => ?_)
      rw [HV.out]
      exact ⟨none, 0, rfl, slh_nil _, hbz⟩
    have z8 : ¬ (8192 : Int) < (t.length : Int) + 4 := by omega
    have HPQ : Hid (parseQ s = withBody s.length (t.length + 4) r (readH t)) := Lib.hid (by unfold parseQ; rw [hcut]; simp only [if_neg h8])
    have HRD : Hid (∀ u, Below w.heap.size w u → Calls Tryz.prog 29 #[.string (bs t)] u (ReadPost t u)) := Lib.hid fun u hb => read_any t u (by omega) (HGW.out.below hb)
    have HCH0 : Hid (∀ u, Below w.heap.size w u → Calls Tryz.prog 31 #[.string (bs r)] u fun e w' => ChunksR (chunkS (r.length + 1) [] r) e ∧ Below u.heap.size u w') := Lib.hid fun u hb => chunks_any r u (by omega) (HGW.out.below hb)
    clear hcut HCU0
    go_enter Tryz.func10, Tryz.ntmps10
    go_upto_region 1 with (refine wQ_alloc (cs := zQ) rfl _ (by rfl) (by exact hR) zero_rq ?_; intro g2 w1 hR hbw1 hgw1)
    clear hbw1 hgw1
    go_upto_region 6 with (go_at_call 28; refine (HCU.out _ hR.below).mono ?_; rintro e w3 ⟨rfl, hb3⟩; have hR := hR.call hb3)
    go_wp2_with fail
    refine (HRD.out _ hR.below).mono ?_
    rintro e w4 ⟨qc, lc, v, rfl, hqc, hlc, hout, hb4⟩
    have hR := hR.call hb4
    have en := err_neq
    have eg := err_guard
    have kn := lk_neq
    have kg := lk_guard
    rcases hout with ⟨hE, rfl⟩ | ⟨hE, why, rfl⟩ | ⟨q, bl, ad, c, hE, rfl, rfl, rfl, hlt, hn1, hn2, h31⟩
    · have HTD : Hid (∀ u, Calls Tryz.prog 30 #[lkV sLong] u (RetI 152 u)) := Lib.hid fun u => told_any _ 152 u (Or.inr ⟨sLong, Or.inl rfl, Or.inr (Or.inl ⟨rfl, rfl⟩)⟩)
      obtain ⟨m, t', ad, n', c, rfl⟩ := hqc
      obtain ⟨k, b, rfl⟩ := hlc
      have HV : Hid (parseV s = (zRq, 0, 152)) := Lib.hid (by unfold parseV; rw [HPQ.out, hE]; rfl)
      clear hE
      go_upto_region 7 with (first
        | (refine wQ_alloc (cs := zL) rfl _ (by rfl) (by exact hR) zero_len ?_; intro g8 w5 hR hbw5 hgw5; have hq5 := Lib.hid (hR.row (g2, zQ, 24) (by repeat (first | exact List.Mem.head _ | refine List.Mem.tail _ ?_))).2)
        | (refine wQ_store rfl _ _ _ (by rfl) (by exact hR) g2 rfl #[.string m, .string t', .slice ad n' c, .string ⟨#[]⟩] (by rfl) _ _ _ (by repeat (first | exact Pick.here | apply Pick.there)) (by kernel_rfl) (by kernel_rfl) (by kernel_rfl) ?_; intro w6 hR hsmw6 hszw6; have hq6 := Lib.hid (hR.row (g8, zL, 57) (by repeat (first | exact List.Mem.head _ | refine List.Mem.tail _ ?_))).2)
        | (refine wQ_store rfl _ _ _ (by rfl) (by exact hR) g8 rfl #[.int .i64 k, .bool b] (by rfl) _ _ _ (by repeat (first | exact Pick.here | apply Pick.there)) (by kernel_rfl) (by kernel_rfl) (by kernel_rfl) ?_; intro w7 hR hsmw7 hszw7))
      clear hbw5 hgw5 hsmw6 hszw6 hsmw7 hszw7
      go_wp2_with (first
        | (go_at_call 30; refine (HTD.out _).mono ?_; rintro e w10 ⟨rfl, hb10⟩; have hR := hR.call hb10)
        | (refine wQ_store rfl _ _ _ (by rfl) (by exact hR) g2 rfl zQ (by rfl) _ _ _ (by repeat (first | exact Pick.here | apply Pick.there)) (by kernel_rfl) (by kernel_rfl) (by kernel_rfl) ?_; intro w20 hR hsmw20 hszw20))
      refine bodyPost_ctt rfl hR g2 rfl _ _ (by repeat (first | exact List.Mem.head _ | refine List.Mem.tail _ ?_)) _ Tryz.underlying24 rfl (by kernel_rfl) _ rfl _ rfl rfl (fun hbz => ?_)
      rw [HV.out]
      exact ⟨none, 0, rfl, slh_nil _, hbz⟩
    · have HTD : Hid (∀ u, Calls Tryz.prog 30 #[wrV why sHead] u (RetI 151 u)) := Lib.hid fun u => told_any _ 151 u (Or.inr ⟨sHead, Or.inr ⟨why, rfl⟩, Or.inl ⟨rfl, rfl⟩⟩)
      obtain ⟨m, t', ad, n', c, rfl⟩ := hqc
      obtain ⟨k, b, rfl⟩ := hlc
      have HV : Hid (parseV s = (zRq, 0, 151)) := Lib.hid (by unfold parseV; rw [HPQ.out, hE]; rfl)
      clear hE
      go_upto_region 7 with (first
        | (refine wQ_alloc (cs := zL) rfl _ (by rfl) (by exact hR) zero_len ?_; intro g8 w5 hR hbw5 hgw5; have hq5 := Lib.hid (hR.row (g2, zQ, 24) (by repeat (first | exact List.Mem.head _ | refine List.Mem.tail _ ?_))).2)
        | (refine wQ_store rfl _ _ _ (by rfl) (by exact hR) g2 rfl #[.string m, .string t', .slice ad n' c, .string ⟨#[]⟩] (by rfl) _ _ _ (by repeat (first | exact Pick.here | apply Pick.there)) (by kernel_rfl) (by kernel_rfl) (by kernel_rfl) ?_; intro w6 hR hsmw6 hszw6; have hq6 := Lib.hid (hR.row (g8, zL, 57) (by repeat (first | exact List.Mem.head _ | refine List.Mem.tail _ ?_))).2)
        | (refine wQ_store rfl _ _ _ (by rfl) (by exact hR) g8 rfl #[.int .i64 k, .bool b] (by rfl) _ _ _ (by repeat (first | exact Pick.here | apply Pick.there)) (by kernel_rfl) (by kernel_rfl) (by kernel_rfl) ?_; intro w7 hR hsmw7 hszw7))
      clear hbw5 hgw5 hsmw6 hszw6 hsmw7 hszw7
      go_wp2_with (first
        | (go_at_call 30; refine (HTD.out _).mono ?_; rintro e w10 ⟨rfl, hb10⟩; have hR := hR.call hb10)
        | (refine wQ_store rfl _ _ _ (by rfl) (by exact hR) g2 rfl zQ (by rfl) _ _ _ (by repeat (first | exact Pick.here | apply Pick.there)) (by kernel_rfl) (by kernel_rfl) (by kernel_rfl) ?_; intro w20 hR hsmw20 hszw20))
      refine bodyPost_ctt rfl hR g2 rfl _ _ (by repeat (first | exact List.Mem.head _ | refine List.Mem.tail _ ?_)) _ Tryz.underlying24 rfl (by kernel_rfl) _ rfl _ rfl rfl (fun hbz => ?_)
      rw [HV.out]
      exact ⟨none, 0, rfl, slh_nil _, hbz⟩
    · have HTD : Hid (∀ u, Calls Tryz.prog 30 #[.nilIface] u (RetI 0 u)) := Lib.hid fun u => told_any _ 0 u (Or.inl ⟨rfl, rfl⟩)
      have nn := nil_neq
      have ng := nil_guard
      obtain ⟨qm, qt, hs, qb⟩ := q
      obtain rfl : qb = [] := (readH_ok hE).2.2
      have HE := Lib.hid hE
      have HLT := Lib.hid hlt
      have HC1 := Lib.hid hn1
      have HC2 := Lib.hid hn2
      simp only at hlt hn1 hn2 h31 HLT HC1
      have HCL : Hid (∀ u, Calls Tryz.prog 32 #[.slice ad hs.length c] u fun e w' => e = .returned (.slice ad hs.length hs.length) ∧ w' = u) := Lib.hid fun u => clipH_any ad hs.length c u hn1 hn2
      clear hqc hlc hE hlt
      go_upto_region 7 with (first
        | (refine wQ_alloc (cs := zL) rfl _ (by rfl) (by exact hR) zero_len ?_; intro g8 w5 hR hbw5 hgw5; have hq5 := Lib.hid (hR.row (g2, zQ, 24) (by repeat (first | exact List.Mem.head _ | refine List.Mem.tail _ ?_))).2)
        | (refine wQ_store rfl _ _ _ (by rfl) (by exact hR) g2 rfl (rqC ⟨qm, qt, hs, []⟩ ad c) (by rfl) _ _ _ (by repeat (first | exact Pick.here | apply Pick.there)) (by kernel_rfl) (by kernel_rfl) (by kernel_rfl) ?_; intro w6 hR hsmw6 hszw6; have hq6 := Lib.hid (hR.row (g8, zL, 57) (by repeat (first | exact List.Mem.head _ | refine List.Mem.tail _ ?_))).2)
        | (refine wQ_store rfl _ _ _ (by rfl) (by exact hR) g8 rfl (lenC bl) (by rfl) _ _ _ (by repeat (first | exact Pick.here | apply Pick.there)) (lenC_inf _) (lenC_size _).symm (lenC_one _) ?_; intro w7 hR hsmw7 hszw7))
      have HLT7 : Hid (LiesT w7 hs ad) := Lib.hid (((HLT.out.old (fun k hk => hbw5.block k hk)).set hq5.out (by first | decide | (dsimp only; decide)) hsmw6).set hq6.out (by first | decide | (dsimp only; decide)) hsmw7)
      clear hbw5 hgw5 hsmw6 hszw6 hsmw7 hszw7
      cases bl with
      | none =>
        have l1 : w7.cell? ⟨g8, 1, none⟩ = some (.bool true) := hR.cellAt (g := g8) (by repeat (first | exact List.Mem.head _ | refine List.Mem.tail _ ?_)) 1 rfl
        have l1k : ∀ u, Below w7.heap.size w7 u → u.cell? ⟨g8, 1, none⟩ = some (.bool true) := fun u hb => (hb.cell (p := ⟨g8, 1, none⟩) (World.block_lt_of_cell? w7 _ l1)).trans l1
        have L1K := Lib.hid l1k
        clear l1 l1k
        go_upto_region 10 with (go_at_call 30; refine (HTD.out _).mono ?_; rintro e w10 ⟨rfl, hb10⟩; have hR := hR.call hb10)
        have l1 := L1K.out _ hb10
        have HLT10 := Lib.hid (HLT7.out.old (fun k hk => hb10.block k hk))
        have HG14 : Hid (∀ u, Below w10.heap.size w10 u → u.heap[g2]? = some (.cells (rqC ⟨qm, qt, hs, []⟩ ad c) 24 (0, 0))) := Lib.hid fun u hb => (hb.block g2 (hR.lt (x := (g2, (rqC ⟨qm, qt, hs, []⟩ ad c), 24)) (by repeat (first | exact List.Mem.head _ | refine List.Mem.tail _ ?_)))).trans (hR.row (g2, (rqC ⟨qm, qt, hs, []⟩ ad c), 24) (by repeat (first | exact List.Mem.head _ | refine List.Mem.tail _ ?_))).2
        clear hb10
        cases hC : chunkS (r.length + 1) [] r with
        | bad =>
          have HV : Hid (parseV s = (zRq, 0, 153)) := Lib.hid (by
            unfold parseV; rw [HPQ.out, HE.out]; unfold withBody; simp only; rw [hC])
          have HCH : Hid (∀ u, Below w.heap.size w u → Calls Tryz.prog 31 #[.string (bs r)] u fun e w' => (∃ why, e = .returned (.tuple #[.string ⟨#[]⟩, .string ⟨#[]⟩, .bool false, wrV why sBody])) ∧ Below u.heap.size u w') := Lib.hid fun u hb => (HCH0.out u hb).mono fun e w' hh => by
            obtain ⟨⟨_, h1⟩ | ⟨h1, _⟩ | ⟨_, _, h1, _⟩, hb⟩ := hh
            · exact ⟨h1, hb⟩
            · rw [hC] at h1; cases h1
            · rw [hC] at h1; cases h1
          have HTDB : Hid (∀ why u, Calls Tryz.prog 30 #[wrV why sBody] u (RetI 153 u)) := Lib.hid fun why u => told_any _ 153 u (Or.inr ⟨sBody, Or.inr ⟨why, rfl⟩, Or.inr (Or.inr ⟨rfl, rfl⟩)⟩)
          clear hC
          go_upto_region 18 with (first
            | (go_at_call 31; refine (HCH.out _ hR.below).mono ?_; rintro e w14 ⟨⟨why, rfl⟩, hb14⟩; have hR := hR.call hb14)
            | (refine wS_storec (g := g2) (k := 3) rfl (by rfl) (by exact hR) rfl rfl (by repeat (first | exact Pick.here | apply Pick.there)) rfl (by kernel_rfl) (by exact (show 3 < 4 by decide)) (by rfl) rfl ?_; intro w9 hR hsm9 hsz9))
          go_wp2_with (first
            | (go_at_call 30; refine (HTDB.out _ _).mono ?_; rintro e w15 ⟨rfl, hb15⟩; have hR := hR.call hb15)
            | (refine wQ_store rfl _ _ _ (by rfl) (by exact hR) g2 rfl zQ (by rfl) _ _ _ (by repeat (first | exact Pick.here | apply Pick.there)) (by kernel_rfl) (by kernel_rfl) (by kernel_rfl) ?_; intro w20 hR hsmw20 hszw20))
          refine bodyPost_ctt rfl hR g2 rfl _ _ (by repeat (first | exact List.Mem.head _ | refine List.Mem.tail _ ?_)) _ Tryz.underlying24 rfl (by kernel_rfl) _ rfl _ rfl rfl (fun hbz => ?_)
          rw [HV.out]
          exact ⟨none, 0, rfl, slh_nil _, hbz⟩
        | short =>
          have HV : Hid (parseV s = (zRq, 0, 150)) := Lib.hid (by
            unfold parseV; rw [HPQ.out, HE.out]; unfold withBody; simp only; rw [hC])
          have HCH : Hid (∀ u, Below w.heap.size w u → Calls Tryz.prog 31 #[.string (bs r)] u fun e w' => e = .returned (.tuple #[.string ⟨#[]⟩, .string ⟨#[]⟩, .bool true, .nilIface]) ∧ Below u.heap.size u w') := Lib.hid fun u hb => (HCH0.out u hb).mono fun e w' hh => by
            obtain ⟨⟨h1, _⟩ | ⟨_, h1⟩ | ⟨_, _, h1, _⟩, hb⟩ := hh
            · rw [hC] at h1; cases h1
            · exact ⟨h1, hb⟩
            · rw [hC] at h1; cases h1
          clear hC
          go_upto_region 18 with (first
            | (go_at_call 31; refine (HCH.out _ hR.below).mono ?_; rintro e w14 ⟨rfl, hb14⟩; have hR := hR.call hb14)
            | (refine wS_storec (g := g2) (k := 3) rfl (by rfl) (by exact hR) rfl rfl (by repeat (first | exact Pick.here | apply Pick.there)) rfl (by kernel_rfl) (by exact (show 3 < 4 by decide)) (by rfl) rfl ?_; intro w9 hR hsm9 hsz9))
          go_wp2_with (first
            | (refine wQ_store rfl _ _ _ (by rfl) (by exact hR) g2 rfl zQ (by rfl) _ _ _ (by repeat (first | exact Pick.here | apply Pick.there)) (by kernel_rfl) (by kernel_rfl) (by kernel_rfl) ?_; intro w20 hR hsmw20 hszw20))
          refine bodyPost_ctt rfl hR g2 rfl _ _ (by repeat (first | exact List.Mem.head _ | refine List.Mem.tail _ ?_)) _ Tryz.underlying24 rfl (by kernel_rfl) _ rfl _ rfl rfl (fun hbz => ?_)
          rw [HV.out]
          exact ⟨none, 0, rfl, slh_nil _, hbz⟩
        | done b r' =>
          obtain ⟨K, hK⟩ : ∃ K, K = s.length - r'.length := ⟨_, rfl⟩
          have hrl := chunk_len _ _ _ _ _ hC
          have HV : Hid (parseV s = (⟨qm, qt, hs, b⟩, K, 0)) := Lib.hid (by
            unfold parseV; rw [HPQ.out, HE.out]; unfold withBody; simp only; rw [hC, hK])
          have hkz : (s.length : Int) - (r'.length : Int) = (K : Int) := by omega
          have zr' := bs_size r'
          have HCH : Hid (∀ u, Below w.heap.size w u → Calls Tryz.prog 31 #[.string (bs r)] u fun e w' => e = .returned (.tuple #[.string (bs b), .string (bs r'), .bool false, .nilIface]) ∧ Below u.heap.size u w') := Lib.hid fun u hb => (HCH0.out u hb).mono fun e w' hh => by
            obtain ⟨⟨h1, _⟩ | ⟨h1, _⟩ | ⟨b2, r2, h1, h2⟩, hb⟩ := hh
            · rw [hC] at h1; cases h1
            · rw [hC] at h1; cases h1
            · rw [hC] at h1; cases h1; exact ⟨h2, hb⟩
          clear hC hK
          go_upto_region 18 with (first
            | (go_at_call 31; refine (HCH.out _ hR.below).mono ?_; rintro e w14 ⟨rfl, hb14⟩; have hR := hR.call hb14)
            | (refine wS_storec (g := g2) (k := 3) rfl (by rfl) (by exact hR) rfl rfl (by repeat (first | exact Pick.here | apply Pick.there)) rfl (by kernel_rfl) (by exact (show 3 < 4 by decide)) (by rfl) rfl ?_; intro w9 hR hsm9 hsz9))
          have hR9 : Rws w.heap.size w w9 [(g2, #[.string (bs qm), .string (bs qt), .slice ad hs.length c, .string (bs b)], 24), (g8, lenC none, 57)] := hR
          have hR := hR9
          have u2 : w9.cell? ⟨g2, 2, none⟩ = some (.slice ad hs.length c) := hR.cellAt (g := g2) (by repeat (first | exact List.Mem.head _ | refine List.Mem.tail _ ?_)) 2 rfl
          have HLT9 : Hid (LiesT w9 hs ad) := Lib.hid (((HLT10.out.old (fun k hk => hb14.block k hk)).set (HG14.out _ hb14) (by first | decide | (dsimp only; decide)) hsm9))
          have HG9 := Lib.hid (hR.row (g2, #[.string (bs qm), .string (bs qt), .slice ad hs.length c, .string (bs b)], 24) (by repeat (first | exact List.Mem.head _ | refine List.Mem.tail _ ?_))).2
          go_upto_region 23 with (first
            | (go_at_call 32; refine (HCL.out _).mono ?_; rintro e w11 ⟨rfl, rfl⟩)
            | (refine wS_storec (g := g2) (k := 2) rfl (by rfl) (by exact hR) rfl rfl (by repeat (first | exact Pick.here | apply Pick.there)) rfl (by kernel_rfl) (by exact (show 2 < 4 by decide)) (by rfl) rfl ?_; intro w12 hR hsm12 hsz12; have HG12 := Lib.hid (hR.row _ (List.Mem.head _)).2))
          go_wp2_with (first
            | (refine wpList_load_rws rfl _ _ (by rfl) (by exact hR) g2 rfl _ _ (by repeat (first | exact List.Mem.head _ | refine List.Mem.tail _ ?_)) _ Tryz.underlying24 rfl (by kernel_rfl) ?_)
            | (refine wQ_store rfl _ _ _ (by rfl) (by exact hR) g2 rfl #[.string (bs qm), .string (bs qt), .slice ad hs.length hs.length, .string (bs b)] (by rfl) _ _ _ (by repeat (first | exact Pick.here | apply Pick.there)) (by kernel_rfl) (by kernel_rfl) (by kernel_rfl) ?_; intro w13 hR hsmw13 hszw13))
          refine bodyPost_ctt rfl hR g2 rfl _ _ (by repeat (first | exact List.Mem.head _ | refine List.Mem.tail _ ?_)) _ Tryz.underlying24 rfl (by kernel_rfl) _ rfl _ rfl rfl (fun hbz => ?_)
          rw [HV.out]
          exact ⟨ad, hs.length, by first | rfl | go_num, (((HLT9.out.set HG9.out (by first | decide | (dsimp only; decide)) hsm12).set (t := 24) HG12.out (by first | decide | (dsimp only; decide)) hsmw13)).slh (Nat.le_refl _) (Nat.le_trans HC1.out HC2.out), hbz⟩
      | some n =>
        have HN : Hid (parseQ s = withBody s.length (t.length + 4) r (.ok (⟨qm, qt, hs, []⟩, some n))) := Lib.hid (by rw [HPQ.out, HE.out])
        go_upto_region 10 with (go_at_call 30; refine (HTD.out _).mono ?_; rintro e w10 ⟨rfl, hb10⟩; have hR := hR.call hb10)
        have HLT10 := Lib.hid (HLT7.out.old (fun k hk => hb10.block k hk))
        have l0 : w10.cell? ⟨g8, 0, none⟩ = some (.int .i64 (n : Nat)) := hR.cellAt (g := g8) (by repeat (first | exact List.Mem.head _ | refine List.Mem.tail _ ?_)) 0 rfl
        have l1 : w10.cell? ⟨g8, 1, none⟩ = some (.bool false) := hR.cellAt (g := g8) (by repeat (first | exact List.Mem.head _ | refine List.Mem.tail _ ?_)) 1 rfl
        have HG10 := Lib.hid (hR.row (g2, (rqC ⟨qm, qt, hs, []⟩ ad c), 24) (by repeat (first | exact List.Mem.head _ | refine List.Mem.tail _ ?_))).2
        clear hb10
        by_cases h9 : 8192 < n
        · have z9 : (8192 : Int) < (n : Int) := by omega
          have HV : Hid (parseV s = (zRq, 0, 153)) := Lib.hid (by unfold parseV; rw [HN.out]; unfold withBody; simp only [if_pos h9])
          have HTDB : Hid (∀ u, Calls Tryz.prog 30 #[lkV sBody] u (RetI 153 u)) := Lib.hid fun u => told_any _ 153 u (Or.inr ⟨sBody, Or.inl rfl, Or.inr (Or.inr ⟨rfl, rfl⟩)⟩)
          clear h9
          go_wp2_with (first
            | (go_at_call 30; refine (HTDB.out _).mono ?_; rintro e w15 ⟨rfl, hb15⟩; have hR := hR.call hb15)
            | (refine wQ_store rfl _ _ _ (by rfl) (by exact hR) g2 rfl zQ (by rfl) _ _ _ (by repeat (first | exact Pick.here | apply Pick.there)) (by kernel_rfl) (by kernel_rfl) (by kernel_rfl) ?_; intro w20 hR hsmw20 hszw20))
          refine bodyPost_ctt rfl hR g2 rfl _ _ (by repeat (first | exact List.Mem.head _ | refine List.Mem.tail _ ?_)) _ Tryz.underlying24 rfl (by kernel_rfl) _ rfl _ rfl rfl (fun hbz => ?_)
          rw [HV.out]
          exact ⟨none, 0, rfl, slh_nil _, hbz⟩
        have z9 : ¬ (8192 : Int) < (n : Int) := by omega
        by_cases hn : r.length < n
        · have zn : (r.length : Int) < (n : Int) := by omega
          have HV : Hid (parseV s = (zRq, 0, 150)) := Lib.hid (by unfold parseV; rw [HN.out]; unfold withBody; simp only [if_neg h9, if_pos hn])
          clear h9 hn
          go_wp2_with (first
            | (refine wQ_store rfl _ _ _ (by rfl) (by exact hR) g2 rfl zQ (by rfl) _ _ _ (by repeat (first | exact Pick.here | apply Pick.there)) (by kernel_rfl) (by kernel_rfl) (by kernel_rfl) ?_; intro w20 hR hsmw20 hszw20))
          refine bodyPost_ctt rfl hR g2 rfl _ _ (by repeat (first | exact List.Mem.head _ | refine List.Mem.tail _ ?_)) _ Tryz.underlying24 rfl (by kernel_rfl) _ rfl _ rfl rfl (fun hbz => ?_)
          rw [HV.out]
          exact ⟨none, 0, rfl, slh_nil _, hbz⟩
        have zn : ¬ (r.length : Int) < (n : Int) := by omega
        have zn2 : (n : Int) ≤ (r.length : Int) := by omega
        obtain ⟨b, hb⟩ : ∃ b, b = r.take n := ⟨_, rfl⟩
        obtain ⟨r', hr'⟩ : ∃ r', r' = r.drop n := ⟨_, rfl⟩
        obtain ⟨K, hK⟩ : ∃ K, K = t.length + 4 + n := ⟨_, rfl⟩
        have HV : Hid (parseV s = (⟨qm, qt, hs, b⟩, K, 0)) := Lib.hid (by unfold parseV; rw [HN.out]; unfold withBody; simp only [if_neg h9, if_neg hn]; rw [hb, hK])
        have hr2 : r'.length = r.length - n := by rw [hr', List.length_drop]
        have hkz : (s.length : Int) - (r'.length : Int) = (K : Int) := by omega
        have zr' := bs_size r'
        have x1 : (bs r).extract 0 n = bs b := by rw [bs_cut, List.drop_zero, hb]
        have x2 : (bs r).extract n r.length = bs r' := by rw [bs_cut, List.take_of_length_le (Nat.le_refl _), hr']
        clear h9 hn hb hr' hK hr2
        go_upto_region 11 with fail
        have e3 : w10.cell? ⟨g2, 3, none⟩ = some (.string (bs [])) := hR.cellAt (g := g2) (by repeat (first | exact List.Mem.head _ | refine List.Mem.tail _ ?_)) 3 rfl
        have t3 := hR.thaw (g := g2) (by repeat (first | exact List.Mem.head _ | refine List.Mem.tail _ ?_)) 3
        have hR5 : ∀ w5, w5 = (w10.setCell ⟨g2, 3, none⟩ (.string (bs b))).drew → Rws w.heap.size w w5 [(g2, #[.string (bs qm), .string (bs qt), .slice ad hs.length c, .string (bs b)], 24), (g8, lenC (some n), 57)] := by
          rintro _ rfl
          first
            | exact (hR.setc 3 (.string (bs b))).drew
            | exact ((hR.front (.there .here)).setc 3 (.string (bs b))).drew
        have hL5 : ∀ w5, w5 = (w10.setCell ⟨g2, 3, none⟩ (.string (bs b))).drew → LiesT w5 hs ad := by
          rintro _ rfl
          exact HLT10.out.set HG10.out (by first | decide | (dsimp only; decide)) (fun k hk => heap_setCell_other w10 ⟨g2, 3, none⟩ k _ hk)
        go_region
        generalize hW5 : (World.setCell w10 _ _).drew = w9
        have hR := hR5 w9 hW5.symm
        have hLL := Lib.hid (hL5 w9 hW5.symm)
        clear hR5 hL5 hW5 e3 t3 l0 l1 HG10 x1 x2
        have u2 : w9.cell? ⟨g2, 2, none⟩ = some (.slice ad hs.length c) := hR.cellAt (g := g2) (by repeat (first | exact List.Mem.head _ | refine List.Mem.tail _ ?_)) 2 rfl
        have HLT9 : Hid (LiesT w9 hs ad) := Lib.hid (hLL.out)
        have HG9 := Lib.hid (hR.row (g2, #[.string (bs qm), .string (bs qt), .slice ad hs.length c, .string (bs b)], 24) (by repeat (first | exact List.Mem.head _ | refine List.Mem.tail _ ?_))).2
        go_upto_region 23 with (first
          | (go_at_call 32; refine (HCL.out _).mono ?_; rintro e w11 ⟨rfl, rfl⟩)
          | (refine wS_storec (g := g2) (k := 2) rfl (by rfl) (by exact hR) rfl rfl (by repeat (first | exact Pick.here | apply Pick.there)) rfl (by kernel_rfl) (by exact (show 2 < 4 by decide)) (by rfl) rfl ?_; intro w12 hR hsm12 hsz12; have HG12 := Lib.hid (hR.row _ (List.Mem.head _)).2))
        go_wp2_with (first
          | (refine wpList_load_rws rfl _ _ (by rfl) (by exact hR) g2 rfl _ _ (by repeat (first | exact List.Mem.head _ | refine List.Mem.tail _ ?_)) _ Tryz.underlying24 rfl (by kernel_rfl) ?_)
          | (refine wQ_store rfl _ _ _ (by rfl) (by exact hR) g2 rfl #[.string (bs qm), .string (bs qt), .slice ad hs.length hs.length, .string (bs b)] (by rfl) _ _ _ (by repeat (first | exact Pick.here | apply Pick.there)) (by kernel_rfl) (by kernel_rfl) (by kernel_rfl) ?_; intro w13 hR hsmw13 hszw13))
        refine bodyPost_ctt rfl hR g2 rfl _ _ (by repeat (first | exact List.Mem.head _ | refine List.Mem.tail _ ?_)) _ Tryz.underlying24 rfl (by kernel_rfl) _ rfl _ rfl rfl (fun hbz => ?_)
        rw [HV.out]
        exact ⟨ad, hs.length, by first | rfl | go_num, (((HLT9.out.set HG9.out (by first | decide | (dsimp only; decide)) hsm12).set (t := 24) HG12.out (by first | decide | (dsimp only; decide)) hsmw13)).slh (Nat.le_refl _) (Nat.le_trans HC1.out HC2.out), hbz⟩
end Go.Proofs.YtipjkjcmceeaeaaGreatDoor
