/- ostiaryref15.Parse: the walk. -/
import Derived.Test.YtipjkjcmceeaeaaGreatDoorYParse
import Derived.Test.YtipjkjcmceeaeaaGreatDoorYReadR
import Derived.Test.YtipjkjcmceeaeaaGreatDoorYChR
namespace Go.Proofs.YtipjkjcmceeaeaaGreatDoor
open Go.RowKit

set_option maxRecDepth 100000 in
set_option maxHeartbeats 8000000 in
theorem ParseR_any (s : Bs) (w : World) (hl : s.length ≤ 16777216) : Calls Tryz.prog 11 #[.string (bs s)] w (ParsePost (parseV s) w) := by
  have hSB := SB_eq
  have hMX := MX_eq
  have hR := Rws.start w
  have zs := bs_size s
  have HFI0 : Hid (∀ u, Calls Tryz.prog 33 #[.string (bs s), .string ⟨#[13, 10, 13, 10]⟩] u fun e w' => e = .returned (.int .i64 (Lib.index s HEND)) ∧ w' = u) := Lib.hid fun u => find_any s HEND (by decide) u (by omega) (by decide)
  cases hcut : cutA HEND s with
  | none =>
    have HFI : Hid (∀ u, Calls Tryz.prog 33 #[.string (bs s), .string ⟨#[13, 10, 13, 10]⟩] u fun e w' => e = .returned (.int .i64 (-1)) ∧ w' = u) := Lib.hid (by rw [← index_no hcut]; exact HFI0.out)
    by_cases h8 : 8192 < s.length
    · have z8 : (8192 : Int) < (s.length : Int) := by omega
      have HV : Hid (parseV s = (zRq, 0, 152)) := Lib.hid (by unfold parseV parseQ; rw [hcut]; simp only [if_pos h8])
      clear hcut HFI0 h8
      go_enter Tryz.func11, Tryz.ntmps11
      go_upto_region 1 with (refine wQ_alloc (cs := zQ) rfl _ (by rfl) (by exact hR) zero_rq ?_; intro g2 w1 hR hbw1 hgw1)
      clear hbw1 hgw1
      go_upto_region 4 with (first
        | (go_at_call 33; refine (HFI.out _).mono ?_; rintro e w3 ⟨rfl, rfl⟩))
      go_wp2_with (refine wQ_store rfl _ _ _ (by rfl) (by exact hR) g2 rfl zQ (by rfl) _ _ _ (by repeat (first | exact Pick.here | apply Pick.there)) (by kernel_rfl) (by kernel_rfl) (by kernel_rfl) ?_; intro w20 hR hsmw20 hszw20)
      refine bodyPost_ctt rfl hR g2 rfl _ _ (by repeat (first | exact List.Mem.head _ | refine List.Mem.tail _ ?_)) _ Tryz.underlying24 rfl (by kernel_rfl) _ rfl _ rfl rfl (fun hbz => ?_)
      rw [HV.out]
      exact ⟨none, 0, rfl, slh_nil _, hbz⟩
    · have z8 : ¬ (8192 : Int) < (s.length : Int) := by omega
      have HV : Hid (parseV s = (zRq, 0, 150)) := Lib.hid (by unfold parseV parseQ; rw [hcut]; simp only [if_neg h8])
      clear hcut HFI0 h8
      go_enter Tryz.func11, Tryz.ntmps11
      go_upto_region 1 with (refine wQ_alloc (cs := zQ) rfl _ (by rfl) (by exact hR) zero_rq ?_; intro g2 w1 hR hbw1 hgw1)
      clear hbw1 hgw1
      go_upto_region 5 with (first
        | (go_at_call 33; refine (HFI.out _).mono ?_; rintro e w3 ⟨rfl, rfl⟩))
      go_wp2_with (refine wQ_store rfl _ _ _ (by rfl) (by exact hR) g2 rfl zQ (by rfl) _ _ _ (by repeat (first | exact Pick.here | apply Pick.there)) (by kernel_rfl) (by kernel_rfl) (by kernel_rfl) ?_; intro w20 hR hsmw20 hszw20)
      refine bodyPost_ctt rfl hR g2 rfl _ _ (by repeat (first | exact List.Mem.head _ | refine List.Mem.tail _ ?_)) _ Tryz.underlying24 rfl (by kernel_rfl) _ rfl _ rfl rfl (fun hbz => ?_)
      rw [HV.out]
      exact ⟨none, 0, rfl, slh_nil _, hbz⟩
  | some p =>
    obtain ⟨t, r⟩ := p
    obtain ⟨kk, hkk⟩ : ∃ kk, kk = t.length := ⟨_, rfl⟩
    obtain ⟨k4, hk4⟩ : ∃ k4, k4 = kk + 4 := ⟨_, rfl⟩
    have HFI : Hid (∀ u, Calls Tryz.prog 33 #[.string (bs s), .string ⟨#[13, 10, 13, 10]⟩] u fun e w' => e = .returned (.int .i64 (kk : Nat)) ∧ w' = u) := Lib.hid (by rw [hkk, ← index_cut hcut]; exact HFI0.out)
    have hse := (cutA_some hcut).1
    have hsl : s.length = t.length + 4 + r.length := by
      have := congrArg List.length hse
      rw [List.length_append, List.length_append, HEND_len] at this
      exact this
    have zt := bs_size t
    have zr := bs_size r
    have kz0 : ¬ (kk : Int) < 0 := by omega
    have kz4 : (kk : Int) + 4 = (k4 : Int) := by omega
    have hk4b : k4 ≤ 16777216 := by omega
    by_cases h8 : 8192 < t.length + 4
    · have z8 : (8192 : Int) < (k4 : Int) := by omega
      have HV : Hid (parseV s = (zRq, 0, 152)) := Lib.hid (by unfold parseV parseQ; rw [hcut]; simp only [if_pos h8])
      clear hcut HFI0 h8 hkk hk4 hse hsl
      go_enter Tryz.func11, Tryz.ntmps11
      go_upto_region 1 with (refine wQ_alloc (cs := zQ) rfl _ (by rfl) (by exact hR) zero_rq ?_; intro g2 w1 hR hbw1 hgw1)
      clear hbw1 hgw1
      go_upto_region 7 with (first
        | (go_at_call 33; refine (HFI.out _).mono ?_; rintro e w3 ⟨rfl, rfl⟩))
      go_wp2_with (refine wQ_store rfl _ _ _ (by rfl) (by exact hR) g2 rfl zQ (by rfl) _ _ _ (by repeat (first | exact Pick.here | apply Pick.there)) (by kernel_rfl) (by kernel_rfl) (by kernel_rfl) ?_; intro w20 hR hsmw20 hszw20)
      refine bodyPost_ctt rfl hR g2 rfl _ _ (by repeat (first | exact List.Mem.head _ | refine List.Mem.tail _ ?_)) _ Tryz.underlying24 rfl (by kernel_rfl) _ rfl _ rfl rfl (fun hbz => ?_)
      rw [HV.out]
      exact ⟨none, 0, rfl, slh_nil _, hbz⟩
    have z8 : ¬ (8192 : Int) < (k4 : Int) := by omega
    have HPQ : Hid (parseQ s = withBody s.length (t.length + 4) r (readH t)) := Lib.hid (by unfold parseQ; rw [hcut]; simp only [if_neg h8])
    have HRD : Hid (∀ u, Calls Tryz.prog 34 #[.string (bs t)] u (ReadRPost t u)) := Lib.hid fun u => readR_any t u (by omega)
    have HCH0 : Hid (∀ u, Calls Tryz.prog 35 #[.string (bs r)] u fun e w' => ChunkRR r (chunkS (r.length + 1) [] r) e ∧ Below u.heap.size u w') := Lib.hid fun u => chunkR_any r u (by omega)
    have hkl : (kk : Int) ≤ (s.length : Int) := by omega
    have hkl4 : (k4 : Int) ≤ (s.length : Int) := by omega
    have xT : (bs s).extract 0 kk = bs t := by rw [bs_cut, List.drop_zero, hse, hkk, List.append_assoc, List.take_left]
    have xR : (bs s).extract k4 s.length = bs r := by rw [bs_cut, List.take_of_length_le (Nat.le_refl _), hse, hk4, hkk]; rw [show t.length + 4 = (t ++ HEND).length by rw [List.length_append]; rfl, List.drop_left]
    have HK4 : Hid (k4 = t.length + 4) := Lib.hid (by omega)
    have HSL := Lib.hid hsl
    have hrs : r.length ≤ s.length := by omega
    clear hcut HFI0 hkk hk4 hse hsl
    go_enter Tryz.func11, Tryz.ntmps11
    go_upto_region 1 with (refine wQ_alloc (cs := zQ) rfl _ (by rfl) (by exact hR) zero_rq ?_; intro g2 w1 hR hbw1 hgw1)
    clear hbw1 hgw1
    go_upto_region 8 with (go_at_call 33; refine (HFI.out _).mono ?_; rintro e w3 ⟨rfl, rfl⟩)
    go_wp2_with fail
    refine (HRD.out _).mono ?_
    rintro e w4 ⟨hout, hb4⟩
    have hR := hR.call hb4
    rcases hout with ⟨E, hE, rfl⟩ | ⟨q, bl, ad, c, bi, hE, rfl, hli, hlt, hn1, hn2, h31⟩
    · have HV : Hid (parseV s = (zRq, 0, E)) := Lib.hid (by unfold parseV; rw [HPQ.out, hE]; rfl)
      rcases readH_err hE with rfl | rfl
      all_goals
        clear hE
        go_upto_region 10 with (first
          | (refine wQ_alloc (cs := zQ) rfl _ (by rfl) (by exact hR) zero_rq ?_; intro g6 w5 hR hbw5 hgw5)
          | (refine wQ_store rfl _ _ _ (by rfl) (by exact hR) g6 rfl zQ (by rfl) _ _ _ (by repeat (first | exact Pick.here | apply Pick.there)) (by kernel_rfl) (by kernel_rfl) (by kernel_rfl) ?_; intro w6 hR hsmw6 hszw6))
        go_wp2_with (refine wQ_store rfl _ _ _ (by rfl) (by exact hR) g2 rfl zQ (by rfl) _ _ _ (by repeat (first | exact Pick.here | apply Pick.there)) (by kernel_rfl) (by kernel_rfl) (by kernel_rfl) ?_; intro w20 hR hsmw20 hszw20)
        refine bodyPost_ctt rfl hR g2 rfl _ _ (by repeat (first | exact List.Mem.head _ | refine List.Mem.tail _ ?_)) _ Tryz.underlying24 rfl (by kernel_rfl) _ rfl _ rfl rfl (fun hbz => ?_)
        rw [HV.out]
        exact ⟨none, 0, rfl, slh_nil _, hbz⟩
    · obtain ⟨qm, qt, hs, qb⟩ := q
      obtain rfl : qb = [] := (readH_ok hE).2.2
      have HE := Lib.hid hE
      have HLT := Lib.hid hlt
      have HC1 := Lib.hid hn1
      have HC2 := Lib.hid hn2
      simp only at hlt hn1 hn2 h31 HLT HC1
      clear hE hlt
      go_upto_region 11 with (first
        | (refine wQ_alloc (cs := zQ) rfl _ (by rfl) (by exact hR) zero_rq ?_; intro g6 w5 hR hbw5 hgw5; have hq5 := Lib.hid (hR.row (g6, zQ, 24) (List.Mem.head _)).2)
        | (refine wQ_store rfl _ _ _ (by rfl) (by exact hR) g6 rfl (rqC ⟨qm, qt, hs, []⟩ ad c) (by rfl) _ _ _ (by repeat (first | exact Pick.here | apply Pick.there)) (by kernel_rfl) (by kernel_rfl) (by kernel_rfl) ?_; intro w6 hR hsmw6 hszw6))
      have HLT6 : Hid (LiesT w6 hs ad) := Lib.hid ((HLT.out.old (fun k hk => hbw5.block k hk)).set hq5.out (by first | decide | (dsimp only; decide)) hsmw6)
      clear hbw5 hgw5 hsmw6 hszw6 hq5
      have hR6 : Rws w.heap.size w w6 [(g6, (rqC ⟨qm, qt, hs, []⟩ ad c), 24), (g2, zQ, 24)] := hR
      have hR := hR6
      rcases hli with ⟨rfl, rfl⟩ | ⟨n, rfl, hn9, hbi⟩
      · have HG14 : Hid (∀ u, Below w6.heap.size w6 u → u.heap[g6]? = some (.cells (rqC ⟨qm, qt, hs, []⟩ ad c) 24 (0, 0))) := Lib.hid fun u hb => (hb.block g6 (hR.lt (x := (g6, (rqC ⟨qm, qt, hs, []⟩ ad c), 24)) (by repeat (first | exact List.Mem.head _ | refine List.Mem.tail _ ?_)))).trans (hR.row (g6, (rqC ⟨qm, qt, hs, []⟩ ad c), 24) (by repeat (first | exact List.Mem.head _ | refine List.Mem.tail _ ?_))).2
        cases hC : chunkS (r.length + 1) [] r with
        | bad =>
          have HV : Hid (parseV s = (zRq, 0, 153)) := Lib.hid (by
            unfold parseV; rw [HPQ.out, HE.out]; unfold withBody; simp only; rw [hC])
          have HCH : Hid (∀ u, Calls Tryz.prog 35 #[.string (bs r)] u fun e w' => e = .returned (.tuple #[.string ⟨#[]⟩, .int .i64 0, .int .i64 153]) ∧ Below u.heap.size u w') := Lib.hid fun u => (HCH0.out u).mono fun e w' hh => by
            obtain ⟨⟨_, h1⟩ | ⟨h1, _⟩ | ⟨_, _, h1, _⟩, hb⟩ := hh
            · exact ⟨h1, hb⟩
            · rw [hC] at h1; cases h1
            · rw [hC] at h1; cases h1
          clear hC
          go_upto_region 17 with (first
            | (go_at_call 35; refine (HCH.out _).mono ?_; rintro e w14 ⟨rfl, hb14⟩; have hR := hR.call hb14))
          go_wp2_with (refine wQ_store rfl _ _ _ (by rfl) (by exact hR) g2 rfl zQ (by rfl) _ _ _ (by repeat (first | exact Pick.here | apply Pick.there)) (by kernel_rfl) (by kernel_rfl) (by kernel_rfl) ?_; intro w20 hR hsmw20 hszw20)
          refine bodyPost_ctt rfl hR g2 rfl _ _ (by repeat (first | exact List.Mem.head _ | refine List.Mem.tail _ ?_)) _ Tryz.underlying24 rfl (by kernel_rfl) _ rfl _ rfl rfl (fun hbz => ?_)
          rw [HV.out]
          exact ⟨none, 0, rfl, slh_nil _, hbz⟩
        | short =>
          have HV : Hid (parseV s = (zRq, 0, 150)) := Lib.hid (by
            unfold parseV; rw [HPQ.out, HE.out]; unfold withBody; simp only; rw [hC])
          have HCH : Hid (∀ u, Calls Tryz.prog 35 #[.string (bs r)] u fun e w' => e = .returned (.tuple #[.string ⟨#[]⟩, .int .i64 0, .int .i64 150]) ∧ Below u.heap.size u w') := Lib.hid fun u => (HCH0.out u).mono fun e w' hh => by
            obtain ⟨⟨h1, _⟩ | ⟨_, h1⟩ | ⟨_, _, h1, _⟩, hb⟩ := hh
            · rw [hC] at h1; cases h1
            · exact ⟨h1, hb⟩
            · rw [hC] at h1; cases h1
          clear hC
          go_upto_region 17 with (first
            | (go_at_call 35; refine (HCH.out _).mono ?_; rintro e w14 ⟨rfl, hb14⟩; have hR := hR.call hb14))
          go_wp2_with (refine wQ_store rfl _ _ _ (by rfl) (by exact hR) g2 rfl zQ (by rfl) _ _ _ (by repeat (first | exact Pick.here | apply Pick.there)) (by kernel_rfl) (by kernel_rfl) (by kernel_rfl) ?_; intro w20 hR hsmw20 hszw20)
          refine bodyPost_ctt rfl hR g2 rfl _ _ (by repeat (first | exact List.Mem.head _ | refine List.Mem.tail _ ?_)) _ Tryz.underlying24 rfl (by kernel_rfl) _ rfl _ rfl rfl (fun hbz => ?_)
          rw [HV.out]
          exact ⟨none, 0, rfl, slh_nil _, hbz⟩
        | done b r' =>
          obtain ⟨mm, hmm⟩ : ∃ mm, mm = r.length - r'.length := ⟨_, rfl⟩
          obtain ⟨K, hK⟩ : ∃ K, K = k4 + mm := ⟨_, rfl⟩
          have hrl := chunk_len _ _ _ _ _ hC
          have HV : Hid (parseV s = (⟨qm, qt, hs, b⟩, K, 0)) := Lib.hid (by
            unfold parseV; rw [HPQ.out, HE.out]; unfold withBody; simp only; rw [hC]
            have h1 := HSL.out
            have h2 := HK4.out
            simp only [Prod.mk.injEq, true_and, and_true]
            omega)
          have hkz : (k4 : Int) + (mm : Int) = (K : Int) := by omega
          have hKb : K ≤ 33554432 := by omega
          have HCH : Hid (∀ u, Calls Tryz.prog 35 #[.string (bs r)] u fun e w' => e = .returned (.tuple #[.string (bs b), .int .i64 (mm : Nat), .int .i64 0]) ∧ Below u.heap.size u w') := Lib.hid fun u => (HCH0.out u).mono fun e w' hh => by
            obtain ⟨⟨h1, _⟩ | ⟨h1, _⟩ | ⟨b2, r2, h1, h2⟩, hb⟩ := hh
            · rw [hC] at h1; cases h1
            · rw [hC] at h1; cases h1
            · rw [hC] at h1; cases h1; exact ⟨by rw [hmm]; exact h2, hb⟩
          clear hC hK hmm
          go_upto_region 19 with (first
            | (go_at_call 35; refine (HCH.out _).mono ?_; rintro e w14 ⟨rfl, hb14⟩; have hR := hR.call hb14)
            | (refine wS_storec (g := g6) (k := 3) rfl (by rfl) (by exact hR) rfl rfl (by repeat (first | exact Pick.here | apply Pick.there)) rfl (by kernel_rfl) (by exact (show 3 < 4 by decide)) (by rfl) rfl ?_; intro w9 hR hsmw9 hszw9))
          have hR9 : Rws w.heap.size w w9 [(g6, #[.string (bs qm), .string (bs qt), .slice ad hs.length c, .string (bs b)], 24), (g2, zQ, 24)] := hR
          have hR := hR9
          have HLT9 : Hid (LiesT w9 hs ad) := Lib.hid ((HLT6.out.old (fun k hk => hb14.block k hk)).set (HG14.out _ hb14) (by first | decide | (dsimp only; decide)) hsmw9)
          have HG9 := Lib.hid (hR.row (g2, zQ, 24) (by repeat (first | exact List.Mem.head _ | refine List.Mem.tail _ ?_))).2
          go_wp2_with (first
            | (refine wpList_load_rws rfl _ _ (by rfl) (by exact hR) g6 rfl _ _ (by repeat (first | exact List.Mem.head _ | refine List.Mem.tail _ ?_)) _ Tryz.underlying24 rfl (by kernel_rfl) ?_)
            | (refine wQ_store rfl _ _ _ (by rfl) (by exact hR) g2 rfl #[.string (bs qm), .string (bs qt), .slice ad hs.length c, .string (bs b)] (by rfl) _ _ _ (by repeat (first | exact Pick.here | apply Pick.there)) (by kernel_rfl) (by kernel_rfl) (by kernel_rfl) ?_; intro w13 hR hsmw13 hszw13))
          refine bodyPost_ctt rfl hR g2 rfl _ _ (by repeat (first | exact List.Mem.head _ | refine List.Mem.tail _ ?_)) _ Tryz.underlying24 rfl (by kernel_rfl) _ rfl _ rfl rfl (fun hbz => ?_)
          rw [HV.out]
          exact ⟨ad, c, by first | rfl | go_num, (HLT9.out.set HG9.out (by first | decide | (dsimp only; decide)) hsmw13).slh HC1.out HC2.out, hbz⟩
      · rcases hbi with rfl | ⟨rfl, rfl⟩
        · have HG6 := Lib.hid (hR.row (g6, (rqC ⟨qm, qt, hs, []⟩ ad c), 24) (by repeat (first | exact List.Mem.head _ | refine List.Mem.tail _ ?_))).2
          have nz1 : ((n : Int) == -1) = false := by first | (simp; done) | (simp; omega)
          have nz2 : ((n : Int) == -2) = false := by first | (simp; done) | (simp; omega)
          have HN : Hid (parseQ s = withBody s.length (t.length + 4) r (.ok (⟨qm, qt, hs, []⟩, some n))) := Lib.hid (by rw [HPQ.out, HE.out])
          by_cases h9 : 8192 < n
          · have z9 : (8192 : Int) < (n : Int) := by omega
            have HV : Hid (parseV s = (zRq, 0, 153)) := Lib.hid (by unfold parseV; rw [HN.out]; unfold withBody; simp only [if_pos h9])
            clear h9
            go_upto_region 21 with fail
            go_wp2_with (refine wQ_store rfl _ _ _ (by rfl) (by exact hR) g2 rfl zQ (by rfl) _ _ _ (by repeat (first | exact Pick.here | apply Pick.there)) (by kernel_rfl) (by kernel_rfl) (by kernel_rfl) ?_; intro w20 hR hsmw20 hszw20)
            refine bodyPost_ctt rfl hR g2 rfl _ _ (by repeat (first | exact List.Mem.head _ | refine List.Mem.tail _ ?_)) _ Tryz.underlying24 rfl (by kernel_rfl) _ rfl _ rfl rfl (fun hbz => ?_)
            rw [HV.out]
            exact ⟨none, 0, rfl, slh_nil _, hbz⟩
          have z9 : ¬ (8192 : Int) < (n : Int) := by omega
          by_cases hn : r.length < n
          · have zn : (r.length : Int) < (n : Int) := by omega
            have HV : Hid (parseV s = (zRq, 0, 150)) := Lib.hid (by unfold parseV; rw [HN.out]; unfold withBody; simp only [if_neg h9, if_pos hn])
            clear h9 hn
            go_upto_region 23 with fail
            go_wp2_with (refine wQ_store rfl _ _ _ (by rfl) (by exact hR) g2 rfl zQ (by rfl) _ _ _ (by repeat (first | exact Pick.here | apply Pick.there)) (by kernel_rfl) (by kernel_rfl) (by kernel_rfl) ?_; intro w20 hR hsmw20 hszw20)
            refine bodyPost_ctt rfl hR g2 rfl _ _ (by repeat (first | exact List.Mem.head _ | refine List.Mem.tail _ ?_)) _ Tryz.underlying24 rfl (by kernel_rfl) _ rfl _ rfl rfl (fun hbz => ?_)
            rw [HV.out]
            exact ⟨none, 0, rfl, slh_nil _, hbz⟩
          have zn : ¬ (r.length : Int) < (n : Int) := by omega
          have zn2 : (n : Int) ≤ (r.length : Int) := by omega
          obtain ⟨b, hb⟩ : ∃ b, b = r.take n := ⟨_, rfl⟩
          obtain ⟨K, hK⟩ : ∃ K, K = k4 + n := ⟨_, rfl⟩
          have HV : Hid (parseV s = (⟨qm, qt, hs, b⟩, K, 0)) := Lib.hid (by unfold parseV; rw [HN.out]; unfold withBody; simp only [if_neg h9, if_neg hn]; rw [hb, hK, HK4.out])
          have hkz : (k4 : Int) + (n : Int) = (K : Int) := by omega
          have hKb : K ≤ 33554432 := by omega
          have x1 : (bs r).extract 0 n = bs b := by rw [bs_cut, List.drop_zero, hb]
          clear h9 hn hb hK
          go_upto_region 25 with (refine wS_storec (g := g6) (k := 3) rfl (by rfl) (by exact hR) rfl rfl (by repeat (first | exact Pick.here | apply Pick.there)) rfl (by kernel_rfl) (by exact (show 3 < 4 by decide)) (by rfl) rfl ?_; intro w9 hR hsmw9 hszw9)
          have hR9 : Rws w.heap.size w w9 [(g6, #[.string (bs qm), .string (bs qt), .slice ad hs.length c, .string (bs b)], 24), (g2, zQ, 24)] := hR
          have hR := hR9
          have HLT9 : Hid (LiesT w9 hs ad) := Lib.hid (HLT6.out.set HG6.out (by first | decide | (dsimp only; decide)) hsmw9)
          have HG9 := Lib.hid (hR.row (g2, zQ, 24) (by repeat (first | exact List.Mem.head _ | refine List.Mem.tail _ ?_))).2
          go_wp2_with (first
            | (refine wpList_load_rws rfl _ _ (by rfl) (by exact hR) g6 rfl _ _ (by repeat (first | exact List.Mem.head _ | refine List.Mem.tail _ ?_)) _ Tryz.underlying24 rfl (by kernel_rfl) ?_)
            | (refine wQ_store rfl _ _ _ (by rfl) (by exact hR) g2 rfl #[.string (bs qm), .string (bs qt), .slice ad hs.length c, .string (bs b)] (by rfl) _ _ _ (by repeat (first | exact Pick.here | apply Pick.there)) (by kernel_rfl) (by kernel_rfl) (by kernel_rfl) ?_; intro w13 hR hsmw13 hszw13))
          refine bodyPost_ctt rfl hR g2 rfl _ _ (by repeat (first | exact List.Mem.head _ | refine List.Mem.tail _ ?_)) _ Tryz.underlying24 rfl (by kernel_rfl) _ rfl _ rfl rfl (fun hbz => ?_)
          rw [HV.out]
          exact ⟨ad, c, by first | rfl | go_num, (HLT9.out.set HG9.out (by first | decide | (dsimp only; decide)) hsmw13).slh HC1.out HC2.out, hbz⟩
        · have HV : Hid (parseV s = (⟨qm, qt, hs, []⟩, k4, 0)) := Lib.hid (by unfold parseV; rw [HPQ.out, HE.out]; unfold withBody; simp only [if_neg (show ¬ 8192 < 0 by decide), if_neg (show ¬ r.length < 0 by omega)]; rw [HK4.out]; rfl)
          go_upto_region 13 with fail
          have HLT9 : Hid (LiesT w6 hs ad) := Lib.hid (HLT6.out)
          have HG9 := Lib.hid (hR.row (g2, zQ, 24) (by repeat (first | exact List.Mem.head _ | refine List.Mem.tail _ ?_))).2
          go_wp2_with (first
            | (refine wpList_load_rws rfl _ _ (by rfl) (by exact hR) g6 rfl _ _ (by repeat (first | exact List.Mem.head _ | refine List.Mem.tail _ ?_)) _ Tryz.underlying24 rfl (by kernel_rfl) ?_)
            | (refine wQ_store rfl _ _ _ (by rfl) (by exact hR) g2 rfl #[.string (bs qm), .string (bs qt), .slice ad hs.length c, .string (bs [])] (by rfl) _ _ _ (by repeat (first | exact Pick.here | apply Pick.there)) (by kernel_rfl) (by kernel_rfl) (by kernel_rfl) ?_; intro w13 hR hsmw13 hszw13))
          refine bodyPost_ctt rfl hR g2 rfl _ _ (by repeat (first | exact List.Mem.head _ | refine List.Mem.tail _ ?_)) _ Tryz.underlying24 rfl (by kernel_rfl) _ rfl _ rfl rfl (fun hbz => ?_)
          rw [HV.out]
          exact ⟨ad, c, by first | rfl | go_num, (HLT9.out.set HG9.out (by first | decide | (dsimp only; decide)) hsmw13).slh HC1.out HC2.out, hbz⟩
end Go.Proofs.YtipjkjcmceeaeaaGreatDoor
