/- ostiaryref15.chunked: the walk. -/
import Derived.Test.YtipjkjcmceeaeaaGreatDoorYLine
import Derived.Test.YtipjkjcmceeaeaaGreatDoorYChunks
import Derived.Deep.CutBlock
namespace Go.Proofs.YtipjkjcmceeaeaaGreatDoor
open Go.RowKit

def ChunkRR (s : Bs) (c : CR) (e : Ending) : Prop := (c = .bad ∧ e = .returned (.tuple #[.string ⟨#[]⟩, .int .i64 0, .int .i64 153])) ∨ (c = .short ∧ e = .returned (.tuple #[.string ⟨#[]⟩, .int .i64 0, .int .i64 150])) ∨ ∃ b r, c = .done b r ∧ e = .returned (.tuple #[.string (bs b), .int .i64 ((s.length - r.length : Nat) : Int), .int .i64 0])
theorem hexR_he {x : UInt8} (h : heC x = true) : hexR x = (hexV x : Nat) := by unfold hexR; rw [if_pos h]
theorem hexR_no {x : UInt8} (h : heC x = false) : hexR x = -1 := by unfold hexR; rw [if_neg (by rw [h]; decide)]
theorem results_tmp3 {fn : Func} {t u v : Tmp} (h : fn.results = #[.tmp t, .tmp u, .tmp v]) (tmps : Array Value) (P : Program) (w : World) :
    (results fn tmps).run P w = .ok (.tuple #[tmps.getD t undef, tmps.getD u undef, tmps.getD v undef]) w := by
  simp [results, h]
set_option maxRecDepth 100000 in
set_option maxHeartbeats 8000000 in
theorem chunkR_any (s : Bs) (w : World) (hl : s.length ≤ 4294967296) : Calls Tryz.prog 35 #[.string (bs s)] w fun e w' => ChunkRR s (chunkS (s.length + 1) [] s) e ∧ Below w.heap.size w w' := by
  have hSB := SB_eq
  have zs := bs_size s
  have HHX : Hid (∀ (x : UInt8) u, Calls Tryz.prog 63 #[.int .u8 (x.toNat : Nat)] u fun e w' => e = .returned (.int .i64 (hexR x)) ∧ w' = u) := Lib.hid hexR_any
  have HBG : Hid (∀ (l : Bs) (bc : Bool), l.length ≤ s.length → begCR l = bc → ∀ u, Calls Tryz.prog 64 #[.string (bs l), .string ⟨#[13, 10]⟩] u fun e w' => e = .returned (.bool bc) ∧ Below u.heap.size u w') := Lib.hid fun l bc h hb u => (begins_any l u (by omega)).mono fun e w' hh => by
    obtain ⟨h1, n, rfl⟩ := hh
    exact ⟨by rw [h1, hb], below_drawn (Below.refl _ _) n⟩
  obtain ⟨C, hC⟩ : ∃ C, C = chunkS (s.length + 1) [] s := ⟨_, rfl⟩
  rw [← hC]
  have HC := Lib.hid hC
  clear hC
  go_enter Tryz.func35, Tryz.ntmps35
  go_upto_region 3 with fail
  go_loopg [5, 6] s.length (fun gg s5 s6 wr => ∃ (p : Nat) (b : Bs), p ≤ s.length ∧ gg = s.length - p ∧ s5 = .string (bs b) ∧ s6 = .int .i64 (p : Nat) ∧ b.length ≤ 8192 ∧ Aside (∃ f, (s.drop p).length < f ∧ chunkS f b (s.drop p) = C) ∧ Aside (Below w.heap.size w wr))
  case atStart => exact ⟨0, [], Nat.zero_le _, rfl, rfl, rfl, by decide, ⟨s.length + 1, by rw [List.drop_zero]; exact Nat.lt_succ_self _, by rw [List.drop_zero]; exact HC.out.symm⟩, Below.refl _ _⟩
  case round =>
    obtain ⟨p, b, hps, rfl, rfl, rfl, hb8, HF, HBW⟩ := hrel
    have zb := bs_size b
    obtain ⟨f0, hf1, hf2⟩ := HF.out
    obtain ⟨f, rfl⟩ : ∃ f, f0 = f + 1 := ⟨f0 - 1, by omega⟩
    obtain ⟨t, ht⟩ : ∃ t, t = s.drop p := ⟨_, rfl⟩
    rw [← ht] at hf1 hf2
    have htl : t.length = s.length - p := by rw [ht, List.length_drop]
    have HF1 := Lib.hid hf1
    have HF2 := Lib.hid hf2
    have HT := Lib.hid ht
    have HGT : Hid (∀ (j : Nat) x, t[j]? = some x → s[p + j]? = some x) := Lib.hid fun j x h => by rw [ht, List.getElem?_drop] at h; exact h
    clear hf1 hf2 HF ht
    obtain ⟨K, hK⟩ : ∃ K, K = (hexD t).length := ⟨_, rfl⟩
    obtain ⟨xx, hx1, hx2, hx3, hx4⟩ := hexD_pre t
    have hKt : K ≤ t.length := by
      have := congrArg List.length hx1
      rw [List.length_append] at this; omega
    have hK4 : K ≤ 4 := by omega
    have hDT : hexD t = t.take K := by
      have h1 : t.take K = (hexD t ++ xx).take (hexD t).length := by rw [← hx1, hK]
      rw [h1, List.take_left]
    have HDT := Lib.hid hDT
    have HEND : Hid (K = t.length ∨ K = 4 ∨ ∃ x, t[K]? = some x ∧ heC x = false) := Lib.hid (by
      rcases hx4 with h | h
      · right; left; omega
      · cases hxx : xx with
        | nil => left; rw [hx1, hxx, List.append_nil]; exact hK
        | cons c r =>
          right; right
          refine ⟨c, ?_, h c (by rw [hxx]; rfl)⟩
          rw [hx1, hxx, hK, List.getElem?_append_right (Nat.le_refl _), Nat.sub_self]; rfl)
    have HAL : Hid ((t.take K).all heC = true) := Lib.hid (by rw [← hDT]; exact hx3)
    obtain ⟨n, hn⟩ : ∃ n, n = hexN 0 (t.take K) := ⟨_, rfl⟩
    have hn16 : n < 65536 := by
      have h1 := hexN_lt (t.take K) 0 HAL.out
      have h2 : (16 : Nat) ^ (t.take K).length ≤ 16 ^ 4 := Nat.pow_le_pow_right (by decide) (by rw [List.length_take]; omega)
      have h3 : (16 : Nat) ^ 4 = 65536 := rfl
      omega
    have HN := Lib.hid hn
    clear hx1 hx2 hx3 hx4 hK hDT hn
    have HBWH := Lib.hid HBW.out
    go_upto_block 2 with fail
    go_cut [7, 8] (fun s7 s8 wx => s7 = .int .i64 (n : Nat) ∧ s8 = .int .i64 ((p + K : Nat) : Int) ∧ Aside (Below w.heap.size w wx))
    case first =>
      obtain ⟨wo, rfl⟩ : ∃ wo : World, wo = wr := ⟨_, rfl⟩
      go_upto_region 4 with fail
      go_loopg [7, 8] K (fun gg s7 s8 wx => ∃ (q m : Nat), q ≤ K ∧ gg = K - q ∧ s7 = .int .i64 (m : Nat) ∧ s8 = .int .i64 ((p + q : Nat) : Int) ∧ Aside (m = hexN 0 (t.take q)) ∧ wx = wo)
      case atStart => exact ⟨0, 0, Nat.zero_le _, rfl, rfl, rfl, rfl, rfl⟩
      case round =>
        obtain ⟨q, m, hqK, rfl, rfl, rfl, HM, rfl⟩ := hrel
        have hm : m ≤ 1048576 := by
          have h1 := hexN_lt (t.take q) 0 (List.all_eq_true.2 fun x hx => List.all_eq_true.1 HAL.out x (by
            have : t.take q = (t.take K).take q := by rw [List.take_take, Nat.min_eq_left hqK]
            rw [this] at hx
            exact List.mem_of_mem_take hx))
          have h2 : (16 : Nat) ^ (t.take q).length ≤ 16 ^ 4 := Nat.pow_le_pow_right (by decide) (by rw [List.length_take]; omega)
          have h3 : (16 : Nat) ^ 4 = 65536 := rfl
          have := HM.out
          omega
        obtain ⟨j, hj⟩ : ∃ j, j = p + q := ⟨_, rfl⟩
        rw [← hj]
        have HJ := Lib.hid hj
        by_cases hq : q < K
        · obtain ⟨x, hx⟩ : ∃ x, t[q]? = some x := ⟨t[q], List.getElem?_eq_getElem (by omega)⟩
          have hsx := HGT.out q x hx
          rw [← hj] at hsx
          have hgx := bs_get s j x hsx
          have hxe : heC x = true := all_at HAL.out (j := q) (by rw [List.getElem?_take, if_pos hq]; exact hx)
          obtain ⟨v, hv⟩ : ∃ v, v = hexV x := ⟨_, rfl⟩
          have hxc := HHX.out x
          rw [hexR_he hxe, ← hv] at hxc
          have HXC := Lib.hid hxc
          have hv16 : v < 16 := by rw [hv]; exact (hexI_he hxe).2.2
          have HM2 : Hid (16 * m + v = hexN 0 (t.take (q + 1))) := Lib.hid (by rw [take_snoc hx, hexN_snoc, ← HM.out, hv])
          have hjs : (j : Int) < (s.length : Int) := by omega
          have hj4 : (j : Int) < (p : Int) + 4 := by omega
          have hvz : (0 : Int) ≤ (v : Int) := by omega
          clear hxc hv hxe hx hsx hj
          go_wp2_with (go_at_call 63; refine (HXC.out _).mono ?_; rintro e w1 ⟨rfl, rfl⟩)
          go_roundg (K - (q + 1))
          case measure => omega
          case rel => exact ⟨q + 1, 16 * m + v, by omega, rfl, by go_num, by rw [← Nat.add_assoc, ← HJ.out]; go_num, HM2.out, rfl⟩
        · obtain rfl : q = K := by omega
          obtain rfl : m = n := by rw [HM.out, HN.out]
          by_cases h1 : q = t.length
          · have hjs : ¬ (j : Int) < (s.length : Int) := by omega
            clear hj
            go_wp2_with fail
            go_meet
            exact ⟨rfl, by rw [HJ.out], HBWH.out⟩
          by_cases h2 : q = 4
          · have hjs : (j : Int) < (s.length : Int) := by omega
            have hj4 : ¬ (j : Int) < (p : Int) + 4 := by omega
            clear hj
            go_wp2_with fail
            go_meet
            exact ⟨rfl, by rw [HJ.out], HBWH.out⟩
          · obtain ⟨x, hx, hxf⟩ : ∃ x, t[q]? = some x ∧ heC x = false := by
              rcases HEND.out with h | h | h
              · exact absurd h h1
              · exact absurd h h2
              · exact h
            have hsx := HGT.out q x hx
            rw [← hj] at hsx
            have hgx := bs_get s j x hsx
            have hxc := HHX.out x
            rw [hexR_no hxf] at hxc
            have HXC := Lib.hid hxc
            have hjs : (j : Int) < (s.length : Int) := by omega
            have hj4 : (j : Int) < (p : Int) + 4 := by omega
            clear hxc hxf hx hsx hj
            go_wp2_with (go_at_call 63; refine (HXC.out _).mono ?_; rintro e w1 ⟨rfl, rfl⟩)
            go_meet
            exact ⟨rfl, by rw [HJ.out], HBWH.out⟩
    case rest =>
    obtain ⟨rfl, rfl, HBX⟩ := hcut
    obtain ⟨kk, hkk⟩ : ∃ kk, kk = p + K := ⟨_, rfl⟩
    rw [← hkk]
    have hBX := HBX.out
    clear HBX HBWH HBW HGT HAL HEND HHX
    by_cases hK0 : K = 0
    · have z1 : ((kk : Int) == (p : Int)) = true := by simp; omega
      by_cases hp : t = []
      · have z2 : ((p : Int) == (s.length : Int)) = true := by rw [hp] at htl; simp at htl ⊢; omega
        have HCB : Hid (C = .short) := Lib.hid (by rw [← HF2.out]; exact chunk_short (by rw [hp]; rfl))
        clear hp hK0 hkk
        go_wp2_with fail
        try simp only [Exit.inBlock, Exit.then]
        refine bodyPost_ret (results_tmp3 rfl _ _ _) rfl ?_
        exact ⟨Or.inr (Or.inl ⟨HCB.out, rfl⟩), hBX⟩
      · have z2 : ((p : Int) == (s.length : Int)) = false := by
          have : 0 < t.length := List.length_pos_iff.2 hp
          simp; omega
        have HCB : Hid (C = .bad) := Lib.hid (by rw [← HF2.out]; exact chunk_bad (line_bad0 HDT.out hK0 hp))
        clear hp hK0 hkk
        go_wp2_with fail
        try simp only [Exit.inBlock, Exit.then]
        refine bodyPost_ret (results_tmp3 rfl _ _ _) rfl ?_
        exact ⟨Or.inl ⟨HCB.out, rfl⟩, hBX⟩
    have z1 : ((kk : Int) == (p : Int)) = false := by simp; omega
    have hkl : (kk : Int) ≤ (s.length : Int) := by omega
    obtain ⟨E1, hE1⟩ : ∃ E1, E1 = t.drop K := ⟨_, rfl⟩
    have xE1 : (bs s).extract kk s.length = bs E1 := by rw [bs_cut, List.take_of_length_le (Nat.le_refl _), hE1, HT.out, List.drop_drop, hkk]
    have lE1 : E1.length ≤ s.length := by rw [hE1, List.length_drop]; omega
    cases hb1 : begCR E1 with
    | false =>
      have HB1 := Lib.hid (HBG.out E1 false lE1 hb1)
      have HCB : Hid (C = .bad) := Lib.hid (by rw [← HF2.out]; exact chunk_bad (line_bad1 HDT.out hKt (by rw [← hE1]; exact hb1)))
      clear hb1 hE1 hkk
      go_wp2_with (go_at_call 64; refine (HB1.out _).mono ?_; rintro e w5 ⟨rfl, hb5⟩; have hB5 := hBX.trans (hb5.mono hBX.size))
      try simp only [Exit.inBlock, Exit.then]
      refine bodyPost_ret (results_tmp3 rfl _ _ _) rfl ?_
      exact ⟨Or.inl ⟨HCB.out, rfl⟩, hB5⟩
    | true =>
    have HB1 := Lib.hid (HBG.out E1 true lE1 hb1)
    by_cases h2 : t.length < K + 2
    · have z2 : (s.length : Int) < (kk : Int) + 2 := by omega
      have HCB : Hid (C = .short) := Lib.hid (by rw [← HF2.out]; exact chunk_short (line_short HDT.out hKt (fun h => hK0 h.1) (by rw [← hE1]; exact hb1) h2))
      clear hb1 hE1 hkk h2
      go_wp2_with (go_at_call 64; refine (HB1.out _).mono ?_; rintro e w5 ⟨rfl, hb5⟩; have hB5 := hBX.trans (hb5.mono hBX.size))
      try simp only [Exit.inBlock, Exit.then]
      refine bodyPost_ret (results_tmp3 rfl _ _ _) rfl ?_
      exact ⟨Or.inr (Or.inl ⟨HCB.out, rfl⟩), hB5⟩
    have z2 : ¬ (s.length : Int) < (kk : Int) + 2 := by omega
    obtain ⟨r, hr⟩ : ∃ r, r = t.drop (K + 2) := ⟨_, rfl⟩
    have hln : lineC t = .num n K r := by
      have := line_num HDT.out hKt (fun h => hK0 h.1) (by rw [← hE1]; exact hb1) h2
      rw [this, HN.out, hr]
    have HCN : Hid (C = _) := Lib.hid (HF2.out.symm.trans (chunk_num hln))
    have hrl : r.length = t.length - (K + 2) := by rw [hr, List.length_drop]
    obtain ⟨fr, hfr⟩ : ∃ fr, fr = kk + 2 := ⟨_, rfl⟩
    have HRS : Hid (r = s.drop fr) := Lib.hid (by rw [hr, HT.out, List.drop_drop, hfr, hkk, Nat.add_assoc])
    have hfz : (kk : Int) + 2 = (fr : Int) := by omega
    clear hb1 hE1 hln hr
    by_cases hbig : 8192 < b.length + n
    · have z3 : (8192 : Int) < (b.length : Int) + (n : Int) := by omega
      have HCB : Hid (C = .bad) := Lib.hid (by rw [HCN.out, if_pos (Or.inl hbig)])
      clear hbig hkk h2 hfr
      go_wp2_with (go_at_call 64; refine (HB1.out _).mono ?_; rintro e w5 ⟨rfl, hb5⟩; have hB5 := hBX.trans (hb5.mono hBX.size))
      try simp only [Exit.inBlock, Exit.then]
      refine bodyPost_ret (results_tmp3 rfl _ _ _) rfl ?_
      exact ⟨Or.inl ⟨HCB.out, rfl⟩, hB5⟩
    have z3 : ¬ (8192 : Int) < (b.length : Int) + (n : Int) := by omega
    by_cases hz : n = 0 ∧ K ≠ 1
    · have z4 : ((n : Int) == 0) = true := by rw [hz.1]; rfl
      have z5 : ((kk : Int) != (p : Int) + 1) = true := by have := hz.2; simp; omega
      have HCB : Hid (C = .bad) := Lib.hid (by rw [HCN.out, if_pos (Or.inr hz)])
      clear hbig hkk h2 hz hfr
      go_wp2_with (go_at_call 64; refine (HB1.out _).mono ?_; rintro e w5 ⟨rfl, hb5⟩; have hB5 := hBX.trans (hb5.mono hBX.size))
      try simp only [Exit.inBlock, Exit.then]
      refine bodyPost_ret (results_tmp3 rfl _ _ _) rfl ?_
      exact ⟨Or.inl ⟨HCB.out, rfl⟩, hB5⟩
    have HC3 : Hid (C = _) := Lib.hid (HCN.out.trans (if_neg (by rintro (h | h); exact hbig h; exact hz h)))
    have hcond : ((n : Int) == 0) = false ∨ (((n : Int) == 0) = true ∧ ((kk : Int) != (p : Int) + 1) = false) := by
      by_cases h0 : n = 0
      · right
        refine ⟨by rw [h0]; rfl, ?_⟩
        have : K = 1 := Classical.byContradiction fun h => hz ⟨h0, h⟩
        simp; omega
      · left; simp; omega
    clear hz
    rcases hcond with h0 | ⟨h0, h1⟩
    · obtain ⟨E2, hE2⟩ : ∃ E2, E2 = r.drop n := ⟨_, rfl⟩
      obtain ⟨gn, hgn⟩ : ∃ gn, gn = fr + n := ⟨_, rfl⟩
      have hE2l : E2.length = r.length - n := by rw [hE2, List.length_drop]
      have hgz : (fr : Int) + (n : Int) = (gn : Int) := by omega
      have xE2 : (bs s).extract gn s.length = bs E2 := by rw [bs_cut, List.take_of_length_le (Nat.le_refl _), hE2, HRS.out, List.drop_drop, hgn]
      have lE2 : E2.length ≤ s.length := by omega
      have HH := Lib.hid (And.intro hgn (And.intro hfr (And.intro hkk (And.intro hE2 (And.intro hE2l (And.intro hrl htl))))))
      clear hgn hfr hkk hE2 hE2l hrl htl
      go_upto_region 17 with (go_at_call 64; refine (HB1.out _).mono ?_; rintro e w5 ⟨rfl, hb5⟩; have hB5 := hBX.trans (hb5.mono hBX.size))
      obtain ⟨hgn, hfr, hkk, hE2, hE2l, hrl, htl⟩ := HH.out
      clear HB1 xE1 lE1 hBX
      by_cases hgs : gn < s.length
      · have zg : (gn : Int) < (s.length : Int) := by omega
        have zg2 : (gn : Int) ≤ (s.length : Int) := by omega
        cases hb2 : begCR E2 with
        | false =>
          have HB2 := Lib.hid (HBG.out E2 false lE2 hb2)
          have HCB : Hid (C = .bad) := Lib.hid (by rw [HC3.out, if_pos (by rw [← hE2]; exact hb2)])
          clear hb2 hE2 hgn hgs hfr hkk h2 hE2l hrl htl
          go_wp2_with (go_at_call 64; refine (HB2.out _).mono ?_; rintro e w6 ⟨rfl, hb6⟩; have hB6 := hB5.trans (hb6.mono hB5.size))
          try simp only [Exit.inBlock, Exit.then]
          refine bodyPost_ret (results_tmp3 rfl _ _ _) rfl ?_
          exact ⟨Or.inl ⟨HCB.out, rfl⟩, hB6⟩
        | true =>
          have HB2 := Lib.hid (HBG.out E2 true lE2 hb2)
          have HC4 : Hid (C = _) := Lib.hid (HC3.out.trans (if_neg (by rw [← hE2, hb2]; decide)))
          by_cases hs2 : r.length < n + 2
          · have z6 : (s.length : Int) < (gn : Int) + 2 := by omega
            have HCB : Hid (C = .short) := Lib.hid (by rw [HC4.out, if_pos hs2])
            clear hb2 hE2 hgn hgs hfr hkk h2 hE2l hrl htl hs2
            go_wp2_with (go_at_call 64; refine (HB2.out _).mono ?_; rintro e w6 ⟨rfl, hb6⟩; have hB6 := hB5.trans (hb6.mono hB5.size))
            try simp only [Exit.inBlock, Exit.then]
            refine bodyPost_ret (results_tmp3 rfl _ _ _) rfl ?_
            exact ⟨Or.inr (Or.inl ⟨HCB.out, rfl⟩), hB6⟩
          · have z6 : ¬ (s.length : Int) < (gn : Int) + 2 := by omega
            obtain ⟨P, hP⟩ : ∃ P, P = r.take n := ⟨_, rfl⟩
            have hPl : P.length = n := by rw [hP, List.length_take]; omega
            have xP : (bs s).extract fr gn = bs P := by rw [bs_cut, List.drop_take, ← HRS.out, hP, hgn, Nat.add_sub_cancel_left]
            obtain ⟨b2, hb2e⟩ : ∃ b2, b2 = b ++ P := ⟨_, rfl⟩
            have hap : bs b ++ bs P = bs b2 := by rw [hb2e]; exact bs_app2 _ _
            have hb2l : b2.length ≤ 8192 := by rw [hb2e, List.length_append]; omega
            have zP := bs_size P
            have hPn : P.length ≤ 8192 := by omega
            have zfg : (fr : Int) ≤ (gn : Int) := by omega
            obtain ⟨p2, hp2⟩ : ∃ p2, p2 = gn + 2 := ⟨_, rfl⟩
            have hpz : (gn : Int) + 2 = (p2 : Int) := by omega
            have hp2s : p2 ≤ s.length := by omega
            have hpp : p < p2 := by omega
            have HRD2 : Hid (s.drop p2 = r.drop (n + 2)) := Lib.hid (by rw [HRS.out, List.drop_drop, hp2, hgn, Nat.add_assoc])
            have hn0 : n ≠ 0 := by simpa using h0
            have HCB : Hid (chunkS f b2 (s.drop p2) = C) := Lib.hid (by rw [HC4.out, if_neg hs2, if_neg hn0, hb2e, hP, HRD2.out])
            have HLN : Hid ((s.drop p2).length < f) := Lib.hid (by have := HF1.out; rw [List.length_drop]; omega)
            have hms : s.length - p2 < s.length - p := by omega
            clear hb2 hE2 hgn hgs hfr hkk h2 hE2l hrl htl hs2 hP hPl hb2e hp2 hn0
            go_wp2_with (go_at_call 64; refine (HB2.out _).mono ?_; rintro e w6 ⟨rfl, hb6⟩; have hB6 := hB5.trans (hb6.mono hB5.size))
            go_roundg (s.length - p2)
            case measure => exact hms
            case rel => exact ⟨p2, b2, hp2s, rfl, by first | rfl | rw [hap], by first | rfl | go_num, hb2l, ⟨f, HLN.out, HCB.out⟩, hB6⟩
      · have zg : ¬ (gn : Int) < (s.length : Int) := by omega
        have z6 : (s.length : Int) < (gn : Int) + 2 := by omega
        have hE0 : E2 = [] := List.eq_nil_of_length_eq_zero (by omega)
        have HCB : Hid (C = .short) := Lib.hid (by rw [HC3.out, if_neg (by rw [← hE2, hE0]; decide), if_pos (by omega)])
        clear hE2 hE0 hgn hgs hfr hkk h2 hE2l hrl htl
        go_wp2_with fail
        try simp only [Exit.inBlock, Exit.then]
        refine bodyPost_ret (results_tmp3 rfl _ _ _) rfl ?_
        exact ⟨Or.inr (Or.inl ⟨HCB.out, rfl⟩), hB5⟩
    · obtain ⟨E2, hE2⟩ : ∃ E2, E2 = r.drop n := ⟨_, rfl⟩
      obtain ⟨gn, hgn⟩ : ∃ gn, gn = fr + n := ⟨_, rfl⟩
      have hE2l : E2.length = r.length - n := by rw [hE2, List.length_drop]
      have hgz : (fr : Int) + (n : Int) = (gn : Int) := by omega
      have xE2 : (bs s).extract gn s.length = bs E2 := by rw [bs_cut, List.take_of_length_le (Nat.le_refl _), hE2, HRS.out, List.drop_drop, hgn]
      have lE2 : E2.length ≤ s.length := by omega
      have HH := Lib.hid (And.intro hgn (And.intro hfr (And.intro hkk (And.intro hE2 (And.intro hE2l (And.intro hrl htl))))))
      clear hgn hfr hkk hE2 hE2l hrl htl
      go_upto_region 17 with (go_at_call 64; refine (HB1.out _).mono ?_; rintro e w5 ⟨rfl, hb5⟩; have hB5 := hBX.trans (hb5.mono hBX.size))
      obtain ⟨hgn, hfr, hkk, hE2, hE2l, hrl, htl⟩ := HH.out
      clear HB1 xE1 lE1 hBX
      by_cases hgs : gn < s.length
      · have zg : (gn : Int) < (s.length : Int) := by omega
        have zg2 : (gn : Int) ≤ (s.length : Int) := by omega
        cases hb2 : begCR E2 with
        | false =>
          have HB2 := Lib.hid (HBG.out E2 false lE2 hb2)
          have HCB : Hid (C = .bad) := Lib.hid (by rw [HC3.out, if_pos (by rw [← hE2]; exact hb2)])
          clear hb2 hE2 hgn hgs hfr hkk h2 hE2l hrl htl
          go_wp2_with (go_at_call 64; refine (HB2.out _).mono ?_; rintro e w6 ⟨rfl, hb6⟩; have hB6 := hB5.trans (hb6.mono hB5.size))
          try simp only [Exit.inBlock, Exit.then]
          refine bodyPost_ret (results_tmp3 rfl _ _ _) rfl ?_
          exact ⟨Or.inl ⟨HCB.out, rfl⟩, hB6⟩
        | true =>
          have HB2 := Lib.hid (HBG.out E2 true lE2 hb2)
          have HC4 : Hid (C = _) := Lib.hid (HC3.out.trans (if_neg (by rw [← hE2, hb2]; decide)))
          by_cases hs2 : r.length < n + 2
          · have z6 : (s.length : Int) < (gn : Int) + 2 := by omega
            have HCB : Hid (C = .short) := Lib.hid (by rw [HC4.out, if_pos hs2])
            clear hb2 hE2 hgn hgs hfr hkk h2 hE2l hrl htl hs2
            go_wp2_with (go_at_call 64; refine (HB2.out _).mono ?_; rintro e w6 ⟨rfl, hb6⟩; have hB6 := hB5.trans (hb6.mono hB5.size))
            try simp only [Exit.inBlock, Exit.then]
            refine bodyPost_ret (results_tmp3 rfl _ _ _) rfl ?_
            exact ⟨Or.inr (Or.inl ⟨HCB.out, rfl⟩), hB6⟩
          · have z6 : ¬ (s.length : Int) < (gn : Int) + 2 := by omega
            obtain ⟨P, hP⟩ : ∃ P, P = r.take n := ⟨_, rfl⟩
            have hPl : P.length = n := by rw [hP, List.length_take]; omega
            have xP : (bs s).extract fr gn = bs P := by rw [bs_cut, List.drop_take, ← HRS.out, hP, hgn, Nat.add_sub_cancel_left]
            obtain ⟨b2, hb2e⟩ : ∃ b2, b2 = b ++ P := ⟨_, rfl⟩
            have hap : bs b ++ bs P = bs b2 := by rw [hb2e]; exact bs_app2 _ _
            have hb2l : b2.length ≤ 8192 := by rw [hb2e, List.length_append]; omega
            have zP := bs_size P
            have hPn : P.length ≤ 8192 := by omega
            have zfg : (fr : Int) ≤ (gn : Int) := by omega
            obtain ⟨p2, hp2⟩ : ∃ p2, p2 = gn + 2 := ⟨_, rfl⟩
            have hpz : (gn : Int) + 2 = (p2 : Int) := by omega
            have hp2s : p2 ≤ s.length := by omega
            have hpp : p < p2 := by omega
            have HRD2 : Hid (s.drop p2 = r.drop (n + 2)) := Lib.hid (by rw [HRS.out, List.drop_drop, hp2, hgn, Nat.add_assoc])
            have hn0 : n = 0 := by simpa using h0
            have HCB : Hid (C = .done b2 (r.drop 2)) := Lib.hid (by rw [HC4.out, if_neg hs2, if_pos hn0, hb2e, hP, hn0, List.take_zero, List.append_nil])
            have HLN : Hid (s.length - (r.drop 2).length = p2) := Lib.hid (by rw [List.length_drop]; omega)
            clear hb2 hE2 hgn hgs hfr hkk h2 hE2l hrl htl hs2 hP hPl hb2e hp2 hn0
            go_wp2_with (go_at_call 64; refine (HB2.out _).mono ?_; rintro e w6 ⟨rfl, hb6⟩; have hB6 := hB5.trans (hb6.mono hB5.size))
            try simp only [Exit.inBlock, Exit.then]
            refine bodyPost_ret (results_tmp3 rfl _ _ _) rfl ?_
            exact ⟨Or.inr (Or.inr ⟨_, _, HCB.out, by rw [HLN.out]; first | rfl | (rw [← hap]; rfl)⟩), hB6⟩
      · have zg : ¬ (gn : Int) < (s.length : Int) := by omega
        have z6 : (s.length : Int) < (gn : Int) + 2 := by omega
        have hE0 : E2 = [] := List.eq_nil_of_length_eq_zero (by omega)
        have HCB : Hid (C = .short) := Lib.hid (by rw [HC3.out, if_neg (by rw [← hE2, hE0]; decide), if_pos (by omega)])
        clear hE2 hE0 hgn hgs hfr hkk h2 hE2l hrl htl
        go_wp2_with fail
        try simp only [Exit.inBlock, Exit.then]
        refine bodyPost_ret (results_tmp3 rfl _ _ _) rfl ?_
        exact ⟨Or.inr (Or.inl ⟨HCB.out, rfl⟩), hB5⟩
end Go.Proofs.YtipjkjcmceeaeaaGreatDoor
