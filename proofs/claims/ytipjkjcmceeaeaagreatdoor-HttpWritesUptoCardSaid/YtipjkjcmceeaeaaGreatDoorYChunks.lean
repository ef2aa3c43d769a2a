/- http.chunks: the walk. -/
import Derived.Test.YtipjkjcmceeaeaaGreatDoorYLine
import Derived.Test.YtipjkjcmceeaeaaGreatDoorYForm
import Derived.Test.YtipjkjcmceeaeaaGreatDoorYGw
namespace Go.Proofs.YtipjkjcmceeaeaaGreatDoor
open Go.RowKit

theorem hex_zero {x : UInt8} (h1 : heC x = true) (h2 : hexV x = 0) : x = 48 := by
  have key : ∀ k : Fin 256, heC (UInt8.ofNat k.val) = true → hexV (UInt8.ofNat k.val) = 0 → UInt8.ofNat k.val = 48 := by decide +kernel
  exact every_byte (P := fun x => heC x = true → hexV x = 0 → x = 48) key x h1 h2
theorem hexN_lt : ∀ (l : Bs) (n : Nat), l.all heC = true → hexN n l < (n + 1) * 16 ^ l.length
  | [], n, _ => by show n < (n + 1) * 16 ^ 0; omega
  | c :: r, n, h => by
    rw [List.all_cons, Bool.and_eq_true] at h
    have h1 := hexN_lt r (16 * n + hexV c) h.2
    have h2 := (hexI_he h.1).2.2
    show hexN (16 * n + hexV c) r < _
    refine Nat.lt_of_lt_of_le h1 ?_
    rw [List.length_cons, Nat.pow_succ, Nat.mul_comm (16 ^ r.length), ← Nat.mul_assoc]
    exact Nat.mul_le_mul_right _ (by omega)
theorem line_facts {t : Bs} {n i : Nat} {r : Bs} (h : lineC t = .num n i r) : r = t.drop (i + 2) ∧ i + 2 ≤ t.length ∧ n < 65536 ∧ (n = 0 → decide (t.take (i + 2) = [48, 13, 10]) = decide (i = 1)) := by
  unfold lineC at h
  split at h
  · cases h
  · next hbad =>
    split at h
    · cases h
    · next hlen =>
      simp only [LR.num.injEq] at h
      obtain ⟨rfl, rfl, rfl⟩ := h
      obtain ⟨x, hx1, hx2, hx3, _⟩ := hexD_pre t
      have hb : begCR (t.drop (hexD t).length) = true := by
        cases hh : begCR (t.drop (hexD t).length) with
        | true => rfl
        | false => exact absurd (Or.inr hh) hbad
      refine ⟨rfl, by omega, ?_, fun h0 => ?_⟩
      · have h1 := hexN_lt (hexD t) 0 hx3
        have h2 : (16 : Nat) ^ (hexD t).length ≤ 16 ^ 4 := Nat.pow_le_pow_right (by decide) hx2
        have h3 : (16 : Nat) ^ 4 = 65536 := rfl
        omega
      · by_cases h1 : (hexD t).length = 1
        · obtain ⟨c, hc⟩ := List.length_eq_one_iff.1 h1
          rw [hc] at h0 hx3
          have hc2 := hex_zero (by simpa using hx3) (by simpa [hexN] using h0)
          rw [h1, decide_eq_true rfl]
          refine decide_eq_true ?_
          rw [h1] at hb
          have h4 : (t.drop 1).take 2 = [13, 10] := by
            have h5 := of_decide_eq_true hb
            rw [h5, List.length_take, List.length_drop, Nat.min_eq_left (by omega)]
            rfl
          have h6 : t = c :: t.drop 1 := by
            rw [hx1, hc]; simp
          rw [h6, hc2]
          show 48 :: ((t.drop 1).take 2) = _
          rw [h4]
        · rw [decide_eq_false h1]
          refine decide_eq_false fun h2 => h1 ?_
          have := congrArg List.length h2
          rw [List.length_take, Nat.min_eq_left (by omega)] at this
          simp at this
          exact this
theorem chunk_bad {f : Nat} {b t : Bs} (h : lineC t = .bad) : chunkS (f + 1) b t = .bad := by
  show (match lineC t with | .bad => _ | .short => _ | .num n i r => _) = _
  rw [h]
theorem chunk_short {f : Nat} {b t : Bs} (h : lineC t = .short) : chunkS (f + 1) b t = .short := by
  show (match lineC t with | .bad => _ | .short => _ | .num n i r => _) = _
  rw [h]
theorem chunk_num {f : Nat} {b t : Bs} {n i : Nat} {r : Bs} (h : lineC t = .num n i r) : chunkS (f + 1) b t = if 8192 < b.length + n ∨ (n = 0 ∧ i ≠ 1) then .bad else if begCR (r.drop n) = false then .bad else if r.length < n + 2 then .short else if n = 0 then .done b (r.drop 2) else chunkS f (b ++ r.take n) (r.drop (n + 2)) := by
  show (match lineC t with | .bad => _ | .short => _ | .num n i r => _) = _
  rw [h]
def ChunksR (c : CR) (e : Ending) : Prop := (c = .bad ∧ ∃ why, e = .returned (.tuple #[.string ⟨#[]⟩, .string ⟨#[]⟩, .bool false, wrV why sBody])) ∨ (c = .short ∧ e = .returned (.tuple #[.string ⟨#[]⟩, .string ⟨#[]⟩, .bool true, .nilIface])) ∨ ∃ b r, c = .done b r ∧ e = .returned (.tuple #[.string (bs b), .string (bs r), .bool false, .nilIface])
set_option maxRecDepth 100000 in
set_option maxHeartbeats 8000000 in
theorem chunks_any (s : Bs) (w : World) (hl : s.length ≤ 4294967296) (hgw : Gw w) : Calls Tryz.prog 31 #[.string (bs s)] w fun e w' => ChunksR (chunkS (s.length + 1) [] s) e ∧ Below w.heap.size w w' := by
  have hSB := SB_eq
  have HGW := Lib.hid hgw
  obtain ⟨C, hC⟩ : ∃ C, C = chunkS (s.length + 1) [] s := ⟨_, rfl⟩
  rw [← hC]
  have HC := Lib.hid hC
  clear hC hgw
  have hR := Rws.start w
  go_enter Tryz.func31, Tryz.ntmps31
  go_upto_region 1 with fail
  go_loopg [0, 2] s.length (fun gg s0 s2 wr => ∃ (t b : Bs), gg = t.length ∧ s0 = .string (bs t) ∧ s2 = .string (bs b) ∧ b.length ≤ 8192 ∧ t.length ≤ 4294967296 ∧ Aside (∃ f, t.length < f ∧ chunkS f b t = C) ∧ Aside (Rws w.heap.size w wr []))
  case atStart => exact ⟨s, [], rfl, rfl, rfl, by decide, hl, ⟨s.length + 1, Nat.lt_succ_self _, HC.out.symm⟩, hR⟩
  case round =>
    obtain ⟨t, b, rfl, rfl, rfl, hb8, htl, HF, HRR⟩ := hrel
    have hR := HRR.out
    have zt := bs_size t
    have zb := bs_size b
    obtain ⟨f0, hf1, hf2⟩ := HF.out
    obtain ⟨f, rfl⟩ : ∃ f, f0 = f + 1 := ⟨f0 - 1, by omega⟩
    have HF1 := Lib.hid hf1
    have HF2 := Lib.hid hf2
    clear hf1 hf2 HF
    have HLN := Lib.hid (fun u => line_any t u (by omega))
    cases hln : lineC t with
    | bad =>
      have HCB : Hid (C = .bad) := Lib.hid (by rw [← HF2.out, chunk_bad hln])
      have HL : Hid (∀ u, Calls Tryz.prog 59 #[.string (bs t)] u fun e w' => (∃ why, e = .returned (.tuple #[.int .i64 0, .string ⟨#[]⟩, .bool false, wrV why sBody])) ∧ Below u.heap.size u w') := Lib.hid fun u => (HLN.out u).mono fun e w' hh => by
        obtain ⟨⟨_, h1⟩ | ⟨h1, _⟩ | ⟨n, i, r, h1, _⟩, hb⟩ := hh
        · exact ⟨h1, hb⟩
        · rw [hln] at h1; cases h1
        · rw [hln] at h1; cases h1
      have en := err_neq
      have eg := err_guard
      clear hln HLN
      go_wp2_with (go_at_call 59; refine (HL.out _).mono ?_; rintro e w5 ⟨⟨why, rfl⟩, hb5⟩; have hR5 := hR.call hb5)
      try simp only [Exit.inBlock, Exit.then]
      refine bodyPost_ret (results_tmp4 rfl _ _ _) rfl ?_
      exact ⟨Or.inl ⟨HCB.out, _, rfl⟩, hR5.below⟩
    | short =>
      have HCB : Hid (C = .short) := Lib.hid (by rw [← HF2.out, chunk_short hln])
      have HL : Hid (∀ u, Calls Tryz.prog 59 #[.string (bs t)] u fun e w' => e = .returned (.tuple #[.int .i64 0, .string ⟨#[]⟩, .bool true, .nilIface]) ∧ Below u.heap.size u w') := Lib.hid fun u => (HLN.out u).mono fun e w' hh => by
        obtain ⟨⟨h1, _⟩ | ⟨_, h1⟩ | ⟨n, i, r, h1, _⟩, hb⟩ := hh
        · rw [hln] at h1; cases h1
        · exact ⟨h1, hb⟩
        · rw [hln] at h1; cases h1
      have en := nil_neq
      have eg := nil_guard
      clear hln HLN
      go_wp2_with (go_at_call 59; refine (HL.out _).mono ?_; rintro e w5 ⟨rfl, hb5⟩; have hR5 := hR.call hb5)
      try simp only [Exit.inBlock, Exit.then]
      refine bodyPost_ret (results_tmp4 rfl _ _ _) rfl ?_
      exact ⟨Or.inr (Or.inl ⟨HCB.out, rfl⟩), hR5.below⟩
    | num n i r =>
      obtain ⟨hr, hi2, hn, h0⟩ := line_facts hln
      have HCN : Hid (C = _) := Lib.hid (HF2.out.symm.trans (chunk_num hln))
      have HL : Hid (∀ u, Calls Tryz.prog 59 #[.string (bs t)] u fun e w' => e = .returned (.tuple #[.int .i64 (n : Nat), .string (bs r), .bool false, .nilIface]) ∧ Below u.heap.size u w') := Lib.hid fun u => (HLN.out u).mono fun e w' hh => by
        obtain ⟨⟨h1, _⟩ | ⟨h1, _⟩ | ⟨n', i', r', h1, h2⟩, hb⟩ := hh
        · rw [hln] at h1; cases h1
        · rw [hln] at h1; cases h1
        · rw [hln] at h1
          cases h1
          exact ⟨h2, hb⟩
      have zr := bs_size r
      have hrl : r.length = t.length - (i + 2) := by rw [hr, List.length_drop]
      have en := nil_neq
      have eg := nil_guard
      clear hln HLN HF2
      by_cases hbig : 8192 < b.length + n
      · have z1 : (8192 : Int) - (b.length : Int) < (n : Int) := by omega
        have HCB : Hid (C = .bad) := Lib.hid (by rw [HCN.out, if_pos (Or.inl hbig)])
        have HI : Hid (∀ u, Below w.heap.size w u → Calls Tryz.prog 47 #[.int .i64 (n : Nat)] u (RetS (bs (numS n)) u)) := Lib.hid fun u hb => itoa_any n (by omega) u (HGW.out.below hb)
        have hnl : (numS n).length ≤ 9 := (num_len (n := n) (by omega)).2
        have zn := bs_size (numS n)
        generalize numS n = N at *
        clear hbig h0 hr hrl HCN
        go_wp2_with (first
          | (go_at_call 59; refine (HL.out _).mono ?_; rintro e w5 ⟨rfl, hb5⟩; have hR := hR.call hb5)
          | (go_at_call 47; refine (HI.out _ hR.below).mono ?_; rintro e w6 ⟨rfl, hb6⟩; have hR := hR.call hb6))
        try simp only [Exit.inBlock, Exit.then]
        refine bodyPost_ret (results_tmp4 rfl _ _ _) rfl ?_
        exact ⟨Or.inl ⟨HCB.out, _, rfl⟩, hR.below⟩
      have z1 : ¬ (8192 : Int) - (b.length : Int) < (n : Int) := by omega
      by_cases hn0 : n = 0
      · subst hn0
        obtain ⟨k, hk⟩ : ∃ k, k = i + 2 := ⟨_, rfl⟩
        have hkd : (t.length : Int) - (r.length : Int) = (k : Int) := by omega
        have hkl : (k : Int) ≤ (t.length : Int) := by omega
        obtain ⟨X, hX⟩ : ∃ X, X = t.take k := ⟨_, rfl⟩
        have xk : (bs t).extract 0 k = bs X := by rw [bs_cut, List.drop_zero, hX]
        have hq0 := h0 rfl
        rw [← hk, ← hX] at hq0
        by_cases hi1 : i = 1
        · have q1 : ((bs X).toList == [48, 13, 10]) = true := by rw [bs_list, beqL, hq0]; exact decide_eq_true hi1
          have HC3 : Hid (C = _) := Lib.hid (HCN.out.trans (if_neg (by rintro (h | h); exact hbig h; exact h.2 hi1)))
          clear hk hX hq0 hi1 hbig
          obtain ⟨E, hE⟩ : ∃ E, E = r := ⟨_, rfl⟩
          have hmz : min (0 : Int) (r.length : Int) = 0 := by omega
          have x1 : (bs r).extract 0 r.length = bs E := by rw [bs_cut, List.take_of_length_le (Nat.le_refl _), hE]; rfl
          have zE := bs_size E
          obtain ⟨m2, hm2⟩ : ∃ m2, m2 = min 2 E.length := ⟨_, rfl⟩
          have hm2z : min (2 : Int) (E.length : Int) = (m2 : Int) := by omega
          have hm2l : (m2 : Int) ≤ 2 := by omega
          have x2 : (⟨#[13, 10]⟩ : ByteArray).extract 0 m2 = bs (CRLF.take m2) := by
            have := bs_cut CRLF 0 m2
            rw [List.drop_zero] at this
            exact this
          have xs2 : (⟨#[13, 10]⟩ : ByteArray).size = 2 := rfl
          have HP0 : ∀ u, Calls Tryz.prog 60 #[.string (bs E), .string (bs (CRLF.take m2))] u fun e w' => e = .returned (.bool (begCR E)) ∧ w' = u := fun u => by
            have h1 := Tryz.strings_HasPrefix (bs E) (bs (CRLF.take m2)) u
            rw [show (bs E).data.toList = E from rfl, show (bs (CRLF.take m2)).data.toList = CRLF.take m2 from rfl, pre_crlf hm2] at h1
            exact h1
          generalize hBC : begCR E = bc at HP0
          have HP := Lib.hid HP0
          have HBC := Lib.hid hBC
          have HE := Lib.hid hE
          clear HP0 hBC hm2 hE
          cases bc with
          | false =>
            have HCB : Hid (C = .bad) := Lib.hid (by rw [HC3.out, if_pos (by rw [← HBC.out, HE.out]; rfl)])
            clear h0 hr hrl HCN
            go_wp2_with (first | (go_at_call 59; refine (HL.out _).mono ?_; rintro e w5 ⟨rfl, hb5⟩; have hR := hR.call hb5) | (go_at_call 60; refine (HP.out _).mono ?_; rintro e w6 ⟨rfl, rfl⟩))
            try simp only [Exit.inBlock, Exit.then]
            refine bodyPost_ret (results_tmp4 rfl _ _ _) rfl ?_
            exact ⟨Or.inl ⟨HCB.out, _, rfl⟩, hR.below⟩
          | true =>
            have HC4 : Hid (C = _) := Lib.hid (HC3.out.trans (if_neg (by rw [List.drop_zero, ← HE.out, HBC.out]; decide)))
            by_cases hs2 : r.length < 2
            · have z4 : (r.length : Int) < 2 := by omega
              have HCB : Hid (C = .short) := Lib.hid (by rw [HC4.out, if_pos hs2])
              clear h0 hr hrl HCN hs2
              go_wp2_with (first | (go_at_call 59; refine (HL.out _).mono ?_; rintro e w5 ⟨rfl, hb5⟩; have hR := hR.call hb5) | (go_at_call 60; refine (HP.out _).mono ?_; rintro e w6 ⟨rfl, rfl⟩))
              try simp only [Exit.inBlock, Exit.then]
              refine bodyPost_ret (results_tmp4 rfl _ _ _) rfl ?_
              exact ⟨Or.inr (Or.inl ⟨HCB.out, rfl⟩), hR.below⟩
            · have z4 : ¬ (r.length : Int) < 2 := by omega
              have z5 : (2 : Int) ≤ (r.length : Int) := by omega
              obtain ⟨T2, hT2⟩ : ∃ T2, T2 = r.drop 2 := ⟨_, rfl⟩
              have HCB : Hid (C = .done b T2) := Lib.hid (by rw [HC4.out, if_neg hs2, if_pos rfl, hT2])
              have x4 : (bs r).extract 0 0 = bs [] := by rw [bs_cut]; rfl
              have x5 : bs b ++ bs [] = bs b := by rw [bs_app2, List.append_nil]
              have x6 : (bs r).extract 2 r.length = bs T2 := by rw [hT2, bs_cut, List.take_of_length_le (Nat.le_refl _)]
              have z6 : (bs []).size = 0 := rfl
              clear hs2 h0 hr HCN hT2 hrl hi2
              go_upto_region 14 with (first | (go_at_call 59; refine (HL.out _).mono ?_; rintro e w5 ⟨rfl, hb5⟩; have hR := hR.call hb5) | (go_at_call 60; refine (HP.out _).mono ?_; rintro e w6 ⟨rfl, rfl⟩))
              go_quiet (fail)
              have hR := hR.call (below_drawn (Below.refl _ _) nq)
              go_wp2_with fail
              try simp only [Exit.inBlock, Exit.then]
              refine bodyPost_ret (results_tmp4 rfl _ _ _) rfl ?_
              exact ⟨Or.inr (Or.inr ⟨_, _, HCB.out, by first | rfl | (rw [← x5]; rfl)⟩), hR.below⟩
        · have q1 : ((bs X).toList == [48, 13, 10]) = false := by rw [bs_list, beqL, hq0]; exact decide_eq_false hi1
          have HCB : Hid (C = .bad) := Lib.hid (by rw [HCN.out, if_pos (Or.inr ⟨rfl, hi1⟩)])
          clear hk hX hq0 hi1 hbig h0 hr hrl HCN
          go_wp2_with (go_at_call 59; refine (HL.out _).mono ?_; rintro e w5 ⟨rfl, hb5⟩; have hR := hR.call hb5)
          try simp only [Exit.inBlock, Exit.then]
          refine bodyPost_ret (results_tmp4 rfl _ _ _) rfl ?_
          exact ⟨Or.inl ⟨HCB.out, _, rfl⟩, hR.below⟩
      · have zq : ((n : Int) == 0) = false := by simpa using hn0
        have HC3 : Hid (C = _) := Lib.hid (HCN.out.trans (if_neg (by rintro (h | h); exact hbig h; exact hn0 h.1)))
        have hbz : b.length + n ≤ 8192 := by omega
        clear hbig
        obtain ⟨m, hm⟩ : ∃ m, m = min n r.length := ⟨_, rfl⟩
        have hmz : min (n : Int) (r.length : Int) = (m : Int) := by omega
        have hml : (m : Int) ≤ (r.length : Int) := by omega
        obtain ⟨E, hE⟩ : ∃ E, E = r.drop n := ⟨_, rfl⟩
        have x1 : (bs r).extract m r.length = bs E := by
          rw [bs_cut, List.take_of_length_le (Nat.le_refl _), hE, hm]
          by_cases h : n ≤ r.length
          · rw [Nat.min_eq_left h]
          · rw [Nat.min_eq_right (by omega), List.drop_of_length_le (Nat.le_refl _), List.drop_of_length_le (by omega)]
        clear hm
        have zE := bs_size E
        obtain ⟨m2, hm2⟩ : ∃ m2, m2 = min 2 E.length := ⟨_, rfl⟩
        have hm2z : min (2 : Int) (E.length : Int) = (m2 : Int) := by omega
        have hm2l : (m2 : Int) ≤ 2 := by omega
        have x2 : (⟨#[13, 10]⟩ : ByteArray).extract 0 m2 = bs (CRLF.take m2) := by
          have := bs_cut CRLF 0 m2
          rw [List.drop_zero] at this
          exact this
        have xs2 : (⟨#[13, 10]⟩ : ByteArray).size = 2 := rfl
        have HP0 : ∀ u, Calls Tryz.prog 60 #[.string (bs E), .string (bs (CRLF.take m2))] u fun e w' => e = .returned (.bool (begCR E)) ∧ w' = u := fun u => by
          have h1 := Tryz.strings_HasPrefix (bs E) (bs (CRLF.take m2)) u
          rw [show (bs E).data.toList = E from rfl, show (bs (CRLF.take m2)).data.toList = CRLF.take m2 from rfl, pre_crlf hm2] at h1
          exact h1
        generalize hBC : begCR E = bc at HP0
        have HP := Lib.hid HP0
        have HBC := Lib.hid hBC
        have HE := Lib.hid hE
        clear HP0 hBC hm2 hE
        cases bc with
        | false =>
          have HCB : Hid (C = .bad) := Lib.hid (by rw [HC3.out, if_pos (by rw [← HE.out]; exact HBC.out)])
          clear h0 hr hrl HCN
          go_wp2_with (first | (go_at_call 59; refine (HL.out _).mono ?_; rintro e w5 ⟨rfl, hb5⟩; have hR := hR.call hb5) | (go_at_call 60; refine (HP.out _).mono ?_; rintro e w6 ⟨rfl, rfl⟩))
          try simp only [Exit.inBlock, Exit.then]
          refine bodyPost_ret (results_tmp4 rfl _ _ _) rfl ?_
          exact ⟨Or.inl ⟨HCB.out, _, rfl⟩, hR.below⟩
        | true =>
          have HC4 : Hid (C = _) := Lib.hid (HC3.out.trans (if_neg (by rw [← HE.out, HBC.out]; decide)))
          by_cases hs2 : r.length < n + 2
          · have z4 : (r.length : Int) < (n : Int) + 2 := by omega
            have HCB : Hid (C = .short) := Lib.hid (by rw [HC4.out, if_pos hs2])
            clear h0 hr hrl HCN hs2
            go_wp2_with (first | (go_at_call 59; refine (HL.out _).mono ?_; rintro e w5 ⟨rfl, hb5⟩; have hR := hR.call hb5) | (go_at_call 60; refine (HP.out _).mono ?_; rintro e w6 ⟨rfl, rfl⟩))
            try simp only [Exit.inBlock, Exit.then]
            refine bodyPost_ret (results_tmp4 rfl _ _ _) rfl ?_
            exact ⟨Or.inr (Or.inl ⟨HCB.out, rfl⟩), hR.below⟩
          · have z4 : ¬ (r.length : Int) < (n : Int) + 2 := by omega
            have z5 : (n : Int) + 2 ≤ (r.length : Int) := by omega
            have z6 : (n : Int) ≤ (r.length : Int) := by omega
            have HC4 : Hid (C = _) := Lib.hid (HC4.out.trans (if_neg hs2))
            have hB2' : (r.take n).length = n := by rw [List.length_take]; omega
            obtain ⟨B2, hB2⟩ : ∃ B2, B2 = b ++ r.take n := ⟨_, rfl⟩
            obtain ⟨T2, hT2⟩ : ∃ T2, T2 = r.drop (n + 2) := ⟨_, rfl⟩
            have lB2 : B2.length = b.length + n := by rw [hB2, List.length_append, hB2']
            have lT2 : T2.length = r.length - (n + 2) := by rw [hT2, List.length_drop]
            have zS : (bs (r.take n)).size = n := by rw [bs_size, hB2']
            have x4 : (bs r).extract 0 n = bs (r.take n) := by rw [bs_cut, List.drop_zero]
            have x5 : bs b ++ bs (r.take n) = bs B2 := by rw [hB2]; exact bs_app2 _ _
            have x6 : (bs r).extract (n + 2) r.length = bs T2 := by rw [hT2, bs_cut, List.take_of_length_le (Nat.le_refl _)]
            obtain ⟨S, hS⟩ : ∃ S, S = r.take n := ⟨_, rfl⟩
            have HCB : Hid (∃ f, T2.length < f ∧ chunkS f B2 T2 = C) := Lib.hid ⟨f, by have := HF1.out; omega, by rw [HC4.out, if_neg hn0, hB2, hT2]⟩
            have HM : Hid (T2.length < t.length ∧ B2.length ≤ 8192 ∧ T2.length ≤ 4294967296) := Lib.hid ⟨by omega, by omega, by omega⟩
            rw [← hS] at zS x4 x5
            clear hs2 h0 hr HCN hB2' hS hn0 hB2 hT2 lB2 lT2 hrl hi2
            go_upto_region 14 with (first | (go_at_call 59; refine (HL.out _).mono ?_; rintro e w5 ⟨rfl, hb5⟩; have hR := hR.call hb5) | (go_at_call 60; refine (HP.out _).mono ?_; rintro e w6 ⟨rfl, rfl⟩))
            go_quiet (fail)
            have hR := hR.call (below_drawn (Below.refl _ _) nq)
            go_wp2_with fail
            go_roundg T2.length
            case measure => exact HM.out.1
            case rel => exact ⟨T2, B2, rfl, by first | rfl | rw [x6], by first | rfl | rw [x5], HM.out.2.1, HM.out.2.2, HCB.out, hR⟩
end Go.Proofs.YtipjkjcmceeaeaaGreatDoor
