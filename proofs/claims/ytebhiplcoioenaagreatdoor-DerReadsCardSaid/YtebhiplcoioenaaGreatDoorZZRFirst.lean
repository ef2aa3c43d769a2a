/- ostiaryref01.first, Runes: the walks (gen_zrfirst.py). -/
import Derived.Test.YtebhiplcoioenaaGreatDoorZDR
import Derived.Test.YtebhiplcoioenaaGreatDoorZZRGrp
namespace Go.Proofs.YtebhiplcoioenaaGreatDoor
open Go.RowKit

theorem cvt_int (c : UInt8) (W : World) : (convert 5 3 (.int .u8 (c.toNat : Nat))).run Tryz.prog W = .ok (.int .i64 (c.toNat : Nat)) W := by
  have h1 : (convert 5 3 (.int .u8 (c.toNat : Nat))).run Tryz.prog W = .ok (.int .i64 (IntKind.i64.wrap (c.toNat : Nat))) W := by kernel_rfl
  rw [h1, IntWalk.i64_in _ (by have := c.toNat_lt; omega)]
set_option maxRecDepth 100000 in
set_option maxHeartbeats 16000000 in
theorem First_any (s : Bs) (w : World) (hs : s.length ≤ 1048576) : Calls Tryz.prog 112 #[.string (bs s)] w fun e w' => (∃ n : Nat, e = .returned (.tuple #[.int .i64 (n : Nat), .int .i64 (runeN s : Nat)])) ∧ Below w.heap.size w w' := by
  have zs := bs_size s
  go_enter Tryz.func112, Tryz.ntmps112
  go_upto_region 2 with fail
  go_loopg [4, 5] 4 (fun gg s4 _ wr => ∃ m : Nat, 1 ≤ m ∧ m ≤ 5 ∧ gg = 5 - m ∧ s4 = .int .i64 (m : Nat) ∧ Aside (∀ k, 1 ≤ k → k < m → runeN s ≠ k) ∧ Aside (Below w.heap.size w wr))
  case atStart => exact ⟨1, Nat.le_refl _, by omega, rfl, rfl, fun k h1 h2 => absurd h2 (by omega), Below.refl _ _⟩
  case round =>
    obtain ⟨m, hm1, hm5, rfl, rfl, HN, HB⟩ := hrel
    by_cases hc : m ≤ 4 ∧ m ≤ s.length
    · obtain ⟨hm4, hlen⟩ := hc
      clear zs
      rcases (show m = 1 ∨ m = 2 ∨ m = 3 ∨ m = 4 by omega) with rfl | rfl | rfl | rfl
      · skip
        obtain ⟨a, r, rfl⟩ : ∃ a r, s = a :: r := by
          match s, hlen with
          | a :: r, _ => exact ⟨a, r, rfl⟩
        have hal := a.toNat_lt
        have HG0 : Hid ((bs (a :: r)).data.toList[0]? = some a) := Lib.hid (by rw [bs_data]; rfl)
        have hg0 : ∀ h, (bs (a :: r))[0]'h = a := fun h => bs_get (a :: r) 0 a rfl h
        have zs := bs_size (a :: r)
        have hlz : (a :: r).length = r.length + 1 := rfl
        have hRs : Rws w.heap.size w wr [] := ⟨HB.out, HB.out.size, fun _ h => absurd h List.not_mem_nil, List.Pairwise.nil⟩
        go_upto_region 12 with fail
        obtain ⟨w7, hw7⟩ : ∃ w7 : World, w7 = wr := ⟨_, rfl⟩
        rw [← hw7] at hRs ⊢
        clear hw7
        have HOK := Lib.hid (ok1 a r)
        obtain ⟨N, hN⟩ : ∃ N : Nat, N = a.toNat := ⟨_, rfl⟩
        have hNl : N < 2097152 := by rw [hN]; omega
        rw [← hN] at HOK ⊢
        have HMA0 : ∀ u, Calls Tryz.prog 127 #[.int .i64 (N : Nat)] u (RW (Is (.bool (mayB N))) u) := fun u => (May_any N u (by omega)).mono fun _ _ h => rw_same h
        obtain ⟨R, hR⟩ : ∃ R, R = runeT N := ⟨_, rfl⟩
        have HRU : Hid (∀ u, Below w7.heap.size w7 u → Calls Tryz.prog 128 #[.int .i64 (N : Nat)] u (RW (Is (.string (bs R))) u)) := Lib.hid fun u _ => by rw [hR]; exact (Rune_any N u hNl).mono fun _ _ h => rw_below h
        rw [← hR] at HOK
        clear hN hR HG0 hg0
        cases hm : mayB N with
        | false =>
          rw [hm] at HMA0 HOK
          have HMA : Hid (∀ u, Below w7.heap.size w7 u → Calls Tryz.prog 127 #[.int .i64 (N : Nat)] u (RW (Is (.bool false)) u)) := Lib.hid fun u _ => HMA0 u
          have HNE : Hid (runeN (a :: r) ≠ 1) := Lib.hid fun h => by have := HOK.out.2 h; simp at this
          clear HMA0 hm HOK
          refine wp_region_softG 9 (by kernel_rfl) (by kernel_rfl) (by rfl) hRs ?_
          refine g_move (R := Is (.int .i64 (N : Nat))) (by rfl) (stb_is _) (by exact fun _ _ _ h => h) ?_
          refine g_callK (f := 127) (xs := [.tmp 74]) [.int .i64 (N : Nat)] (R := Is (.bool false)) (by rfl) Tryz.func127 (by kernel_rfl) rfl (stb_is _) ⟨(by exact fun _ _ _ h => h), trivial⟩ (HMA.out) ?_
          refine g_move (R := Is (.bool false)) (by rfl) (stb_is _) (by exact fun _ _ _ h => h) ?_
          refine g_dead (dead_of rfl rfl (fun _ _ _ h => h) (by rfl)) ?_
          refine g_dead (dead_of rfl rfl (fun _ _ _ h => h) (by rfl)) ?_
          refine g_dead (dead_of rfl rfl (fun _ _ _ h => h) (by rfl)) ?_
          refine g_dead (dead_of rfl rfl (fun _ _ _ h => h) (by rfl)) ?_
          refine g_dead (dead_of rfl rfl (fun _ _ _ h => h) (by rfl)) ?_
          refine g_dead (dead_of rfl rfl (fun _ _ _ h => h) (by rfl)) ?_
          intro w12 hR12 hb12 v74 h74 v75 h75 v76 h76 v77 h77 v78 h78 v79 h79 v80 h80 v81 h81 v82 h82
          simp only [softEnd, Act.put, List.setIfInBounds_toArray, List.set_cons_succ, List.set_cons_zero, List.drop_succ_cons, List.drop_zero]
          obtain rfl : v76 = .bool false := h76
          clear h74 h75 h77 h78 h79 h80 h81 h82
          have HN2 : Hid (∀ q, 1 ≤ q → q < 2 → runeN (a :: r) ≠ q) := Lib.hid fun q h1 h2 => by
            rcases Nat.lt_or_ge q 1 with h | h
            · exact HN.out q h1 h
            · obtain rfl : q = 1 := by omega
              exact HNE.out
          go_wp2_with fail
          go_roundg 3
          case measure => omega
          case rel => exact ⟨2, by omega, by omega, rfl, rfl, HN2.out, hR12.below⟩
        | true =>
          rw [hm] at HMA0 HOK
          have HMA : Hid (∀ u, Below w7.heap.size w7 u → Calls Tryz.prog 127 #[.int .i64 (N : Nat)] u (RW (Is (.bool true)) u)) := Lib.hid fun u _ => HMA0 u
          by_cases hq : R = [a]
          · have HE : Hid (runeN (a :: r) = 1) := Lib.hid (HOK.out.1 ⟨rfl, hq⟩)
            have HEQ : Hid (((bs R).toList == (bs ((a :: r).take 1)).toList) = true) := Lib.hid (by rw [hq]; simp)
            clear HMA0 hm HOK hq
            refine wp_region_softG 9 (by kernel_rfl) (by kernel_rfl) (by rfl) hRs ?_
            refine g_move (R := Is (.int .i64 (N : Nat))) (by rfl) (stb_is _) (by exact fun _ _ _ h => h) ?_
            refine g_callK (f := 127) (xs := [.tmp 74]) [.int .i64 (N : Nat)] (R := Is (.bool true)) (by rfl) Tryz.func127 (by kernel_rfl) rfl (stb_is _) ⟨(by exact fun _ _ _ h => h), trivial⟩ (HMA.out) ?_
            refine g_move (R := Is (.bool true)) (by rfl) (stb_is _) (by exact fun _ _ _ h => h) ?_
            refine g_move (R := Is (.int .i64 (N : Nat))) (by rfl) (stb_is _) (by exact fun _ _ _ h => h) ?_
            refine g_callK (f := 128) (xs := [.tmp 77]) [.int .i64 (N : Nat)] (R := Is (.string (bs R))) (by rfl) Tryz.func128 (by kernel_rfl) rfl (stb_is _) ⟨(by exact fun _ _ _ h => h), trivial⟩ (HRU.out) ?_
            refine g_move (R := Is (.string (bs (a :: r)))) (by rfl) (stb_is _) (by exact fun _ _ _ h => h) ?_
            refine g_move (R := Is (.int .i64 1)) (by rfl) (stb_is _) (by exact fun _ _ _ h => h) ?_
            refine g_cutT (s := (a :: r)) (k := 1) (by rfl) (by exact fun _ _ _ h => h) (by exact fun _ _ _ h => h) (by simp) ?_
            refine g_bin (v := .string (bs R)) (u := .string (bs ((a :: r).take 1))) (r := .bool true) (by rfl) (by exact fun _ _ _ h => h) (by exact fun _ _ _ h => h) (by rfl) (fun W => bin_eqs _ _ HEQ.out W) ?_
            intro w12 hR12 hb12 v74 h74 v75 h75 v76 h76 v77 h77 v78 h78 v79 h79 v80 h80 v81 h81 v82 h82
            simp only [softEnd, Act.put, List.setIfInBounds_toArray, List.set_cons_succ, List.set_cons_zero, List.drop_succ_cons, List.drop_zero]
            obtain rfl : v76 = .bool true := h76
            obtain rfl : v82 = .bool true := h82
            clear h74 h75 h77 h78 h79 h80 h81
            go_wp2_with fail
            go_ret2
            rw [HE.out]
            exact ⟨⟨_, rfl⟩, hR12.below⟩
          · have HNE : Hid (runeN (a :: r) ≠ 1) := Lib.hid fun h => hq (HOK.out.2 h).2
            have HEQ : Hid (((bs R).toList == (bs ((a :: r).take 1)).toList) = false) := Lib.hid (by
              rw [bs_list, bs_list]
              simpa using hq)
            clear HMA0 hm HOK hq
            refine wp_region_softG 9 (by kernel_rfl) (by kernel_rfl) (by rfl) hRs ?_
            refine g_move (R := Is (.int .i64 (N : Nat))) (by rfl) (stb_is _) (by exact fun _ _ _ h => h) ?_
            refine g_callK (f := 127) (xs := [.tmp 74]) [.int .i64 (N : Nat)] (R := Is (.bool true)) (by rfl) Tryz.func127 (by kernel_rfl) rfl (stb_is _) ⟨(by exact fun _ _ _ h => h), trivial⟩ (HMA.out) ?_
            refine g_move (R := Is (.bool true)) (by rfl) (stb_is _) (by exact fun _ _ _ h => h) ?_
            refine g_move (R := Is (.int .i64 (N : Nat))) (by rfl) (stb_is _) (by exact fun _ _ _ h => h) ?_
            refine g_callK (f := 128) (xs := [.tmp 77]) [.int .i64 (N : Nat)] (R := Is (.string (bs R))) (by rfl) Tryz.func128 (by kernel_rfl) rfl (stb_is _) ⟨(by exact fun _ _ _ h => h), trivial⟩ (HRU.out) ?_
            refine g_move (R := Is (.string (bs (a :: r)))) (by rfl) (stb_is _) (by exact fun _ _ _ h => h) ?_
            refine g_move (R := Is (.int .i64 1)) (by rfl) (stb_is _) (by exact fun _ _ _ h => h) ?_
            refine g_cutT (s := (a :: r)) (k := 1) (by rfl) (by exact fun _ _ _ h => h) (by exact fun _ _ _ h => h) (by simp) ?_
            refine g_bin (v := .string (bs R)) (u := .string (bs ((a :: r).take 1))) (r := .bool false) (by rfl) (by exact fun _ _ _ h => h) (by exact fun _ _ _ h => h) (by rfl) (fun W => bin_eqs _ _ HEQ.out W) ?_
            intro w12 hR12 hb12 v74 h74 v75 h75 v76 h76 v77 h77 v78 h78 v79 h79 v80 h80 v81 h81 v82 h82
            simp only [softEnd, Act.put, List.setIfInBounds_toArray, List.set_cons_succ, List.set_cons_zero, List.drop_succ_cons, List.drop_zero]
            obtain rfl : v76 = .bool true := h76
            obtain rfl : v82 = .bool false := h82
            clear h74 h75 h77 h78 h79 h80 h81
            have HN2 : Hid (∀ q, 1 ≤ q → q < 2 → runeN (a :: r) ≠ q) := Lib.hid fun q h1 h2 => by
              rcases Nat.lt_or_ge q 1 with h | h
              · exact HN.out q h1 h
              · obtain rfl : q = 1 := by omega
                exact HNE.out
            go_wp2_with fail
            go_roundg 3
            case measure => omega
            case rel => exact ⟨2, by omega, by omega, rfl, rfl, HN2.out, hR12.below⟩
      · skip
        obtain ⟨a, b, r, rfl⟩ : ∃ a b r, s = a :: b :: r := by
          match s, hlen with
          | a :: b :: r, _ => exact ⟨a, b, r, rfl⟩
        have hal := a.toNat_lt
        have HG0 : Hid ((bs (a :: b :: r)).data.toList[0]? = some a) := Lib.hid (by rw [bs_data]; rfl)
        have hg0 : ∀ h, (bs (a :: b :: r))[0]'h = a := fun h => bs_get (a :: b :: r) 0 a rfl h
        have hbl := b.toNat_lt
        have HG1 : Hid ((bs (a :: b :: r)).data.toList[1]? = some b) := Lib.hid (by rw [bs_data]; rfl)
        have hg1 : ∀ h, (bs (a :: b :: r))[1]'h = b := fun h => bs_get (a :: b :: r) 1 b rfl h
        have zs := bs_size (a :: b :: r)
        have hlz : (a :: b :: r).length = r.length + 2 := rfl
        have hRs : Rws w.heap.size w wr [] := ⟨HB.out, HB.out.size, fun _ h => absurd h List.not_mem_nil, List.Pairwise.nil⟩
        go_upto_region 7 with fail
        refine wp_region_softG 10 (by kernel_rfl) (by kernel_rfl) (by rfl) hRs ?_
        refine g_move (R := Is (.string (bs (a :: b :: r)))) (by rfl) (stb_is _) (by exact fun _ _ _ h => h) ?_
        refine g_byte (u := a) (i := 0) (by rfl) (by exact fun _ _ _ h => h) (by exact fun _ _ _ h => h) (HG0.out) ?_
        refine g_cvn (v := .int .u8 (a.toNat : Nat)) (r := .int .i64 (a.toNat : Nat)) (by rfl) (by exact fun _ _ _ h => h) (fun W => cvt_int a W) ?_
        refine g_bin (v := .int .i64 (a.toNat : Nat)) (u := .int .i64 32) (r := .int .i64 (a.toNat % 32 : Nat)) (by rfl) (by exact fun _ _ _ h => h) (by exact fun _ _ _ h => h) (by rfl) (fun W => bin_rem2 _ _ (by decide) (by decide) (by omega) W) ?_
        refine g_bin (v := .int .i64 (a.toNat % 32 : Nat)) (u := .int .i64 64) (r := .int .i64 (a.toNat % 32 * 64 : Nat)) (by rfl) (by exact fun _ _ _ h => h) (by exact fun _ _ _ h => h) (by rfl) (fun W => bin_mul2 _ 64 _ rfl (by omega) W) ?_
        refine g_move (R := Is (.string (bs (a :: b :: r)))) (by rfl) (stb_is _) (by exact fun _ _ _ h => h) ?_
        refine g_byte (u := b) (i := 1) (by rfl) (by exact fun _ _ _ h => h) (by exact fun _ _ _ h => h) (HG1.out) ?_
        refine g_cvn (v := .int .u8 (b.toNat : Nat)) (r := .int .i64 (b.toNat : Nat)) (by rfl) (by exact fun _ _ _ h => h) (fun W => cvt_int b W) ?_
        refine g_bin (v := .int .i64 (b.toNat : Nat)) (u := .int .i64 64) (r := .int .i64 (b.toNat % 64 : Nat)) (by rfl) (by exact fun _ _ _ h => h) (by exact fun _ _ _ h => h) (by rfl) (fun W => bin_rem2 _ _ (by decide) (by decide) (by omega) W) ?_
        refine g_bin (v := .int .i64 (a.toNat % 32 * 64 : Nat)) (u := .int .i64 (b.toNat % 64 : Nat)) (r := .int .i64 (a.toNat % 32 * 64 + b.toNat % 64 : Nat)) (by rfl) (by exact fun _ _ _ h => h) (by exact fun _ _ _ h => h) (by rfl) (fun W => bin_add2 _ _ _ rfl (by omega) W) ?_
        intro w7 hR7 hb7 v22 h22 v23 h23 v24 h24 v25 h25 v26 h26 v27 h27 v28 h28 v29 h29 v30 h30 v31 h31
        simp only [softEnd, Act.put, List.setIfInBounds_toArray, List.set_cons_succ, List.set_cons_zero, List.drop_succ_cons, List.drop_zero]
        obtain rfl : v31 = .int .i64 (a.toNat % 32 * 64 + b.toNat % 64 : Nat) := h31
        clear h22 h23 h24 h25 h26 h27 h28 h29 h30
        have hRs := hR7
        clear hR7 hb7
        go_upto_region 12 with fail
        have HOK := Lib.hid (ok2 a b r)
        obtain ⟨N, hN⟩ : ∃ N : Nat, N = a.toNat % 32 * 64 + b.toNat % 64 := ⟨_, rfl⟩
        have hNl : N < 2097152 := by rw [hN]; omega
        rw [← hN] at HOK ⊢
        have HMA0 : ∀ u, Calls Tryz.prog 127 #[.int .i64 (N : Nat)] u (RW (Is (.bool (mayB N))) u) := fun u => (May_any N u (by omega)).mono fun _ _ h => rw_same h
        obtain ⟨R, hR⟩ : ∃ R, R = runeT N := ⟨_, rfl⟩
        have HRU : Hid (∀ u, Below w7.heap.size w7 u → Calls Tryz.prog 128 #[.int .i64 (N : Nat)] u (RW (Is (.string (bs R))) u)) := Lib.hid fun u _ => by rw [hR]; exact (Rune_any N u hNl).mono fun _ _ h => rw_below h
        rw [← hR] at HOK
        clear hN hR HG0 HG1 hg0 hg1
        cases hm : mayB N with
        | false =>
          rw [hm] at HMA0 HOK
          have HMA : Hid (∀ u, Below w7.heap.size w7 u → Calls Tryz.prog 127 #[.int .i64 (N : Nat)] u (RW (Is (.bool false)) u)) := Lib.hid fun u _ => HMA0 u
          have HNE : Hid (runeN (a :: b :: r) ≠ 2) := Lib.hid fun h => by have := HOK.out.2 h; simp at this
          clear HMA0 hm HOK
          refine wp_region_softG 9 (by kernel_rfl) (by kernel_rfl) (by rfl) hRs ?_
          refine g_move (R := Is (.int .i64 (N : Nat))) (by rfl) (stb_is _) (by exact fun _ _ _ h => h) ?_
          refine g_callK (f := 127) (xs := [.tmp 74]) [.int .i64 (N : Nat)] (R := Is (.bool false)) (by rfl) Tryz.func127 (by kernel_rfl) rfl (stb_is _) ⟨(by exact fun _ _ _ h => h), trivial⟩ (HMA.out) ?_
          refine g_move (R := Is (.bool false)) (by rfl) (stb_is _) (by exact fun _ _ _ h => h) ?_
          refine g_dead (dead_of rfl rfl (fun _ _ _ h => h) (by rfl)) ?_
          refine g_dead (dead_of rfl rfl (fun _ _ _ h => h) (by rfl)) ?_
          refine g_dead (dead_of rfl rfl (fun _ _ _ h => h) (by rfl)) ?_
          refine g_dead (dead_of rfl rfl (fun _ _ _ h => h) (by rfl)) ?_
          refine g_dead (dead_of rfl rfl (fun _ _ _ h => h) (by rfl)) ?_
          refine g_dead (dead_of rfl rfl (fun _ _ _ h => h) (by rfl)) ?_
          intro w12 hR12 hb12 v74 h74 v75 h75 v76 h76 v77 h77 v78 h78 v79 h79 v80 h80 v81 h81 v82 h82
          simp only [softEnd, Act.put, List.setIfInBounds_toArray, List.set_cons_succ, List.set_cons_zero, List.drop_succ_cons, List.drop_zero]
          obtain rfl : v76 = .bool false := h76
          clear h74 h75 h77 h78 h79 h80 h81 h82
          have HN2 : Hid (∀ q, 1 ≤ q → q < 3 → runeN (a :: b :: r) ≠ q) := Lib.hid fun q h1 h2 => by
            rcases Nat.lt_or_ge q 2 with h | h
            · exact HN.out q h1 h
            · obtain rfl : q = 2 := by omega
              exact HNE.out
          go_wp2_with fail
          go_roundg 2
          case measure => omega
          case rel => exact ⟨3, by omega, by omega, rfl, rfl, HN2.out, hR12.below⟩
        | true =>
          rw [hm] at HMA0 HOK
          have HMA : Hid (∀ u, Below w7.heap.size w7 u → Calls Tryz.prog 127 #[.int .i64 (N : Nat)] u (RW (Is (.bool true)) u)) := Lib.hid fun u _ => HMA0 u
          by_cases hq : R = [a, b]
          · have HE : Hid (runeN (a :: b :: r) = 2) := Lib.hid (HOK.out.1 ⟨rfl, hq⟩)
            have HEQ : Hid (((bs R).toList == (bs ((a :: b :: r).take 2)).toList) = true) := Lib.hid (by rw [hq]; simp)
            clear HMA0 hm HOK hq
            refine wp_region_softG 9 (by kernel_rfl) (by kernel_rfl) (by rfl) hRs ?_
            refine g_move (R := Is (.int .i64 (N : Nat))) (by rfl) (stb_is _) (by exact fun _ _ _ h => h) ?_
            refine g_callK (f := 127) (xs := [.tmp 74]) [.int .i64 (N : Nat)] (R := Is (.bool true)) (by rfl) Tryz.func127 (by kernel_rfl) rfl (stb_is _) ⟨(by exact fun _ _ _ h => h), trivial⟩ (HMA.out) ?_
            refine g_move (R := Is (.bool true)) (by rfl) (stb_is _) (by exact fun _ _ _ h => h) ?_
            refine g_move (R := Is (.int .i64 (N : Nat))) (by rfl) (stb_is _) (by exact fun _ _ _ h => h) ?_
            refine g_callK (f := 128) (xs := [.tmp 77]) [.int .i64 (N : Nat)] (R := Is (.string (bs R))) (by rfl) Tryz.func128 (by kernel_rfl) rfl (stb_is _) ⟨(by exact fun _ _ _ h => h), trivial⟩ (HRU.out) ?_
            refine g_move (R := Is (.string (bs (a :: b :: r)))) (by rfl) (stb_is _) (by exact fun _ _ _ h => h) ?_
            refine g_move (R := Is (.int .i64 2)) (by rfl) (stb_is _) (by exact fun _ _ _ h => h) ?_
            refine g_cutT (s := (a :: b :: r)) (k := 2) (by rfl) (by exact fun _ _ _ h => h) (by exact fun _ _ _ h => h) (by simp) ?_
            refine g_bin (v := .string (bs R)) (u := .string (bs ((a :: b :: r).take 2))) (r := .bool true) (by rfl) (by exact fun _ _ _ h => h) (by exact fun _ _ _ h => h) (by rfl) (fun W => bin_eqs _ _ HEQ.out W) ?_
            intro w12 hR12 hb12 v74 h74 v75 h75 v76 h76 v77 h77 v78 h78 v79 h79 v80 h80 v81 h81 v82 h82
            simp only [softEnd, Act.put, List.setIfInBounds_toArray, List.set_cons_succ, List.set_cons_zero, List.drop_succ_cons, List.drop_zero]
            obtain rfl : v76 = .bool true := h76
            obtain rfl : v82 = .bool true := h82
            clear h74 h75 h77 h78 h79 h80 h81
            go_wp2_with fail
            go_ret2
            rw [HE.out]
            exact ⟨⟨_, rfl⟩, hR12.below⟩
          · have HNE : Hid (runeN (a :: b :: r) ≠ 2) := Lib.hid fun h => hq (HOK.out.2 h).2
            have HEQ : Hid (((bs R).toList == (bs ((a :: b :: r).take 2)).toList) = false) := Lib.hid (by
              rw [bs_list, bs_list]
              simpa using hq)
            clear HMA0 hm HOK hq
            refine wp_region_softG 9 (by kernel_rfl) (by kernel_rfl) (by rfl) hRs ?_
            refine g_move (R := Is (.int .i64 (N : Nat))) (by rfl) (stb_is _) (by exact fun _ _ _ h => h) ?_
            refine g_callK (f := 127) (xs := [.tmp 74]) [.int .i64 (N : Nat)] (R := Is (.bool true)) (by rfl) Tryz.func127 (by kernel_rfl) rfl (stb_is _) ⟨(by exact fun _ _ _ h => h), trivial⟩ (HMA.out) ?_
            refine g_move (R := Is (.bool true)) (by rfl) (stb_is _) (by exact fun _ _ _ h => h) ?_
            refine g_move (R := Is (.int .i64 (N : Nat))) (by rfl) (stb_is _) (by exact fun _ _ _ h => h) ?_
            refine g_callK (f := 128) (xs := [.tmp 77]) [.int .i64 (N : Nat)] (R := Is (.string (bs R))) (by rfl) Tryz.func128 (by kernel_rfl) rfl (stb_is _) ⟨(by exact fun _ _ _ h => h), trivial⟩ (HRU.out) ?_
            refine g_move (R := Is (.string (bs (a :: b :: r)))) (by rfl) (stb_is _) (by exact fun _ _ _ h => h) ?_
            refine g_move (R := Is (.int .i64 2)) (by rfl) (stb_is _) (by exact fun _ _ _ h => h) ?_
            refine g_cutT (s := (a :: b :: r)) (k := 2) (by rfl) (by exact fun _ _ _ h => h) (by exact fun _ _ _ h => h) (by simp) ?_
            refine g_bin (v := .string (bs R)) (u := .string (bs ((a :: b :: r).take 2))) (r := .bool false) (by rfl) (by exact fun _ _ _ h => h) (by exact fun _ _ _ h => h) (by rfl) (fun W => bin_eqs _ _ HEQ.out W) ?_
            intro w12 hR12 hb12 v74 h74 v75 h75 v76 h76 v77 h77 v78 h78 v79 h79 v80 h80 v81 h81 v82 h82
            simp only [softEnd, Act.put, List.setIfInBounds_toArray, List.set_cons_succ, List.set_cons_zero, List.drop_succ_cons, List.drop_zero]
            obtain rfl : v76 = .bool true := h76
            obtain rfl : v82 = .bool false := h82
            clear h74 h75 h77 h78 h79 h80 h81
            have HN2 : Hid (∀ q, 1 ≤ q → q < 3 → runeN (a :: b :: r) ≠ q) := Lib.hid fun q h1 h2 => by
              rcases Nat.lt_or_ge q 2 with h | h
              · exact HN.out q h1 h
              · obtain rfl : q = 2 := by omega
                exact HNE.out
            go_wp2_with fail
            go_roundg 2
            case measure => omega
            case rel => exact ⟨3, by omega, by omega, rfl, rfl, HN2.out, hR12.below⟩
      · skip
        obtain ⟨a, b, c, r, rfl⟩ : ∃ a b c r, s = a :: b :: c :: r := by
          match s, hlen with
          | a :: b :: c :: r, _ => exact ⟨a, b, c, r, rfl⟩
        have hal := a.toNat_lt
        have HG0 : Hid ((bs (a :: b :: c :: r)).data.toList[0]? = some a) := Lib.hid (by rw [bs_data]; rfl)
        have hg0 : ∀ h, (bs (a :: b :: c :: r))[0]'h = a := fun h => bs_get (a :: b :: c :: r) 0 a rfl h
        have hbl := b.toNat_lt
        have HG1 : Hid ((bs (a :: b :: c :: r)).data.toList[1]? = some b) := Lib.hid (by rw [bs_data]; rfl)
        have hg1 : ∀ h, (bs (a :: b :: c :: r))[1]'h = b := fun h => bs_get (a :: b :: c :: r) 1 b rfl h
        have hcl := c.toNat_lt
        have HG2 : Hid ((bs (a :: b :: c :: r)).data.toList[2]? = some c) := Lib.hid (by rw [bs_data]; rfl)
        have hg2 : ∀ h, (bs (a :: b :: c :: r))[2]'h = c := fun h => bs_get (a :: b :: c :: r) 2 c rfl h
        have zs := bs_size (a :: b :: c :: r)
        have hlz : (a :: b :: c :: r).length = r.length + 3 := rfl
        have hRs : Rws w.heap.size w wr [] := ⟨HB.out, HB.out.size, fun _ h => absurd h List.not_mem_nil, List.Pairwise.nil⟩
        go_upto_region 9 with fail
        refine wp_region_softG 16 (by kernel_rfl) (by kernel_rfl) (by rfl) hRs ?_
        refine g_move (R := Is (.string (bs (a :: b :: c :: r)))) (by rfl) (stb_is _) (by exact fun _ _ _ h => h) ?_
        refine g_byte (u := a) (i := 0) (by rfl) (by exact fun _ _ _ h => h) (by exact fun _ _ _ h => h) (HG0.out) ?_
        refine g_cvn (v := .int .u8 (a.toNat : Nat)) (r := .int .i64 (a.toNat : Nat)) (by rfl) (by exact fun _ _ _ h => h) (fun W => cvt_int a W) ?_
        refine g_bin (v := .int .i64 (a.toNat : Nat)) (u := .int .i64 16) (r := .int .i64 (a.toNat % 16 : Nat)) (by rfl) (by exact fun _ _ _ h => h) (by exact fun _ _ _ h => h) (by rfl) (fun W => bin_rem2 _ _ (by decide) (by decide) (by omega) W) ?_
        refine g_bin (v := .int .i64 (a.toNat % 16 : Nat)) (u := .int .i64 4096) (r := .int .i64 (a.toNat % 16 * 4096 : Nat)) (by rfl) (by exact fun _ _ _ h => h) (by exact fun _ _ _ h => h) (by rfl) (fun W => bin_mul2 _ 4096 _ rfl (by omega) W) ?_
        refine g_move (R := Is (.string (bs (a :: b :: c :: r)))) (by rfl) (stb_is _) (by exact fun _ _ _ h => h) ?_
        refine g_byte (u := b) (i := 1) (by rfl) (by exact fun _ _ _ h => h) (by exact fun _ _ _ h => h) (HG1.out) ?_
        refine g_cvn (v := .int .u8 (b.toNat : Nat)) (r := .int .i64 (b.toNat : Nat)) (by rfl) (by exact fun _ _ _ h => h) (fun W => cvt_int b W) ?_
        refine g_bin (v := .int .i64 (b.toNat : Nat)) (u := .int .i64 64) (r := .int .i64 (b.toNat % 64 : Nat)) (by rfl) (by exact fun _ _ _ h => h) (by exact fun _ _ _ h => h) (by rfl) (fun W => bin_rem2 _ _ (by decide) (by decide) (by omega) W) ?_
        refine g_bin (v := .int .i64 (b.toNat % 64 : Nat)) (u := .int .i64 64) (r := .int .i64 (b.toNat % 64 * 64 : Nat)) (by rfl) (by exact fun _ _ _ h => h) (by exact fun _ _ _ h => h) (by rfl) (fun W => bin_mul2 _ 64 _ rfl (by omega) W) ?_
        refine g_bin (v := .int .i64 (a.toNat % 16 * 4096 : Nat)) (u := .int .i64 (b.toNat % 64 * 64 : Nat)) (r := .int .i64 (a.toNat % 16 * 4096 + b.toNat % 64 * 64 : Nat)) (by rfl) (by exact fun _ _ _ h => h) (by exact fun _ _ _ h => h) (by rfl) (fun W => bin_add2 _ _ _ rfl (by omega) W) ?_
        refine g_move (R := Is (.string (bs (a :: b :: c :: r)))) (by rfl) (stb_is _) (by exact fun _ _ _ h => h) ?_
        refine g_byte (u := c) (i := 2) (by rfl) (by exact fun _ _ _ h => h) (by exact fun _ _ _ h => h) (HG2.out) ?_
        refine g_cvn (v := .int .u8 (c.toNat : Nat)) (r := .int .i64 (c.toNat : Nat)) (by rfl) (by exact fun _ _ _ h => h) (fun W => cvt_int c W) ?_
        refine g_bin (v := .int .i64 (c.toNat : Nat)) (u := .int .i64 64) (r := .int .i64 (c.toNat % 64 : Nat)) (by rfl) (by exact fun _ _ _ h => h) (by exact fun _ _ _ h => h) (by rfl) (fun W => bin_rem2 _ _ (by decide) (by decide) (by omega) W) ?_
        refine g_bin (v := .int .i64 (a.toNat % 16 * 4096 + b.toNat % 64 * 64 : Nat)) (u := .int .i64 (c.toNat % 64 : Nat)) (r := .int .i64 (a.toNat % 16 * 4096 + b.toNat % 64 * 64 + c.toNat % 64 : Nat)) (by rfl) (by exact fun _ _ _ h => h) (by exact fun _ _ _ h => h) (by rfl) (fun W => bin_add2 _ _ _ rfl (by omega) W) ?_
        intro w7 hR7 hb7 v34 h34 v35 h35 v36 h36 v37 h37 v38 h38 v39 h39 v40 h40 v41 h41 v42 h42 v43 h43 v44 h44 v45 h45 v46 h46 v47 h47 v48 h48 v49 h49
        simp only [softEnd, Act.put, List.setIfInBounds_toArray, List.set_cons_succ, List.set_cons_zero, List.drop_succ_cons, List.drop_zero]
        obtain rfl : v49 = .int .i64 (a.toNat % 16 * 4096 + b.toNat % 64 * 64 + c.toNat % 64 : Nat) := h49
        clear h34 h35 h36 h37 h38 h39 h40 h41 h42 h43 h44 h45 h46 h47 h48
        have hRs := hR7
        clear hR7 hb7
        go_upto_region 12 with fail
        have HOK := Lib.hid (ok3 a b c r)
        obtain ⟨N, hN⟩ : ∃ N : Nat, N = a.toNat % 16 * 4096 + b.toNat % 64 * 64 + c.toNat % 64 := ⟨_, rfl⟩
        have hNl : N < 2097152 := by rw [hN]; omega
        rw [← hN] at HOK ⊢
        have HMA0 : ∀ u, Calls Tryz.prog 127 #[.int .i64 (N : Nat)] u (RW (Is (.bool (mayB N))) u) := fun u => (May_any N u (by omega)).mono fun _ _ h => rw_same h
        obtain ⟨R, hR⟩ : ∃ R, R = runeT N := ⟨_, rfl⟩
        have HRU : Hid (∀ u, Below w7.heap.size w7 u → Calls Tryz.prog 128 #[.int .i64 (N : Nat)] u (RW (Is (.string (bs R))) u)) := Lib.hid fun u _ => by rw [hR]; exact (Rune_any N u hNl).mono fun _ _ h => rw_below h
        rw [← hR] at HOK
        clear hN hR HG0 HG1 HG2 hg0 hg1 hg2
        cases hm : mayB N with
        | false =>
          rw [hm] at HMA0 HOK
          have HMA : Hid (∀ u, Below w7.heap.size w7 u → Calls Tryz.prog 127 #[.int .i64 (N : Nat)] u (RW (Is (.bool false)) u)) := Lib.hid fun u _ => HMA0 u
          have HNE : Hid (runeN (a :: b :: c :: r) ≠ 3) := Lib.hid fun h => by have := HOK.out.2 h; simp at this
          clear HMA0 hm HOK
          refine wp_region_softG 9 (by kernel_rfl) (by kernel_rfl) (by rfl) hRs ?_
          refine g_move (R := Is (.int .i64 (N : Nat))) (by rfl) (stb_is _) (by exact fun _ _ _ h => h) ?_
          refine g_callK (f := 127) (xs := [.tmp 74]) [.int .i64 (N : Nat)] (R := Is (.bool false)) (by rfl) Tryz.func127 (by kernel_rfl) rfl (stb_is _) ⟨(by exact fun _ _ _ h => h), trivial⟩ (HMA.out) ?_
          refine g_move (R := Is (.bool false)) (by rfl) (stb_is _) (by exact fun _ _ _ h => h) ?_
          refine g_dead (dead_of rfl rfl (fun _ _ _ h => h) (by rfl)) ?_
          refine g_dead (dead_of rfl rfl (fun _ _ _ h => h) (by rfl)) ?_
          refine g_dead (dead_of rfl rfl (fun _ _ _ h => h) (by rfl)) ?_
          refine g_dead (dead_of rfl rfl (fun _ _ _ h => h) (by rfl)) ?_
          refine g_dead (dead_of rfl rfl (fun _ _ _ h => h) (by rfl)) ?_
          refine g_dead (dead_of rfl rfl (fun _ _ _ h => h) (by rfl)) ?_
          intro w12 hR12 hb12 v74 h74 v75 h75 v76 h76 v77 h77 v78 h78 v79 h79 v80 h80 v81 h81 v82 h82
          simp only [softEnd, Act.put, List.setIfInBounds_toArray, List.set_cons_succ, List.set_cons_zero, List.drop_succ_cons, List.drop_zero]
          obtain rfl : v76 = .bool false := h76
          clear h74 h75 h77 h78 h79 h80 h81 h82
          have HN2 : Hid (∀ q, 1 ≤ q → q < 4 → runeN (a :: b :: c :: r) ≠ q) := Lib.hid fun q h1 h2 => by
            rcases Nat.lt_or_ge q 3 with h | h
            · exact HN.out q h1 h
            · obtain rfl : q = 3 := by omega
              exact HNE.out
          go_wp2_with fail
          go_roundg 1
          case measure => omega
          case rel => exact ⟨4, by omega, by omega, rfl, rfl, HN2.out, hR12.below⟩
        | true =>
          rw [hm] at HMA0 HOK
          have HMA : Hid (∀ u, Below w7.heap.size w7 u → Calls Tryz.prog 127 #[.int .i64 (N : Nat)] u (RW (Is (.bool true)) u)) := Lib.hid fun u _ => HMA0 u
          by_cases hq : R = [a, b, c]
          · have HE : Hid (runeN (a :: b :: c :: r) = 3) := Lib.hid (HOK.out.1 ⟨rfl, hq⟩)
            have HEQ : Hid (((bs R).toList == (bs ((a :: b :: c :: r).take 3)).toList) = true) := Lib.hid (by rw [hq]; simp)
            clear HMA0 hm HOK hq
            refine wp_region_softG 9 (by kernel_rfl) (by kernel_rfl) (by rfl) hRs ?_
            refine g_move (R := Is (.int .i64 (N : Nat))) (by rfl) (stb_is _) (by exact fun _ _ _ h => h) ?_
            refine g_callK (f := 127) (xs := [.tmp 74]) [.int .i64 (N : Nat)] (R := Is (.bool true)) (by rfl) Tryz.func127 (by kernel_rfl) rfl (stb_is _) ⟨(by exact fun _ _ _ h => h), trivial⟩ (HMA.out) ?_
            refine g_move (R := Is (.bool true)) (by rfl) (stb_is _) (by exact fun _ _ _ h => h) ?_
            refine g_move (R := Is (.int .i64 (N : Nat))) (by rfl) (stb_is _) (by exact fun _ _ _ h => h) ?_
            refine g_callK (f := 128) (xs := [.tmp 77]) [.int .i64 (N : Nat)] (R := Is (.string (bs R))) (by rfl) Tryz.func128 (by kernel_rfl) rfl (stb_is _) ⟨(by exact fun _ _ _ h => h), trivial⟩ (HRU.out) ?_
            refine g_move (R := Is (.string (bs (a :: b :: c :: r)))) (by rfl) (stb_is _) (by exact fun _ _ _ h => h) ?_
            refine g_move (R := Is (.int .i64 3)) (by rfl) (stb_is _) (by exact fun _ _ _ h => h) ?_
            refine g_cutT (s := (a :: b :: c :: r)) (k := 3) (by rfl) (by exact fun _ _ _ h => h) (by exact fun _ _ _ h => h) (by simp) ?_
            refine g_bin (v := .string (bs R)) (u := .string (bs ((a :: b :: c :: r).take 3))) (r := .bool true) (by rfl) (by exact fun _ _ _ h => h) (by exact fun _ _ _ h => h) (by rfl) (fun W => bin_eqs _ _ HEQ.out W) ?_
            intro w12 hR12 hb12 v74 h74 v75 h75 v76 h76 v77 h77 v78 h78 v79 h79 v80 h80 v81 h81 v82 h82
            simp only [softEnd, Act.put, List.setIfInBounds_toArray, List.set_cons_succ, List.set_cons_zero, List.drop_succ_cons, List.drop_zero]
            obtain rfl : v76 = .bool true := h76
            obtain rfl : v82 = .bool true := h82
            clear h74 h75 h77 h78 h79 h80 h81
            go_wp2_with fail
            go_ret2
            rw [HE.out]
            exact ⟨⟨_, rfl⟩, hR12.below⟩
          · have HNE : Hid (runeN (a :: b :: c :: r) ≠ 3) := Lib.hid fun h => hq (HOK.out.2 h).2
            have HEQ : Hid (((bs R).toList == (bs ((a :: b :: c :: r).take 3)).toList) = false) := Lib.hid (by
              rw [bs_list, bs_list]
              simpa using hq)
            clear HMA0 hm HOK hq
            refine wp_region_softG 9 (by kernel_rfl) (by kernel_rfl) (by rfl) hRs ?_
            refine g_move (R := Is (.int .i64 (N : Nat))) (by rfl) (stb_is _) (by exact fun _ _ _ h => h) ?_
            refine g_callK (f := 127) (xs := [.tmp 74]) [.int .i64 (N : Nat)] (R := Is (.bool true)) (by rfl) Tryz.func127 (by kernel_rfl) rfl (stb_is _) ⟨(by exact fun _ _ _ h => h), trivial⟩ (HMA.out) ?_
            refine g_move (R := Is (.bool true)) (by rfl) (stb_is _) (by exact fun _ _ _ h => h) ?_
            refine g_move (R := Is (.int .i64 (N : Nat))) (by rfl) (stb_is _) (by exact fun _ _ _ h => h) ?_
            refine g_callK (f := 128) (xs := [.tmp 77]) [.int .i64 (N : Nat)] (R := Is (.string (bs R))) (by rfl) Tryz.func128 (by kernel_rfl) rfl (stb_is _) ⟨(by exact fun _ _ _ h => h), trivial⟩ (HRU.out) ?_
            refine g_move (R := Is (.string (bs (a :: b :: c :: r)))) (by rfl) (stb_is _) (by exact fun _ _ _ h => h) ?_
            refine g_move (R := Is (.int .i64 3)) (by rfl) (stb_is _) (by exact fun _ _ _ h => h) ?_
            refine g_cutT (s := (a :: b :: c :: r)) (k := 3) (by rfl) (by exact fun _ _ _ h => h) (by exact fun _ _ _ h => h) (by simp) ?_
            refine g_bin (v := .string (bs R)) (u := .string (bs ((a :: b :: c :: r).take 3))) (r := .bool false) (by rfl) (by exact fun _ _ _ h => h) (by exact fun _ _ _ h => h) (by rfl) (fun W => bin_eqs _ _ HEQ.out W) ?_
            intro w12 hR12 hb12 v74 h74 v75 h75 v76 h76 v77 h77 v78 h78 v79 h79 v80 h80 v81 h81 v82 h82
            simp only [softEnd, Act.put, List.setIfInBounds_toArray, List.set_cons_succ, List.set_cons_zero, List.drop_succ_cons, List.drop_zero]
            obtain rfl : v76 = .bool true := h76
            obtain rfl : v82 = .bool false := h82
            clear h74 h75 h77 h78 h79 h80 h81
            have HN2 : Hid (∀ q, 1 ≤ q → q < 4 → runeN (a :: b :: c :: r) ≠ q) := Lib.hid fun q h1 h2 => by
              rcases Nat.lt_or_ge q 3 with h | h
              · exact HN.out q h1 h
              · obtain rfl : q = 3 := by omega
                exact HNE.out
            go_wp2_with fail
            go_roundg 1
            case measure => omega
            case rel => exact ⟨4, by omega, by omega, rfl, rfl, HN2.out, hR12.below⟩
      · skip
        obtain ⟨a, b, c, d, r, rfl⟩ : ∃ a b c d r, s = a :: b :: c :: d :: r := by
          match s, hlen with
          | a :: b :: c :: d :: r, _ => exact ⟨a, b, c, d, r, rfl⟩
        have hal := a.toNat_lt
        have HG0 : Hid ((bs (a :: b :: c :: d :: r)).data.toList[0]? = some a) := Lib.hid (by rw [bs_data]; rfl)
        have hg0 : ∀ h, (bs (a :: b :: c :: d :: r))[0]'h = a := fun h => bs_get (a :: b :: c :: d :: r) 0 a rfl h
        have hbl := b.toNat_lt
        have HG1 : Hid ((bs (a :: b :: c :: d :: r)).data.toList[1]? = some b) := Lib.hid (by rw [bs_data]; rfl)
        have hg1 : ∀ h, (bs (a :: b :: c :: d :: r))[1]'h = b := fun h => bs_get (a :: b :: c :: d :: r) 1 b rfl h
        have hcl := c.toNat_lt
        have HG2 : Hid ((bs (a :: b :: c :: d :: r)).data.toList[2]? = some c) := Lib.hid (by rw [bs_data]; rfl)
        have hg2 : ∀ h, (bs (a :: b :: c :: d :: r))[2]'h = c := fun h => bs_get (a :: b :: c :: d :: r) 2 c rfl h
        have hdl := d.toNat_lt
        have HG3 : Hid ((bs (a :: b :: c :: d :: r)).data.toList[3]? = some d) := Lib.hid (by rw [bs_data]; rfl)
        have hg3 : ∀ h, (bs (a :: b :: c :: d :: r))[3]'h = d := fun h => bs_get (a :: b :: c :: d :: r) 3 d rfl h
        have zs := bs_size (a :: b :: c :: d :: r)
        have hlz : (a :: b :: c :: d :: r).length = r.length + 4 := rfl
        have hRs : Rws w.heap.size w wr [] := ⟨HB.out, HB.out.size, fun _ h => absurd h List.not_mem_nil, List.Pairwise.nil⟩
        go_upto_region 11 with fail
        refine wp_region_softG 22 (by kernel_rfl) (by kernel_rfl) (by rfl) hRs ?_
        refine g_move (R := Is (.string (bs (a :: b :: c :: d :: r)))) (by rfl) (stb_is _) (by exact fun _ _ _ h => h) ?_
        refine g_byte (u := a) (i := 0) (by rfl) (by exact fun _ _ _ h => h) (by exact fun _ _ _ h => h) (HG0.out) ?_
        refine g_cvn (v := .int .u8 (a.toNat : Nat)) (r := .int .i64 (a.toNat : Nat)) (by rfl) (by exact fun _ _ _ h => h) (fun W => cvt_int a W) ?_
        refine g_bin (v := .int .i64 (a.toNat : Nat)) (u := .int .i64 8) (r := .int .i64 (a.toNat % 8 : Nat)) (by rfl) (by exact fun _ _ _ h => h) (by exact fun _ _ _ h => h) (by rfl) (fun W => bin_rem2 _ _ (by decide) (by decide) (by omega) W) ?_
        refine g_bin (v := .int .i64 (a.toNat % 8 : Nat)) (u := .int .i64 262144) (r := .int .i64 (a.toNat % 8 * 262144 : Nat)) (by rfl) (by exact fun _ _ _ h => h) (by exact fun _ _ _ h => h) (by rfl) (fun W => bin_mul2 _ 262144 _ rfl (by omega) W) ?_
        refine g_move (R := Is (.string (bs (a :: b :: c :: d :: r)))) (by rfl) (stb_is _) (by exact fun _ _ _ h => h) ?_
        refine g_byte (u := b) (i := 1) (by rfl) (by exact fun _ _ _ h => h) (by exact fun _ _ _ h => h) (HG1.out) ?_
        refine g_cvn (v := .int .u8 (b.toNat : Nat)) (r := .int .i64 (b.toNat : Nat)) (by rfl) (by exact fun _ _ _ h => h) (fun W => cvt_int b W) ?_
        refine g_bin (v := .int .i64 (b.toNat : Nat)) (u := .int .i64 64) (r := .int .i64 (b.toNat % 64 : Nat)) (by rfl) (by exact fun _ _ _ h => h) (by exact fun _ _ _ h => h) (by rfl) (fun W => bin_rem2 _ _ (by decide) (by decide) (by omega) W) ?_
        refine g_bin (v := .int .i64 (b.toNat % 64 : Nat)) (u := .int .i64 4096) (r := .int .i64 (b.toNat % 64 * 4096 : Nat)) (by rfl) (by exact fun _ _ _ h => h) (by exact fun _ _ _ h => h) (by rfl) (fun W => bin_mul2 _ 4096 _ rfl (by omega) W) ?_
        refine g_bin (v := .int .i64 (a.toNat % 8 * 262144 : Nat)) (u := .int .i64 (b.toNat % 64 * 4096 : Nat)) (r := .int .i64 (a.toNat % 8 * 262144 + b.toNat % 64 * 4096 : Nat)) (by rfl) (by exact fun _ _ _ h => h) (by exact fun _ _ _ h => h) (by rfl) (fun W => bin_add2 _ _ _ rfl (by omega) W) ?_
        refine g_move (R := Is (.string (bs (a :: b :: c :: d :: r)))) (by rfl) (stb_is _) (by exact fun _ _ _ h => h) ?_
        refine g_byte (u := c) (i := 2) (by rfl) (by exact fun _ _ _ h => h) (by exact fun _ _ _ h => h) (HG2.out) ?_
        refine g_cvn (v := .int .u8 (c.toNat : Nat)) (r := .int .i64 (c.toNat : Nat)) (by rfl) (by exact fun _ _ _ h => h) (fun W => cvt_int c W) ?_
        refine g_bin (v := .int .i64 (c.toNat : Nat)) (u := .int .i64 64) (r := .int .i64 (c.toNat % 64 : Nat)) (by rfl) (by exact fun _ _ _ h => h) (by exact fun _ _ _ h => h) (by rfl) (fun W => bin_rem2 _ _ (by decide) (by decide) (by omega) W) ?_
        refine g_bin (v := .int .i64 (c.toNat % 64 : Nat)) (u := .int .i64 64) (r := .int .i64 (c.toNat % 64 * 64 : Nat)) (by rfl) (by exact fun _ _ _ h => h) (by exact fun _ _ _ h => h) (by rfl) (fun W => bin_mul2 _ 64 _ rfl (by omega) W) ?_
        refine g_bin (v := .int .i64 (a.toNat % 8 * 262144 + b.toNat % 64 * 4096 : Nat)) (u := .int .i64 (c.toNat % 64 * 64 : Nat)) (r := .int .i64 (a.toNat % 8 * 262144 + b.toNat % 64 * 4096 + c.toNat % 64 * 64 : Nat)) (by rfl) (by exact fun _ _ _ h => h) (by exact fun _ _ _ h => h) (by rfl) (fun W => bin_add2 _ _ _ rfl (by omega) W) ?_
        refine g_move (R := Is (.string (bs (a :: b :: c :: d :: r)))) (by rfl) (stb_is _) (by exact fun _ _ _ h => h) ?_
        refine g_byte (u := d) (i := 3) (by rfl) (by exact fun _ _ _ h => h) (by exact fun _ _ _ h => h) (HG3.out) ?_
        refine g_cvn (v := .int .u8 (d.toNat : Nat)) (r := .int .i64 (d.toNat : Nat)) (by rfl) (by exact fun _ _ _ h => h) (fun W => cvt_int d W) ?_
        refine g_bin (v := .int .i64 (d.toNat : Nat)) (u := .int .i64 64) (r := .int .i64 (d.toNat % 64 : Nat)) (by rfl) (by exact fun _ _ _ h => h) (by exact fun _ _ _ h => h) (by rfl) (fun W => bin_rem2 _ _ (by decide) (by decide) (by omega) W) ?_
        refine g_bin (v := .int .i64 (a.toNat % 8 * 262144 + b.toNat % 64 * 4096 + c.toNat % 64 * 64 : Nat)) (u := .int .i64 (d.toNat % 64 : Nat)) (r := .int .i64 (a.toNat % 8 * 262144 + b.toNat % 64 * 4096 + c.toNat % 64 * 64 + d.toNat % 64 : Nat)) (by rfl) (by exact fun _ _ _ h => h) (by exact fun _ _ _ h => h) (by rfl) (fun W => bin_add2 _ _ _ rfl (by omega) W) ?_
        intro w7 hR7 hb7 v52 h52 v53 h53 v54 h54 v55 h55 v56 h56 v57 h57 v58 h58 v59 h59 v60 h60 v61 h61 v62 h62 v63 h63 v64 h64 v65 h65 v66 h66 v67 h67 v68 h68 v69 h69 v70 h70 v71 h71 v72 h72 v73 h73
        simp only [softEnd, Act.put, List.setIfInBounds_toArray, List.set_cons_succ, List.set_cons_zero, List.drop_succ_cons, List.drop_zero]
        obtain rfl : v73 = .int .i64 (a.toNat % 8 * 262144 + b.toNat % 64 * 4096 + c.toNat % 64 * 64 + d.toNat % 64 : Nat) := h73
        clear h52 h53 h54 h55 h56 h57 h58 h59 h60 h61 h62 h63 h64 h65 h66 h67 h68 h69 h70 h71 h72
        have hRs := hR7
        clear hR7 hb7
        go_upto_region 12 with fail
        have HOK := Lib.hid (ok4 a b c d r)
        obtain ⟨N, hN⟩ : ∃ N : Nat, N = a.toNat % 8 * 262144 + b.toNat % 64 * 4096 + c.toNat % 64 * 64 + d.toNat % 64 := ⟨_, rfl⟩
        have hNl : N < 2097152 := by rw [hN]; omega
        rw [← hN] at HOK ⊢
        have HMA0 : ∀ u, Calls Tryz.prog 127 #[.int .i64 (N : Nat)] u (RW (Is (.bool (mayB N))) u) := fun u => (May_any N u (by omega)).mono fun _ _ h => rw_same h
        obtain ⟨R, hR⟩ : ∃ R, R = runeT N := ⟨_, rfl⟩
        have HRU : Hid (∀ u, Below w7.heap.size w7 u → Calls Tryz.prog 128 #[.int .i64 (N : Nat)] u (RW (Is (.string (bs R))) u)) := Lib.hid fun u _ => by rw [hR]; exact (Rune_any N u hNl).mono fun _ _ h => rw_below h
        rw [← hR] at HOK
        clear hN hR HG0 HG1 HG2 HG3 hg0 hg1 hg2 hg3
        cases hm : mayB N with
        | false =>
          rw [hm] at HMA0 HOK
          have HMA : Hid (∀ u, Below w7.heap.size w7 u → Calls Tryz.prog 127 #[.int .i64 (N : Nat)] u (RW (Is (.bool false)) u)) := Lib.hid fun u _ => HMA0 u
          have HNE : Hid (runeN (a :: b :: c :: d :: r) ≠ 4) := Lib.hid fun h => by have := HOK.out.2 h; simp at this
          clear HMA0 hm HOK
          refine wp_region_softG 9 (by kernel_rfl) (by kernel_rfl) (by rfl) hRs ?_
          refine g_move (R := Is (.int .i64 (N : Nat))) (by rfl) (stb_is _) (by exact fun _ _ _ h => h) ?_
          refine g_callK (f := 127) (xs := [.tmp 74]) [.int .i64 (N : Nat)] (R := Is (.bool false)) (by rfl) Tryz.func127 (by kernel_rfl) rfl (stb_is _) ⟨(by exact fun _ _ _ h => h), trivial⟩ (HMA.out) ?_
          refine g_move (R := Is (.bool false)) (by rfl) (stb_is _) (by exact fun _ _ _ h => h) ?_
          refine g_dead (dead_of rfl rfl (fun _ _ _ h => h) (by rfl)) ?_
          refine g_dead (dead_of rfl rfl (fun _ _ _ h => h) (by rfl)) ?_
          refine g_dead (dead_of rfl rfl (fun _ _ _ h => h) (by rfl)) ?_
          refine g_dead (dead_of rfl rfl (fun _ _ _ h => h) (by rfl)) ?_
          refine g_dead (dead_of rfl rfl (fun _ _ _ h => h) (by rfl)) ?_
          refine g_dead (dead_of rfl rfl (fun _ _ _ h => h) (by rfl)) ?_
          intro w12 hR12 hb12 v74 h74 v75 h75 v76 h76 v77 h77 v78 h78 v79 h79 v80 h80 v81 h81 v82 h82
          simp only [softEnd, Act.put, List.setIfInBounds_toArray, List.set_cons_succ, List.set_cons_zero, List.drop_succ_cons, List.drop_zero]
          obtain rfl : v76 = .bool false := h76
          clear h74 h75 h77 h78 h79 h80 h81 h82
          have HN2 : Hid (∀ q, 1 ≤ q → q < 5 → runeN (a :: b :: c :: d :: r) ≠ q) := Lib.hid fun q h1 h2 => by
            rcases Nat.lt_or_ge q 4 with h | h
            · exact HN.out q h1 h
            · obtain rfl : q = 4 := by omega
              exact HNE.out
          go_wp2_with fail
          go_roundg 0
          case measure => omega
          case rel => exact ⟨5, by omega, by omega, rfl, rfl, HN2.out, hR12.below⟩
        | true =>
          rw [hm] at HMA0 HOK
          have HMA : Hid (∀ u, Below w7.heap.size w7 u → Calls Tryz.prog 127 #[.int .i64 (N : Nat)] u (RW (Is (.bool true)) u)) := Lib.hid fun u _ => HMA0 u
          by_cases hq : R = [a, b, c, d]
          · have HE : Hid (runeN (a :: b :: c :: d :: r) = 4) := Lib.hid (HOK.out.1 ⟨rfl, hq⟩)
            have HEQ : Hid (((bs R).toList == (bs ((a :: b :: c :: d :: r).take 4)).toList) = true) := Lib.hid (by rw [hq]; simp)
            clear HMA0 hm HOK hq
            refine wp_region_softG 9 (by kernel_rfl) (by kernel_rfl) (by rfl) hRs ?_
            refine g_move (R := Is (.int .i64 (N : Nat))) (by rfl) (stb_is _) (by exact fun _ _ _ h => h) ?_
            refine g_callK (f := 127) (xs := [.tmp 74]) [.int .i64 (N : Nat)] (R := Is (.bool true)) (by rfl) Tryz.func127 (by kernel_rfl) rfl (stb_is _) ⟨(by exact fun _ _ _ h => h), trivial⟩ (HMA.out) ?_
            refine g_move (R := Is (.bool true)) (by rfl) (stb_is _) (by exact fun _ _ _ h => h) ?_
            refine g_move (R := Is (.int .i64 (N : Nat))) (by rfl) (stb_is _) (by exact fun _ _ _ h => h) ?_
            refine g_callK (f := 128) (xs := [.tmp 77]) [.int .i64 (N : Nat)] (R := Is (.string (bs R))) (by rfl) Tryz.func128 (by kernel_rfl) rfl (stb_is _) ⟨(by exact fun _ _ _ h => h), trivial⟩ (HRU.out) ?_
            refine g_move (R := Is (.string (bs (a :: b :: c :: d :: r)))) (by rfl) (stb_is _) (by exact fun _ _ _ h => h) ?_
            refine g_move (R := Is (.int .i64 4)) (by rfl) (stb_is _) (by exact fun _ _ _ h => h) ?_
            refine g_cutT (s := (a :: b :: c :: d :: r)) (k := 4) (by rfl) (by exact fun _ _ _ h => h) (by exact fun _ _ _ h => h) (by simp) ?_
            refine g_bin (v := .string (bs R)) (u := .string (bs ((a :: b :: c :: d :: r).take 4))) (r := .bool true) (by rfl) (by exact fun _ _ _ h => h) (by exact fun _ _ _ h => h) (by rfl) (fun W => bin_eqs _ _ HEQ.out W) ?_
            intro w12 hR12 hb12 v74 h74 v75 h75 v76 h76 v77 h77 v78 h78 v79 h79 v80 h80 v81 h81 v82 h82
            simp only [softEnd, Act.put, List.setIfInBounds_toArray, List.set_cons_succ, List.set_cons_zero, List.drop_succ_cons, List.drop_zero]
            obtain rfl : v76 = .bool true := h76
            obtain rfl : v82 = .bool true := h82
            clear h74 h75 h77 h78 h79 h80 h81
            go_wp2_with fail
            go_ret2
            rw [HE.out]
            exact ⟨⟨_, rfl⟩, hR12.below⟩
          · have HNE : Hid (runeN (a :: b :: c :: d :: r) ≠ 4) := Lib.hid fun h => hq (HOK.out.2 h).2
            have HEQ : Hid (((bs R).toList == (bs ((a :: b :: c :: d :: r).take 4)).toList) = false) := Lib.hid (by
              rw [bs_list, bs_list]
              simpa using hq)
            clear HMA0 hm HOK hq
            refine wp_region_softG 9 (by kernel_rfl) (by kernel_rfl) (by rfl) hRs ?_
            refine g_move (R := Is (.int .i64 (N : Nat))) (by rfl) (stb_is _) (by exact fun _ _ _ h => h) ?_
            refine g_callK (f := 127) (xs := [.tmp 74]) [.int .i64 (N : Nat)] (R := Is (.bool true)) (by rfl) Tryz.func127 (by kernel_rfl) rfl (stb_is _) ⟨(by exact fun _ _ _ h => h), trivial⟩ (HMA.out) ?_
            refine g_move (R := Is (.bool true)) (by rfl) (stb_is _) (by exact fun _ _ _ h => h) ?_
            refine g_move (R := Is (.int .i64 (N : Nat))) (by rfl) (stb_is _) (by exact fun _ _ _ h => h) ?_
            refine g_callK (f := 128) (xs := [.tmp 77]) [.int .i64 (N : Nat)] (R := Is (.string (bs R))) (by rfl) Tryz.func128 (by kernel_rfl) rfl (stb_is _) ⟨(by exact fun _ _ _ h => h), trivial⟩ (HRU.out) ?_
            refine g_move (R := Is (.string (bs (a :: b :: c :: d :: r)))) (by rfl) (stb_is _) (by exact fun _ _ _ h => h) ?_
            refine g_move (R := Is (.int .i64 4)) (by rfl) (stb_is _) (by exact fun _ _ _ h => h) ?_
            refine g_cutT (s := (a :: b :: c :: d :: r)) (k := 4) (by rfl) (by exact fun _ _ _ h => h) (by exact fun _ _ _ h => h) (by simp) ?_
            refine g_bin (v := .string (bs R)) (u := .string (bs ((a :: b :: c :: d :: r).take 4))) (r := .bool false) (by rfl) (by exact fun _ _ _ h => h) (by exact fun _ _ _ h => h) (by rfl) (fun W => bin_eqs _ _ HEQ.out W) ?_
            intro w12 hR12 hb12 v74 h74 v75 h75 v76 h76 v77 h77 v78 h78 v79 h79 v80 h80 v81 h81 v82 h82
            simp only [softEnd, Act.put, List.setIfInBounds_toArray, List.set_cons_succ, List.set_cons_zero, List.drop_succ_cons, List.drop_zero]
            obtain rfl : v76 = .bool true := h76
            obtain rfl : v82 = .bool false := h82
            clear h74 h75 h77 h78 h79 h80 h81
            have HN2 : Hid (∀ q, 1 ≤ q → q < 5 → runeN (a :: b :: c :: d :: r) ≠ q) := Lib.hid fun q h1 h2 => by
              rcases Nat.lt_or_ge q 4 with h | h
              · exact HN.out q h1 h
              · obtain rfl : q = 4 := by omega
                exact HNE.out
            go_wp2_with fail
            go_roundg 0
            case measure => omega
            case rel => exact ⟨5, by omega, by omega, rfl, rfl, HN2.out, hR12.below⟩
    · have HE : Hid (runeN s = 0) := Lib.hid (by
        have h1 := rn_le s
        rcases Nat.eq_zero_or_pos (runeN s) with h | h
        · exact h
        · exact absurd rfl (HN.out (runeN s) h (by omega)))
      by_cases h4 : m ≤ 4
      · have h4z : (m : Int) ≤ 4 := by omega
        have hlz : ¬ (m : Int) ≤ (s.length : Int) := by omega
        clear hc
        go_wp2_with fail
        go_ret2
        rw [HE.out]
        exact ⟨⟨0, rfl⟩, HB.out⟩
      · have h4z : ¬ (m : Int) ≤ 4 := by omega
        clear hc
        go_wp2_with fail
        go_ret2
        rw [HE.out]
        exact ⟨⟨0, rfl⟩, HB.out⟩
end Go.Proofs.YtebhiplcoioenaaGreatDoor
