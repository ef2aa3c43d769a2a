/- ostiaryref20.Check, Print, texts: the walks. -/
import Derived.Test.YthpagppipifgeaaGreatDoorZLH
import Derived.Test.YthpagppipifgeaaGreatDoorZLT
import Derived.Test.YthpagppipifgeaaGreatDoorZLG
import Derived.Test.YthpagppipifgeaaGreatDoorZLS
import Derived.BigQuiet
namespace Go.Proofs.YthpagppipifgeaaGreatDoor
open Go.RowKit

theorem ndsR_one (F : Fo) (h : F.cnt ≤ 1000000) : F.ndsR 1 = ndsP F := by
  rw [ndsR_nat F 1 (by omega) (by omega), ndsP_nat F h]; omega
set_option maxRecDepth 100000 in
theorem CheckR_any (k o : Int) (n t : ByteArray) (F : Fo) (ad : Option Addr) (c : Nat) (w : World) (hn : n.size ≤ SB) (ht : t.size ≤ SB) (hs : SlF w F ad c) (hk : F.cnt ≤ 1000000) :
    Calls Tryz.prog 12 #[pv k o n t ad F.len c] w (RetI (chkP k o n t F) w) := by
  have HF : Hid (∀ w1, Below w.heap.size w w1 → Calls Tryz.prog 29 #[pv k o n t ad F.len c] w1 (RetB (mayP k o n t F) w1)) := Lib.hid fun w1 hb => form_any F k o n t ad c w1 hn ht (hs.grown hb)
  have HN : Hid (∀ w1, Below w.heap.size w w1 → Calls Tryz.prog 30 #[pv k o n t ad F.len c] w1 (RetI (ndsP F) w1)) := Lib.hid fun w1 hb => by
    have := nodes_any F k o n t ad c w1 (hs.grown hb)
    rw [ndsR_one F hk] at this
    exact this
  have HD : Hid (∀ w1, Below w.heap.size w w1 → Calls Tryz.prog 31 #[pv k o n t ad F.len c] w1 (RetI (depP F) w1)) := Lib.hid fun w1 hb => deep_any F k o n t ad c w1 (hs.grown hb)
  clear hs hk hn ht
  obtain ⟨R, hR⟩ : ∃ R, R = chkP k o n t F := ⟨_, rfl⟩
  rw [← hR]
  unfold chkP smallP at hR
  generalize mayP k o n t F = m at *
  generalize ndsP F = N at *
  generalize depP F = D at *
  cases m with
  | false =>
    obtain rfl : R = 202 := by rw [hR]; rfl
    clear hR
    go_enter Tryz.func12, Tryz.ntmps12
    go_wp2_with (go_at_call 29; refine (HF.out _ (b_alloc _ _)).mono ?_; rintro e w1 ⟨rfl, hb⟩)
    go_ret
    exact ⟨rfl, b_call hb⟩
  | true =>
    by_cases h1 : N ≤ 64
    · have z1 : ¬ (64 : Int) < N := by omega
      by_cases h2 : D ≤ 16
      · have z2 : ¬ (16 : Int) < D := by omega
        obtain rfl : R = 0 := by rw [hR]; simp [h1, h2]
        clear hR
        go_enter Tryz.func12, Tryz.ntmps12
        go_wp2_with (first
          | (go_at_call 29; refine (HF.out _ (b_alloc _ _)).mono ?_; rintro e w1 ⟨rfl, hb⟩; have c0 := box_cell hb 0 rfl; have c1 := box_cell hb 1 rfl; have c2 := box_cell hb 2 rfl; have c3 := box_cell hb 3 rfl; have c4 := box_cell hb 4 rfl; have hb0 := b_call hb; have hlt : w.heap.size < w1.heap.size := Nat.lt_of_lt_of_le (by simp) hb.size)
          | (go_at_call 30; refine (HN.out _ hb0).mono ?_; rintro e w2 ⟨rfl, hb2⟩; have d0 := (hb2.cell (p := ⟨w.heap.size, 0, none⟩) hlt).trans c0; have d1 := (hb2.cell (p := ⟨w.heap.size, 1, none⟩) hlt).trans c1; have d2 := (hb2.cell (p := ⟨w.heap.size, 2, none⟩) hlt).trans c2; have d3 := (hb2.cell (p := ⟨w.heap.size, 3, none⟩) hlt).trans c3; have d4 := (hb2.cell (p := ⟨w.heap.size, 4, none⟩) hlt).trans c4; have hb1 := b_trans hb0 hb2)
          | (go_at_call 31; refine (HD.out _ hb1).mono ?_; rintro e w3 ⟨rfl, hb3⟩))
        go_ret
        exact ⟨rfl, b_trans hb1 hb3⟩
      · have z2 : (16 : Int) < D := by omega
        obtain rfl : R = 201 := by rw [hR]; simp [h2]
        clear hR
        go_enter Tryz.func12, Tryz.ntmps12
        go_wp2_with (first
          | (go_at_call 29; refine (HF.out _ (b_alloc _ _)).mono ?_; rintro e w1 ⟨rfl, hb⟩; have c0 := box_cell hb 0 rfl; have c1 := box_cell hb 1 rfl; have c2 := box_cell hb 2 rfl; have c3 := box_cell hb 3 rfl; have c4 := box_cell hb 4 rfl; have hb0 := b_call hb; have hlt : w.heap.size < w1.heap.size := Nat.lt_of_lt_of_le (by simp) hb.size)
          | (go_at_call 30; refine (HN.out _ hb0).mono ?_; rintro e w2 ⟨rfl, hb2⟩; have d0 := (hb2.cell (p := ⟨w.heap.size, 0, none⟩) hlt).trans c0; have d1 := (hb2.cell (p := ⟨w.heap.size, 1, none⟩) hlt).trans c1; have d2 := (hb2.cell (p := ⟨w.heap.size, 2, none⟩) hlt).trans c2; have d3 := (hb2.cell (p := ⟨w.heap.size, 3, none⟩) hlt).trans c3; have d4 := (hb2.cell (p := ⟨w.heap.size, 4, none⟩) hlt).trans c4; have hb1 := b_trans hb0 hb2)
          | (go_at_call 31; refine (HD.out _ hb1).mono ?_; rintro e w3 ⟨rfl, hb3⟩))
        go_ret
        exact ⟨rfl, b_trans hb1 hb3⟩
    · have z1 : (64 : Int) < N := by omega
      obtain rfl : R = 201 := by rw [hR]; simp [h1]
      clear hR
      go_enter Tryz.func12, Tryz.ntmps12
      go_wp2_with (first
        | (go_at_call 29; refine (HF.out _ (b_alloc _ _)).mono ?_; rintro e w1 ⟨rfl, hb⟩; have c0 := box_cell hb 0 rfl; have c1 := box_cell hb 1 rfl; have c2 := box_cell hb 2 rfl; have c3 := box_cell hb 3 rfl; have c4 := box_cell hb 4 rfl; have hb0 := b_call hb)
        | (go_at_call 30; refine (HN.out _ hb0).mono ?_; rintro e w2 ⟨rfl, hb2⟩))
      go_ret
      exact ⟨rfl, b_trans hb0 hb2⟩
set_option maxRecDepth 100000 in
set_option maxHeartbeats 1000000 in
theorem PrintR_any (k o : Int) (n t : ByteArray) (F : Fo) (ad : Option Addr) (c : Nat) (w : World) (hn : n.size ≤ SB) (ht : t.size ≤ SB) (hk : F.cnt ≤ 1000000) (hs : SlF w F ad c) :
    Calls Tryz.prog 10 #[pv k o n t ad F.len c] w (RetSI (bs (printP k o n t F).1) (printP k o n t F).2 w) := by
  have hc : chkP k o n t F = 0 → F.cnt ≤ 1000000 := fun _ => hk
  have HC : Hid (∀ w1, Below w.heap.size w w1 → Calls Tryz.prog 12 #[pv k o n t ad F.len c] w1 (RetI (chkP k o n t F) w1)) := Lib.hid fun w1 hb => CheckR_any k o n t F ad c w1 hn ht (hs.grown hb) hk
  by_cases h0 : chkP k o n t F = 0
  · have hl := textP_le (chk_may h0) (hc h0)
    have HT : Hid (∀ w1, Below w.heap.size w w1 → Calls Tryz.prog 26 #[pv k o n t ad F.len c] w1 (RetS (bs (textP k o n t F)) w1)) := Lib.hid fun w1 hb => textR_any F k o n t ad c w1 (chk_may h0) (hc h0) (hs.grown hb)
    have hpr : printP k o n t F = if 1024 < (textP k o n t F).length then ([], 201) else (textP k o n t F, 0) := by unfold printP; rw [if_pos h0]
    rw [hpr]
    rw [h0] at HC
    clear hpr h0 hs hc
    generalize textP k o n t F = T at *
    have hsz := bs_size T
    by_cases hlt : 1024 < T.length
    · have hz : (1024 : Int) < (T.length : Int) := by omega
      rw [if_pos hlt]
      go_enter Tryz.func10, Tryz.ntmps10
      go_wp2_with (first
        | (go_at_call 12; refine (HC.out _ (b_alloc _ _)).mono ?_; rintro e w1 ⟨rfl, hb⟩; have c0 := box_cell hb 0 rfl; have c1 := box_cell hb 1 rfl; have c2 := box_cell hb 2 rfl; have c3 := box_cell hb 3 rfl; have c4 := box_cell hb 4 rfl)
        | (go_at_call 26; refine (HT.out _ (b_call hb)).mono ?_; rintro e w2 ⟨rfl, hb2⟩))
      go_ret2
      exact ⟨rfl, b_trans (b_call hb) hb2⟩
    · have hz : ¬ (1024 : Int) < (T.length : Int) := by omega
      rw [if_neg hlt]
      go_enter Tryz.func10, Tryz.ntmps10
      go_wp2_with (first
        | (go_at_call 12; refine (HC.out _ (b_alloc _ _)).mono ?_; rintro e w1 ⟨rfl, hb⟩; have c0 := box_cell hb 0 rfl; have c1 := box_cell hb 1 rfl; have c2 := box_cell hb 2 rfl; have c3 := box_cell hb 3 rfl; have c4 := box_cell hb 4 rfl)
        | (go_at_call 26; refine (HT.out _ (b_call hb)).mono ?_; rintro e w2 ⟨rfl, hb2⟩))
      go_ret2
      exact ⟨rfl, b_trans (b_call hb) hb2⟩
  · have hpr : printP k o n t F = ([], chkP k o n t F) := by unfold printP; rw [if_neg h0]
    rw [hpr]
    clear hpr hs hc
    generalize chkP k o n t F = C at *
    have hz : (C != 0) = true := by simp [h0]
    go_enter Tryz.func10, Tryz.ntmps10
    go_wp2_with (go_at_call 12; refine (HC.out _ (b_alloc _ _)).mono ?_; rintro e w1 ⟨rfl, hb⟩)
    go_ret2
    exact ⟨rfl, b_call hb⟩
set_option maxRecDepth 100000 in
set_option maxHeartbeats 2000000 in
theorem textsR_any (k o : Int) (n t : ByteArray) (ad : Option Addr) (l c : Nat) (x : Fx) (w : World) (hx : FxAt w x) :
    Calls Tryz.prog 57 #[pv k o n t ad l c, x.v] w fun e w' => (∃ a1 c1, e = .returned (.slice a1 (textsP o n x).length c1) ∧ SlS w' (textsP o n x) a1 c1) ∧ Below w.heap.size w w' := by
  have hSB := MX_eq
  go_enter Tryz.func57, Tryz.ntmps57
  by_cases o0 : o = 0
  · subst o0
    clear hx
    go_wp2_with fail
    go_ret
    exact ⟨⟨_, _, rfl, one_SlS _ _ _ (new_cell (by simp) _ _ 0 rfl)⟩, b_trans (b2 w _ _) (b_alloc _ _)⟩
  by_cases o1 : o = 1
  · subst o1
    clear hx
    go_wp2_with fail
    go_ret
    exact ⟨⟨_, _, rfl, one_SlS _ _ _ (new_cell (by simp) _ _ 0 rfl)⟩, b_trans (b2 w _ _) (b_alloc _ _)⟩
  by_cases o3 : o = 3
  · subst o3
    obtain ⟨hle, hcm, b, f, had, hrow⟩ := hx.ce
    have hgo := b2 w (.cells #[.int .i64 k, .int .i64 3, .string n, .string t, .slice ad l c] 24) (.cells #[.string x.m, .string x.p, .slice x.a1 x.cl.length x.c1, .slice x.a2 x.ce.length x.c2] 27)
    rw [show textsP 3 n x = lookF x.ce n by unfold textsP; simp]
    clear hx
    go_upto_region 10 with fail
    go_loopg [6] x.ce.length (fun gg s6 wr => ∃ (kk : Nat) (G : List Fact), kk + G.length = x.ce.length ∧ gg = G.length ∧ s6 = .int .i64 kk ∧ Aside (Below (w.heap.size + 2) ((w.alloc (.cells #[.int .i64 k, .int .i64 3, .string n, .string t, .slice ad l c] 24)).alloc (.cells #[.string x.m, .string x.p, .slice x.a1 x.cl.length x.c1, .slice x.a2 x.ce.length x.c2] 27)) wr) ∧ Aside (RowX wr G b (f + 2 * kk)) ∧ Aside (lookF G n = lookF x.ce n))
    case atStart => exact ⟨0, x.ce, by omega, rfl, rfl, Below.refl _ _, hrow.below hgo (Nat.le_refl _), rfl⟩
    case round =>
      obtain ⟨kk, G, hkk, rfl, rfl, BW, HR, HA⟩ := hrel
      have hbx := hgo.trans (BW.out.mono (by omega : w.heap.size ≤ w.heap.size + 2))
      have hHX : Hid (Below w.heap.size w wr) := hbx
      have hsz : w.heap.size + 2 ≤ wr.heap.size := by have := BW.out.size; simpa using this
      have cn : wr.cell? ⟨w.heap.size, 2, none⟩ = some (.string n) := (BW.out.cell (p := ⟨w.heap.size, 2, none⟩) (by simp)).trans (by simp)
      clear hbx hgo
      cases G with
      | nil =>
        have hltz : ¬ (kk : Int) < (x.ce.length : Int) := by simp only [List.length_nil] at hkk; omega
        go_wp2_with fail
        go_ret
        have h0 : lookF x.ce n = [] := HA.out.symm
        refine ⟨⟨none, 0, by rw [h0]; rfl, ?_⟩, hHX.out⟩
        rw [h0]
        exact ⟨Nat.le_refl _, by decide, 0, 0, Or.inr ⟨rfl, rfl⟩, fun j s hj => by simp at hj⟩
      | cons y G =>
        have hln : (y :: G).length = G.length + 1 := rfl
        have hltz : (kk : Int) < (x.ce.length : Int) := by omega
        have hR := HR.out
        obtain ⟨⟨a1, c1, h0, h1, hss⟩, hrn⟩ := hR
        obtain ⟨yn, yt⟩ := y
        simp only at h0 h1 hss
        have hss : Aside _ := hss
        have hrn : Aside _ := hrn
        obtain ⟨A0, hA0⟩ : ∃ A0, A0 = x.a2 := ⟨_, rfl⟩
        have hadA : A0 = some ⟨b, f, none⟩ := by rw [hA0]; rcases had with h | ⟨_, h⟩; exact h; omega
        have hadE : x.a2 = some ⟨b, f, none⟩ := hA0.symm.trans hadA
        clear hA0 hadA had
        rw [show f + 2 * kk = f + kk * 2 by omega] at h0 h1
        clear HR
        by_cases he : yn.toList = n.toList
        · have heq : (yn.toList == n.toList) = true := by simp [he]
          go_upto_region 12 with fail
          go_quiet (fail)
          go_wp2_with fail
          go_ret
          have h2 : lookF x.ce n = yt := by rw [← HA.out]; simp [lookF, he]
          rw [h2]
          exact ⟨⟨a1, c1, rfl, hss.out.below (below_drawn (Below.refl _ wr) _) (Nat.le_refl _)⟩, below_drawn hHX.out _⟩
        · have heq : (yn.toList == n.toList) = false := by simp [he]
          go_upto_region 12 with fail
          go_quiet (fail)
          go_wp2_with fail
          go_roundg G.length
          case measure => omega
          case rel =>
            have hR2 : RowX wr G b (f + 2 * (kk + 1)) := by
              rw [show f + 2 * (kk + 1) = f + 2 * kk + 2 by omega]; exact hrn.out
            have hA2 : lookF G n = lookF x.ce n := by rw [← HA.out]; simp [lookF, he]
            exact ⟨kk + 1, G, by omega, rfl, by go_num, below_drawn BW.out _, hR2.below (below_drawn (Below.refl _ wr) _) (Nat.le_refl _), hA2⟩
  · skip
    obtain ⟨hle, hcm, b, f, had, hrow⟩ := hx.cl
    have hgo := b2 w (.cells #[.int .i64 k, .int .i64 o, .string n, .string t, .slice ad l c] 24) (.cells #[.string x.m, .string x.p, .slice x.a1 x.cl.length x.c1, .slice x.a2 x.ce.length x.c2] 27)
    rw [show textsP o n x = lookF x.cl n by unfold textsP; simp [o0, o1, o3]]
    clear hx
    go_upto_region 10 with fail
    go_loopg [6] x.cl.length (fun gg s6 wr => ∃ (kk : Nat) (G : List Fact), kk + G.length = x.cl.length ∧ gg = G.length ∧ s6 = .int .i64 kk ∧ Aside (Below (w.heap.size + 2) ((w.alloc (.cells #[.int .i64 k, .int .i64 o, .string n, .string t, .slice ad l c] 24)).alloc (.cells #[.string x.m, .string x.p, .slice x.a1 x.cl.length x.c1, .slice x.a2 x.ce.length x.c2] 27)) wr) ∧ Aside (RowX wr G b (f + 2 * kk)) ∧ Aside (lookF G n = lookF x.cl n))
    case atStart => exact ⟨0, x.cl, by omega, rfl, rfl, Below.refl _ _, hrow.below hgo (Nat.le_refl _), rfl⟩
    case round =>
      obtain ⟨kk, G, hkk, rfl, rfl, BW, HR, HA⟩ := hrel
      have hbx := hgo.trans (BW.out.mono (by omega : w.heap.size ≤ w.heap.size + 2))
      have hHX : Hid (Below w.heap.size w wr) := hbx
      have hsz : w.heap.size + 2 ≤ wr.heap.size := by have := BW.out.size; simpa using this
      have cn : wr.cell? ⟨w.heap.size, 2, none⟩ = some (.string n) := (BW.out.cell (p := ⟨w.heap.size, 2, none⟩) (by simp)).trans (by simp)
      clear hbx hgo
      cases G with
      | nil =>
        have hltz : ¬ (kk : Int) < (x.cl.length : Int) := by simp only [List.length_nil] at hkk; omega
        go_wp2_with fail
        go_ret
        have h0 : lookF x.cl n = [] := HA.out.symm
        refine ⟨⟨none, 0, by rw [h0]; rfl, ?_⟩, hHX.out⟩
        rw [h0]
        exact ⟨Nat.le_refl _, by decide, 0, 0, Or.inr ⟨rfl, rfl⟩, fun j s hj => by simp at hj⟩
      | cons y G =>
        have hln : (y :: G).length = G.length + 1 := rfl
        have hltz : (kk : Int) < (x.cl.length : Int) := by omega
        have hR := HR.out
        obtain ⟨⟨a1, c1, h0, h1, hss⟩, hrn⟩ := hR
        obtain ⟨yn, yt⟩ := y
        simp only at h0 h1 hss
        have hss : Aside _ := hss
        have hrn : Aside _ := hrn
        obtain ⟨A0, hA0⟩ : ∃ A0, A0 = x.a1 := ⟨_, rfl⟩
        have hadA : A0 = some ⟨b, f, none⟩ := by rw [hA0]; rcases had with h | ⟨_, h⟩; exact h; omega
        have hadE : x.a1 = some ⟨b, f, none⟩ := hA0.symm.trans hadA
        clear hA0 hadA had
        rw [show f + 2 * kk = f + kk * 2 by omega] at h0 h1
        clear HR
        by_cases he : yn.toList = n.toList
        · have heq : (yn.toList == n.toList) = true := by simp [he]
          go_upto_region 12 with fail
          go_quiet (fail)
          go_wp2_with fail
          go_ret
          have h2 : lookF x.cl n = yt := by rw [← HA.out]; simp [lookF, he]
          rw [h2]
          exact ⟨⟨a1, c1, rfl, hss.out.below (below_drawn (Below.refl _ wr) _) (Nat.le_refl _)⟩, below_drawn hHX.out _⟩
        · have heq : (yn.toList == n.toList) = false := by simp [he]
          go_upto_region 12 with fail
          go_quiet (fail)
          go_wp2_with fail
          go_roundg G.length
          case measure => omega
          case rel =>
            have hR2 : RowX wr G b (f + 2 * (kk + 1)) := by
              rw [show f + 2 * (kk + 1) = f + 2 * kk + 2 by omega]; exact hrn.out
            have hA2 : lookF G n = lookF x.cl n := by rw [← HA.out]; simp [lookF, he]
            exact ⟨kk + 1, G, by omega, rfl, by go_num, below_drawn BW.out _, hR2.below (below_drawn (Below.refl _ wr) _) (Nat.le_refl _), hA2⟩
end Go.Proofs.YthpagppipifgeaaGreatDoor
