/- ostiaryref20.nodes, deep: the walks. -/
import Derived.Test.YthpagppipifgeaaGreatDoorZLSize
import Derived.Test.YthpagppipifgeaaGreatDoorZLB
namespace Go.Proofs.YthpagppipifgeaaGreatDoor
open Go.RowKit

/-- The nodes of a forest behind a number of them, as the document's answer counts them. -/
def Fo.ndsR : Fo → Int → Int
  | .nil, a => a
  | .cons _ _ _ _ kids nx, a => nx.ndsR (wrap64 (a + kids.ndsR 1))
theorem ndsR_nat (F : Fo) : ∀ a : Int, 0 ≤ a → a + F.cnt ≤ 2000000 → F.ndsR a = a + F.cnt := by
  induction F with
  | nil => intro a _ _; simp [Fo.ndsR, Fo.cnt]
  | cons k o n t kids nx ih1 ih2 =>
    intro a h0 h1
    simp only [Fo.cnt] at h1
    have e1 := ih1 1 (by omega) (by omega)
    have e : wrap64 (a + kids.ndsR 1) = a + 1 + kids.cnt := by rw [e1]; unfold wrap64; omega
    simp only [Fo.ndsR, Fo.cnt, e]
    rw [ih2 _ (by omega) (by omega)]
    omega
def NodesAt (F : Fo) : Prop := ∀ (k o : Int) (n t : ByteArray) (ad : Option Addr) (c : Nat) (w : World), SlF w F ad c →
  Calls Tryz.prog 30 #[pv k o n t ad F.len c] w (RetI (F.ndsR 1) w)
set_option maxRecDepth 100000 in
set_option maxHeartbeats 2000000 in
theorem nodes_step (F : Fo) (h : F.All NodesAt) : NodesAt F := by
  intro k o n t ad c w hs
  have hMX := MX_eq
  obtain ⟨hle, hcm, b, f, had, hrow⟩ := hs
  obtain ⟨w0, hw0⟩ : ∃ w0, w0 = w.alloc (.cells #[.int .i64 k, .int .i64 o, .string n, .string t, .slice ad F.len c] 24) := ⟨_, rfl⟩
  have hgo : Below w.heap.size w w0 := by rw [hw0]; exact b_alloc w _
  have hz : w.heap.size < w0.heap.size := by rw [hw0]; simp
  have hc4 : w0.cell? ⟨w.heap.size, 4, none⟩ = some (.slice ad F.len c) := by rw [hw0]; simp
  go_enter Tryz.func30, Tryz.ntmps30
  go_upto_region 3 with fail
  rw [← hw0]
  clear hw0
  go_loopg [3, 4] F.len (fun gg s3 s4 wr => ∃ (kk : Nat) (G : Fo) (a : Int), kk + G.len = F.len ∧ gg = G.len ∧ s3 = .int .i64 a ∧ s4 = .int .i64 kk ∧ Aside (Below w0.heap.size w0 wr) ∧ Aside (Row w G b (f + 5 * kk)) ∧ Aside (G.All NodesAt) ∧ Aside (G.ndsR a = F.ndsR 1))
  case atStart => exact ⟨0, F, 1, by omega, rfl, rfl, rfl, Below.refl _ _, hrow, h, rfl⟩
  case round =>
    obtain ⟨kk, G, a, hkk, rfl, rfl, rfl, BW, HR, HP, HA⟩ := hrel
    have c4 := (BW.out.cell (p := ⟨w.heap.size, 4, none⟩) hz).trans hc4
    have hBW0 : Below w.heap.size w wr := hgo.trans (BW.out.mono hgo.size)
    cases G with
    | nil =>
      have hltz : ¬ (kk : Int) < (F.len : Int) := by simp only [Fo.len] at hkk; omega
      have HB := Lib.hid hBW0
      clear hBW0
      go_wp2_with fail
      go_ret
      have ha : a = F.ndsR 1 := HA.out
      refine ⟨?_, HB.out⟩
      rw [← ha]; rfl
    | cons k1 o1 n1 t1 kids nx =>
      have hln : (Fo.cons k1 o1 n1 t1 kids nx).len = nx.len + 1 := rfl
      have hltz : (kk : Int) < (F.len : Int) := by omega
      obtain ⟨a1, c1, h0, h1, h2, h3, h4, r1, r2, hsl, _⟩ := (HR.out.below hBW0 (Nat.le_refl _)).kids
      obtain ⟨_, _, _, _, _, _, _, _, _, _, hrn⟩ := HR.out.kids
      obtain rfl : ad = some ⟨b, f, none⟩ := by rcases had with h | ⟨_, h⟩; exact h; omega
      rw [show f + 5 * kk = f + kk * 5 by omega] at h0 h1 h2 h3 h4
      obtain ⟨hp1, hpn⟩ := HP.out
      have HC : Hid (∀ w1, Below wr.heap.size wr w1 → Calls Tryz.prog 30 #[pv k1 o1 n1 t1 a1 kids.len c1] w1 (RetI (kids.ndsR 1) w1)) := Lib.hid fun w1 hb => hp1 k1 o1 n1 t1 a1 c1 w1 (hsl.grown hb)
      have hPn : Aside _ := hpn
      have hRn : Aside _ := hrn
      have HA2 := Lib.hid HA.out
      obtain ⟨N, hN⟩ : ∃ N, N = kids.ndsR 1 := ⟨_, rfl⟩
      rw [← hN] at HC
      have HN := Lib.hid hN
      clear hpn hrn hsl hp1 HP HR hBW0 HA hN
      go_wp2_with (go_at_call 30; refine (HC.out _ (Below.refl _ _)).mono ?_; rintro e w1 ⟨rfl, hb⟩)
      all_goals
        go_roundg nx.len
        case measure => omega
        case rel =>
          refine ⟨kk + 1, nx, wrap64 (a + N), by omega, rfl, congrArg _ (by first | rfl | omega), by go_num, b_trans BW.out hb, ?_, hPn.out, ?_⟩
          · rw [show f + 5 * (kk + 1) = f + 5 * kk + 5 by omega]; exact hRn.out
          · rw [← HA2.out, HN.out]; rfl
theorem nodes_any (F : Fo) : NodesAt F := Fo.rec_all nodes_step F
def DeepAt (F : Fo) : Prop := ∀ (k o : Int) (n t : ByteArray) (ad : Option Addr) (c : Nat) (w : World), SlF w F ad c →
  Calls Tryz.prog 31 #[pv k o n t ad F.len c] w (RetI (depP F) w)
set_option maxRecDepth 100000 in
set_option maxHeartbeats 2000000 in
theorem deep_step (F : Fo) (h : F.All DeepAt) : DeepAt F := by
  intro k o n t ad c w hs
  have hMX := MX_eq
  obtain ⟨hle, hcm, b, f, had, hrow⟩ := hs
  obtain ⟨w0, hw0⟩ : ∃ w0, w0 = w.alloc (.cells #[.int .i64 k, .int .i64 o, .string n, .string t, .slice ad F.len c] 24) := ⟨_, rfl⟩
  have hgo : Below w.heap.size w w0 := by rw [hw0]; exact b_alloc w _
  have hz : w.heap.size < w0.heap.size := by rw [hw0]; simp
  have hc4 : w0.cell? ⟨w.heap.size, 4, none⟩ = some (.slice ad F.len c) := by rw [hw0]; simp
  go_enter Tryz.func31, Tryz.ntmps31
  go_upto_region 3 with fail
  rw [← hw0]
  clear hw0
  go_loopg [3, 4] F.len (fun gg s3 s4 wr => ∃ (kk : Nat) (G : Fo) (a : Int), kk + G.len = F.len ∧ gg = G.len ∧ s3 = .int .i64 a ∧ s4 = .int .i64 kk ∧ Aside (Below w0.heap.size w0 wr) ∧ Aside (Row w G b (f + 5 * kk)) ∧ Aside (G.All DeepAt) ∧ Aside (G.dep a = F.dep 0))
  case atStart => exact ⟨0, F, 0, by omega, rfl, rfl, rfl, Below.refl _ _, hrow, h, rfl⟩
  case round =>
    obtain ⟨kk, G, a, hkk, rfl, rfl, rfl, BW, HR, HP, HA⟩ := hrel
    have c4 := (BW.out.cell (p := ⟨w.heap.size, 4, none⟩) hz).trans hc4
    have hBW0 : Below w.heap.size w wr := hgo.trans (BW.out.mono hgo.size)
    cases G with
    | nil =>
      have hltz : ¬ (kk : Int) < (F.len : Int) := by simp only [Fo.len] at hkk; omega
      have HB := Lib.hid hBW0
      clear hBW0
      go_wp2_with fail
      go_ret
      have ha : a = F.dep 0 := HA.out
      refine ⟨?_, HB.out⟩
      unfold depP; rw [← ha]; rfl
    | cons k1 o1 n1 t1 kids nx =>
      have hln : (Fo.cons k1 o1 n1 t1 kids nx).len = nx.len + 1 := rfl
      have hltz : (kk : Int) < (F.len : Int) := by omega
      obtain ⟨a1, c1, h0, h1, h2, h3, h4, r1, r2, hsl, _⟩ := (HR.out.below hBW0 (Nat.le_refl _)).kids
      obtain ⟨_, _, _, _, _, _, _, _, _, _, hrn⟩ := HR.out.kids
      obtain rfl : ad = some ⟨b, f, none⟩ := by rcases had with h | ⟨_, h⟩; exact h; omega
      rw [show f + 5 * kk = f + kk * 5 by omega] at h0 h1 h2 h3 h4
      obtain ⟨hp1, hpn⟩ := HP.out
      have HC : Hid (∀ w1, Below wr.heap.size wr w1 → Calls Tryz.prog 31 #[pv k1 o1 n1 t1 a1 kids.len c1] w1 (RetI (depP kids) w1)) := Lib.hid fun w1 hb => hp1 k1 o1 n1 t1 a1 c1 w1 (hsl.grown hb)
      have hPn : Aside _ := hpn
      have hRn : Aside _ := hrn
      have HA2 := Lib.hid HA.out
      obtain ⟨N, hN⟩ : ∃ N, N = depP kids := ⟨_, rfl⟩
      rw [← hN] at HC
      have HN := Lib.hid hN
      clear hpn hrn hsl hp1 HP HR hBW0 HA hN
      go_wp2_with (go_at_call 31; refine (HC.out _ (Below.refl _ _)).mono ?_; rintro e w1 ⟨rfl, hb⟩)
      all_goals
        go_roundg nx.len
        case measure => omega
        case rel =>
          refine ⟨kk + 1, nx, max a N, by omega, rfl, congrArg _ (by first | rfl | omega), by go_num, b_trans BW.out hb, ?_, hPn.out, ?_⟩
          · rw [show f + 5 * (kk + 1) = f + 5 * kk + 5 by omega]; exact hRn.out
          · rw [← HA2.out, HN.out]; rfl
theorem deep_any (F : Fo) : DeepAt F := Fo.rec_all deep_step F
end Go.Proofs.YthpagppipifgeaaGreatDoor
