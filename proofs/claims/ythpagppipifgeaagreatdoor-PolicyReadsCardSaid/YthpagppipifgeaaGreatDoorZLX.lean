/- LIdx LSize, in one text. -/
import Derived.Test.YthpagppipifgeaaGreatDoorZLA
import Derived.Shelf.Abstract
import Derived.Deep.Light
/- slices.ContainsFunc over a row of policies, whatever the function is that it is handed. -/
namespace Go.Proofs.YthpagppipifgeaaGreatDoor
open Go.RowKit

/-- A test of a policy, for each of a forest. -/
def Fo.any (p : Int → Int → ByteArray → ByteArray → Fo → Bool) : Fo → Bool
  | .nil => false
  | .cons k o n t kids nx => p k o n t kids || nx.any p
/-- What is asked of the function: at each policy of the row, in whatever world has grown out of this one. -/
def Pays (g : Nat) (lb : Array Value) (p : Int → Int → ByteArray → ByteArray → Fo → Bool) (w : World) : Fo → Prop
  | .nil => True
  | .cons k o n t kids nx => (∀ W ad c, Below w.heap.size w W → n.size ≤ SB → t.size ≤ SB → SlF W kids ad c → Calls Tryz.prog g (#[pv k o n t ad kids.len c] ++ lb) W (RetB (p k o n t kids) W)) ∧ Pays g lb p w nx

theorem wrap64_small {x : Int} (h0 : -9223372036854775808 ≤ x) (h1 : x ≤ 9223372036854775807) : wrap64 x = x := by
  unfold wrap64; omega

set_option maxHeartbeats 2000000 in
set_option maxRecDepth 100000 in
theorem idx_any (g : Nat) (lb : Array Value) (eg : ∀ args w, (callFunc g args).run Tryz.prog w = .ok (.enter g args) w) (p : Int → Int → ByteArray → ByteArray → Fo → Bool) (F : Fo) (ad : Option Addr) (c : Nat) (w : World)
    (hs : SlF w F ad c) (hp : Pays g lb p w F) :
    Calls Tryz.prog 71 #[.slice ad F.len c, .func (.func g) #[] lb] w fun e w' => (∃ i : Int, e = .returned (.int .i64 i) ∧ (0 ≤ i ↔ F.any p = true) ∧ -1 ≤ i ∧ i ≤ 9223372036854775807) ∧ Below w.heap.size w w' := by
  obtain ⟨hle, hcm, b, f, had, hrow⟩ := hs
  have hSB := MX_eq
  go_enter Tryz.func71, Tryz.ntmps71
  go_wp2_with fail
  go_loopg [5, 8] F.len (fun gg _ s8 wr => ∃ (kk : Nat) (G : Fo), kk + G.len = F.len ∧ gg = G.len ∧ s8 = .int .i64 kk ∧ Aside (Below w.heap.size w wr) ∧ Aside (Row wr G b (f + 5 * kk)) ∧ Aside (Pays g lb p w G) ∧ Aside (G.any p = F.any p))
  case atStart => exact ⟨0, F, by omega, rfl, rfl, Below.refl _ w, hrow, hp, rfl⟩
  case round =>
    obtain ⟨kk, G, hkk, rfl, rfl, BW, HR, HP, HA⟩ := hrel
    cases G with
    | nil =>
      have hltz : ¬ (kk : Int) < (F.len : Int) := by simp only [Fo.len] at hkk; omega
      go_wp2_with fail
      go_ret
      exact ⟨⟨_, rfl, by simp [← HA.out, Fo.any], by omega, by omega⟩, BW.out⟩
    | cons k o n t kids nx =>
      have hln : (Fo.cons k o n t kids nx).len = nx.len + 1 := rfl
      have hltz : (kk : Int) < (F.len : Int) := by omega
      obtain ⟨a1, c1, h0, h1, h2, h3, h4, r1, r2, hsl, hrn⟩ := HR.out.kids
      obtain rfl : ad = some ⟨b, f, none⟩ := by rcases had with h | ⟨_, h⟩; exact h; omega
      rw [show f + 5 * kk = f + kk * 5 by omega] at h0 h1 h2 h3 h4
      obtain ⟨hp1, hpn⟩ := HP.out
      have hcall := hp1 wr a1 c1 BW.out r1 r2 hsl
      have hbl := BW.out.size
      clear hp1 HP HR
      have hPn : Aside _ := hpn; have hRn : Aside _ := hrn
      clear hpn hrn hsl
      cases hq : p k o n t kids with
      | true =>
        rw [hq] at hcall
        go_wp2_with (go_at_fn g; refine hcall.mono ?_; rintro e w' ⟨rfl, hb'⟩)
        go_ret
        refine ⟨⟨_, rfl, ?_, by omega, by omega⟩, BW.out.trans (hb'.mono hbl)⟩
        rw [← HA.out]; simp [Fo.any, hq]
      | false =>
        rw [hq] at hcall
        go_wp2_with (go_at_fn g; refine hcall.mono ?_; rintro e w' ⟨rfl, hb'⟩)
        go_roundg nx.len
        case measure => omega
        case rel =>
          have hR2 : Row w' nx b (f + 5 * (kk + 1)) := by
            rw [show f + 5 * (kk + 1) = f + 5 * kk + 5 by omega]; exact hRn.out.below hb' (Nat.le_refl _)
          have hA2 : nx.any p = F.any p := by rw [← HA.out]; simp [Fo.any, hq]
          exact ⟨kk + 1, nx, by omega, rfl, by go_num, BW.out.trans (hb'.mono hbl), hR2, hPn.out, hA2⟩

set_option maxRecDepth 100000 in
theorem contains_any (g : Nat) (lb : Array Value) (eg : ∀ args w, (callFunc g args).run Tryz.prog w = .ok (.enter g args) w) (p : Int → Int → ByteArray → ByteArray → Fo → Bool) (F : Fo) (ad : Option Addr) (c : Nat) (w : World)
    (hs : SlF w F ad c) (hp : Pays g lb p w F) :
    Calls Tryz.prog 45 #[.slice ad F.len c, .func (.func g) #[] lb] w (RetB (F.any p) w) := by
  have H := Lib.hid (idx_any g lb eg p F ad c w hs hp)
  clear hs hp eg
  go_enter Tryz.func45, Tryz.ntmps45
  go_wp2_with fail
  refine H.out.mono ?_
  rintro e w1 ⟨⟨i, rfl, hi, hlo, hhi⟩, hb⟩
  by_cases h : 0 ≤ i
  · have ha := hi.1 h
    go_wp2_with fail
    go_ret
    exact ⟨by rw [ha]; simp, hb⟩
  · have ha : F.any p = false := by
      cases hq : F.any p with
      | false => rfl
      | true => exact absurd (hi.2 hq) h
    go_wp2_with fail
    go_ret
    exact ⟨by rw [ha]; simp, hb⟩
end Go.Proofs.YthpagppipifgeaaGreatDoor
/- policy.size, small, Check: how many nodes a policy has, and how deep it is. -/
namespace Go.Proofs.YthpagppipifgeaaGreatDoor
open Go.RowKit

def SizeAt (F : Fo) : Prop := ∀ (k o : Int) (n t : ByteArray) (ad : Option Addr) (c : Nat) (w : World), SlF w F ad c →
  Calls Tryz.prog 49 #[pv k o n t ad F.len c] w (RetI2 (ndsP F) (depP F) w)

set_option maxRecDepth 100000 in
set_option maxHeartbeats 2000000 in
theorem size_step (F : Fo) (h : F.All SizeAt) : SizeAt F := by
  intro k o n t ad c w hs
  have hSB := MX_eq
  obtain ⟨hle, hcm, b, f, had, hrow⟩ := hs
  have hgo : Below w.heap.size w (w.alloc (.cells #[.int .i64 k, .int .i64 o, .string n, .string t, .slice ad F.len c] 24)) := b_alloc w _
  go_enter Tryz.func49, Tryz.ntmps49
  go_upto_region 2 with fail
  go_loopg [2, 3, 11] F.len (fun gg s2 s3 s11 wr => ∃ (kk : Nat) (G : Fo) (a d : Int), kk + G.len = F.len ∧ gg = G.len ∧ s2 = .int .i64 a ∧ s3 = .int .i64 d ∧ s11 = .int .i64 kk ∧ Aside (Below w.heap.size w wr) ∧ Aside (Row wr G b (f + 5 * kk)) ∧ Aside (G.All SizeAt) ∧ Aside (G.nds a = F.nds 0 ∧ G.dep d = F.dep 0))
  case atStart => exact ⟨0, F, 0, 0, by omega, rfl, rfl, rfl, rfl, hgo, hrow.below hgo (Nat.le_refl _), h, rfl, rfl⟩
  case round =>
    obtain ⟨kk, G, a, d, hkk, rfl, rfl, rfl, rfl, BW, HR, HP, HA⟩ := hrel
    cases G with
    | nil =>
      have hltz : ¬ (kk : Int) < (F.len : Int) := by simp only [Fo.len] at hkk; omega
      go_wp2_with fail
      go_ret2
      refine ⟨?_, BW.out⟩
      have h1 : a = F.nds 0 := HA.out.1
      have h2 : d = F.dep 0 := HA.out.2
      rw [h1, h2]; rfl
    | cons k1 o1 n1 t1 kids nx =>
      have hln : (Fo.cons k1 o1 n1 t1 kids nx).len = nx.len + 1 := rfl
      have hltz : (kk : Int) < (F.len : Int) := by omega
      obtain ⟨a1, c1, h0, h1, h2, h3, h4, r1, r2, hsl, hrn⟩ := HR.out.kids
      obtain rfl : ad = some ⟨b, f, none⟩ := by rcases had with h | ⟨_, h⟩; exact h; omega
      rw [show f + 5 * kk = f + kk * 5 by omega] at h0 h1 h2 h3 h4
      obtain ⟨hp1, hpn⟩ := HP.out
      have hbl := BW.out.size
      have HC : Hid (∀ w1, Below wr.heap.size wr w1 → Calls Tryz.prog 49 #[pv k1 o1 n1 t1 a1 kids.len c1] w1 (RetI2 (ndsP kids) (depP kids) w1)) := Lib.hid fun w1 hb => hp1 k1 o1 n1 t1 a1 c1 w1 (hsl.grown hb)
      have hPn : Aside _ := hpn; have hRn : Aside _ := hrn
      clear hpn hrn hsl hp1 HP HR
      obtain ⟨N, hN⟩ : ∃ N, N = ndsP kids := ⟨_, rfl⟩
      obtain ⟨D, hD⟩ : ∃ D, D = depP kids := ⟨_, rfl⟩
      rw [← hN, ← hD] at HC
      have hND : Aside _ := And.intro hN hD
      clear hN hD
      go_wp2_with (go_at_call 49; refine (HC.out _ (b_alloc _ _)).mono ?_; rintro e w1 ⟨rfl, hb⟩)
      all_goals
        go_roundg nx.len
        case measure => omega
        case rel =>
          obtain ⟨hN, hD⟩ := hND.out
          have hb2 := b_call hb
          have hR2 : Row w1 nx b (f + 5 * (kk + 1)) := by
            rw [show f + 5 * (kk + 1) = f + 5 * kk + 5 by omega]; exact hRn.out.below hb2 (Nat.le_refl _)
          refine ⟨kk + 1, nx, wrap64 (a + N), max d D, by omega, rfl, rfl, congrArg _ (by omega), by go_num, BW.out.trans (hb2.mono hbl), hR2, hPn.out, ?_, ?_⟩
          · rw [← HA.out.1, hN]; rfl
          · rw [← HA.out.2, hD]; rfl
theorem size_any (F : Fo) : SizeAt F := Fo.rec_all size_step F
theorem small_any (F : Fo) (k o : Int) (n t : ByteArray) (ad : Option Addr) (c : Nat) (w : World) (hs : SlF w F ad c) :
    Calls Tryz.prog 28 #[pv k o n t ad F.len c] w (RetB (smallP F) w) := by
  have H : Hid (∀ w1, Below w.heap.size w w1 → Calls Tryz.prog 49 #[pv k o n t ad F.len c] w1 (RetI2 (ndsP F) (depP F) w1)) := Lib.hid fun w1 hb => size_any F k o n t ad c w1 (hs.grown hb)
  clear hs
  unfold smallP
  generalize ndsP F = N at *
  generalize depP F = D at *
  go_enter Tryz.func28, Tryz.ntmps28
  go_wp2_with (go_at_call 49; refine (H.out _ (b_alloc _ _)).mono ?_; rintro e w1 ⟨rfl, hb⟩)
  all_goals (go_ret; refine ⟨?_, b_call hb⟩; simp_all; try (intro _; omega))

theorem check_core (k o : Int) (n t : ByteArray) (F : Fo) (ad : Option Addr) (c : Nat) (w : World) (hs : SlF w F ad c)
    (hm : ∀ w1, SlF w1 F ad c → Calls Tryz.prog 27 #[pv k o n t ad F.len c] w1 (RetB (mayP k o n t F) w1)) :
    Calls Tryz.prog 11 #[pv k o n t ad F.len c] w (RetI (chkP k o n t F) w) := by
  have HM : Hid (∀ w1, Below w.heap.size w w1 → Calls Tryz.prog 27 #[pv k o n t ad F.len c] w1 (RetB (mayP k o n t F) w1)) := Lib.hid fun w1 hb => hm w1 (hs.grown hb)
  have HS : Hid (∀ w1, Below w.heap.size w w1 → Calls Tryz.prog 28 #[pv k o n t ad F.len c] w1 (RetB (smallP F) w1)) := Lib.hid fun w1 hb => small_any F k o n t ad c w1 (hs.grown hb)
  clear hs hm
  unfold chkP
  generalize mayP k o n t F = m at *
  generalize smallP F = s at *
  go_enter Tryz.func11, Tryz.ntmps11
  cases m <;> cases s
  all_goals
    go_wp2_with (first
      | (go_at_call 27; refine (HM.out _ (b_alloc _ _)).mono ?_; rintro e w1 ⟨rfl, hb⟩; have c0 := box_cell hb 0 rfl; have c1 := box_cell hb 1 rfl; have c2 := box_cell hb 2 rfl; have c3 := box_cell hb 3 rfl; have c4 := box_cell hb 4 rfl)
      | (go_at_call 28; refine (HS.out _ (b_call hb)).mono ?_; rintro e w2 ⟨rfl, hb2⟩))
    go_ret
    exact ⟨rfl, by first | exact b_call hb | exact b_trans (b_call hb) hb2⟩
end Go.Proofs.YthpagppipifgeaaGreatDoor
