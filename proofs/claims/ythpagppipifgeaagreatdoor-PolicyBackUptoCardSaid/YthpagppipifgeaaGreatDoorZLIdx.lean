/- slices.ContainsFunc over a row of policies, whatever the function is that it is handed. -/
import Derived.Test.YthpagppipifgeaaGreatDoorZLA
import Derived.Shelf.Abstract
namespace Go.Proofs.YthpagppipifgeaaGreatDoor
open Go.RowKit

/-- A test of a policy, for each of a forest. -/
def Fo.any (p : Int → Int → ByteArray → ByteArray → Fo → Bool) : Fo → Bool
  | .nil => false
  | .cons k o n t kids nx => p k o n t kids || nx.any p
/-- What is asked of the function: at each policy of the row, in whatever world has grown out of this one. -/
def Pays (g : Nat) (lb : Array Value) (p : Int → Int → ByteArray → ByteArray → Fo → Bool) (w : World) : Fo → Prop
  | .nil => True
  | .cons k o n t kids nx => (∀ W ad c, Below w.heap.size w W → n.size ≤ SB → t.size ≤ SB → SlF W kids ad c → Calls Tryz.prog g (#[pv k o n t ad kids.len c] ++ lb) W (RetB (p k o n t kids) W)) ∧ Pays g lb p w nx

theorem wrap64_small {x : Int} (h0 : -9223372036854775808 ≤ x) (h1 : x ≤ 9223372036854775807) : wrap64 x = x := by
  unfold wrap64; omega

set_option maxHeartbeats 2000000 in
set_option maxRecDepth 100000 in
theorem idx_any (g : Nat) (lb : Array Value) (eg : ∀ args w, (callFunc g args).run Tryz.prog w = .ok (.enter g args) w) (p : Int → Int → ByteArray → ByteArray → Fo → Bool) (F : Fo) (ad : Option Addr) (c : Nat) (w : World)
    (hs : SlF w F ad c) (hp : Pays g lb p w F) :
    Calls Tryz.prog 71 #[.slice ad F.len c, .func (.func g) #[] lb] w fun e w' => (∃ i : Int, e = .returned (.int .i64 i) ∧ (0 ≤ i ↔ F.any p = true) ∧ -1 ≤ i ∧ i ≤ 9223372036854775807) ∧ Below w.heap.size w w' := by
  obtain ⟨hle, hcm, b, f, had, hrow⟩ := hs
  have hSB := MX_eq
  go_enter Tryz.func71, Tryz.ntmps71
  go_wp2_with fail
  go_loopg [5, 8] F.len (fun gg _ s8 wr => ∃ (kk : Nat) (G : Fo), kk + G.len = F.len ∧ gg = G.len ∧ s8 = .int .i64 kk ∧ Aside (Below w.heap.size w wr) ∧ Aside (Row wr G b (f + 5 * kk)) ∧ Aside (Pays g lb p w G) ∧ Aside (G.any p = F.any p))
  case atStart => exact ⟨0, F, by omega, rfl, rfl, Below.refl _ w, hrow, hp, rfl⟩
  case round =>
    obtain ⟨kk, G, hkk, rfl, rfl, BW, HR, HP, HA⟩ := hrel
    cases G with
    | nil =>
      have hltz : ¬ (kk : Int) < (F.len : Int) := by simp only [Fo.len] at hkk; omega
      go_wp2_with fail
      go_ret
      exact ⟨⟨_, rfl, by simp [← HA.out, Fo.any], by omega, by omega⟩, BW.out⟩
    | cons k o n t kids nx =>
      have hln : (Fo.cons k o n t kids nx).len = nx.len + 1 := rfl
      have hltz : (kk : Int) < (F.len : Int) := by omega
      obtain ⟨a1, c1, h0, h1, h2, h3, h4, r1, r2, hsl, hrn⟩ := HR.out.kids
      obtain rfl : ad = some ⟨b, f, none⟩ := by rcases had with h | ⟨_, h⟩; exact h; omega
      rw [show f + 5 * kk = f + kk * 5 by omega] at h0 h1 h2 h3 h4
      obtain ⟨hp1, hpn⟩ := HP.out
      have hcall := hp1 wr a1 c1 BW.out r1 r2 hsl
      have hbl := BW.out.size
      clear hp1 HP HR
      have hPn : Aside _ := hpn; have hRn : Aside _ := hrn
      clear hpn hrn hsl
      cases hq : p k o n t kids with
      | true =>
        rw [hq] at hcall
        go_wp2_with (go_at_fn g; refine hcall.mono ?_; rintro e w' ⟨rfl, hb'⟩)
        go_ret
        refine ⟨⟨_, rfl, ?_, by omega, by omega⟩, BW.out.trans (hb'.mono hbl)⟩
        rw [← HA.out]; simp [Fo.any, hq]
      | false =>
        rw [hq] at hcall
        go_wp2_with (go_at_fn g; refine hcall.mono ?_; rintro e w' ⟨rfl, hb'⟩)
        go_roundg nx.len
        case measure => omega
        case rel =>
          have hR2 : Row w' nx b (f + 5 * (kk + 1)) := by
            rw [show f + 5 * (kk + 1) = f + 5 * kk + 5 by omega]; exact hRn.out.below hb' (Nat.le_refl _)
          have hA2 : nx.any p = F.any p := by rw [← HA.out]; simp [Fo.any, hq]
          exact ⟨kk + 1, nx, by omega, rfl, by go_num, BW.out.trans (hb'.mono hbl), hR2, hPn.out, hA2⟩

set_option maxRecDepth 100000 in
theorem contains_any (g : Nat) (lb : Array Value) (eg : ∀ args w, (callFunc g args).run Tryz.prog w = .ok (.enter g args) w) (p : Int → Int → ByteArray → ByteArray → Fo → Bool) (F : Fo) (ad : Option Addr) (c : Nat) (w : World)
    (hs : SlF w F ad c) (hp : Pays g lb p w F) :
    Calls Tryz.prog 45 #[.slice ad F.len c, .func (.func g) #[] lb] w (RetB (F.any p) w) := by
  have H := Lib.hid (idx_any g lb eg p F ad c w hs hp)
  clear hs hp eg
  go_enter Tryz.func45, Tryz.ntmps45
  go_wp2_with fail
  refine H.out.mono ?_
  rintro e w1 ⟨⟨i, rfl, hi, hlo, hhi⟩, hb⟩
  by_cases h : 0 ≤ i
  · have ha := hi.1 h
    go_wp2_with fail
    go_ret
    exact ⟨by rw [ha]; simp, hb⟩
  · have ha : F.any p = false := by
      cases hq : F.any p with
      | false => rfl
      | true => exact absurd (hi.2 hq) h
    go_wp2_with fail
    go_ret
    exact ⟨by rw [ha]; simp, hb⟩
end Go.Proofs.YthpagppipifgeaaGreatDoor
