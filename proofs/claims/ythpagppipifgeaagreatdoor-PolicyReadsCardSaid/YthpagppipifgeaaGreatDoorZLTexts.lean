/- policy.texts, holds, Holds: what a test looks at, and whether a policy holds. -/
import Derived.Test.YthpagppipifgeaaGreatDoorZLFacts
namespace Go.Proofs.YthpagppipifgeaaGreatDoor
open Go.RowKit

theorem b2 (w : World) (p q : Obj) : Below w.heap.size w ((w.alloc p).alloc q) := b_trans (b_alloc w p) (b_alloc _ q)
theorem one_SlS (w : World) (s : ByteArray) (g : Nat) (h : w.cell? ⟨g, 0, none⟩ = some (.string s)) : SlS w [s] (some ⟨g, 0, none⟩) 1 :=
  ⟨Nat.le_refl _, by decide, g, 0, Or.inl rfl, fun j x hj => by
    match j, hj with
    | 0, hj => simp at hj; rw [← hj]; exact h
    | j + 1, hj => simp at hj⟩

set_option maxRecDepth 100000 in
set_option maxHeartbeats 2000000 in
theorem texts_any (k o : Int) (n t : ByteArray) (ad : Option Addr) (l c : Nat) (x : Fx) (w : World) (hx : FxAt w x) :
    Calls Tryz.prog 54 #[pv k o n t ad l c, x.v] w fun e w' => (∃ a1 c1, e = .returned (.slice a1 (textsP o n x).length c1) ∧ SlS w' (textsP o n x) a1 c1) ∧ Below w.heap.size w w' := by
  have hSB := MX_eq
  go_enter Tryz.func54, Tryz.ntmps54
  by_cases o0 : o = 0
  · subst o0
    clear hx
    go_wp2_with fail
    go_ret
    exact ⟨⟨_, _, rfl, one_SlS _ _ _ (new_cell (by simp) _ _ 0 rfl)⟩, b_trans (b2 w _ _) (b_alloc _ _)⟩
  by_cases o1 : o = 1
  · subst o1
    clear hx
    go_wp2_with fail
    go_ret
    exact ⟨⟨_, _, rfl, one_SlS _ _ _ (new_cell (by simp) _ _ 0 rfl)⟩, b_trans (b2 w _ _) (b_alloc _ _)⟩
  by_cases o3 : o = 3
  · subst o3
    obtain ⟨hle, hcm, b, f, had, hrow⟩ := hx.ce
    have hgo := b2 w (.cells #[.int .i64 k, .int .i64 3, .string n, .string t, .slice ad l c] 24) (.cells #[.string x.m, .string x.p, .slice x.a1 x.cl.length x.c1, .slice x.a2 x.ce.length x.c2] 27)
    rw [show textsP 3 n x = lookF x.ce n by unfold textsP; simp]
    clear hx
    go_upto_region 10 with fail
    go_loopg [28] x.ce.length (fun gg s28 wr => ∃ (kk : Nat) (G : List Fact), kk + G.length = x.ce.length ∧ gg = G.length ∧ s28 = .int .i64 kk ∧ Aside (Below (w.heap.size + 2) ((w.alloc (.cells #[.int .i64 k, .int .i64 3, .string n, .string t, .slice ad l c] 24)).alloc (.cells #[.string x.m, .string x.p, .slice x.a1 x.cl.length x.c1, .slice x.a2 x.ce.length x.c2] 27)) wr) ∧ Aside (RowX wr G b (f + 2 * kk)) ∧ Aside (lookF G n = lookF x.ce n))
    case atStart => exact ⟨0, x.ce, by omega, rfl, rfl, Below.refl _ _, hrow.below hgo (Nat.le_refl _), rfl⟩
    case round =>
      obtain ⟨kk, G, hkk, rfl, rfl, BW, HR, HA⟩ := hrel
      have hbx := hgo.trans (BW.out.mono (by omega : w.heap.size ≤ w.heap.size + 2))
      have hHX : Hid (Below w.heap.size w wr) := hbx
      have hsz : w.heap.size + 2 ≤ wr.heap.size := by have := BW.out.size; simpa using this
      have cn : wr.cell? ⟨w.heap.size, 2, none⟩ = some (.string n) := (BW.out.cell (p := ⟨w.heap.size, 2, none⟩) (by simp)).trans (by simp)
      have cnA : ∀ ob, (wr.alloc ob).cell? ⟨w.heap.size, 2, none⟩ = some (.string n) := fun ob => ((b_alloc wr ob).cell (p := ⟨w.heap.size, 2, none⟩) (show w.heap.size < wr.heap.size by omega)).trans cn
      clear hbx hgo
      cases G with
      | nil =>
        have hltz : ¬ (kk : Int) < (x.ce.length : Int) := by simp only [List.length_nil] at hkk; omega
        go_wp2_with fail
        go_ret
        have h0 : lookF x.ce n = [] := HA.out.symm
        refine ⟨⟨none, 0, by rw [h0]; rfl, ?_⟩, hHX.out⟩
        rw [h0]
        exact ⟨Nat.le_refl _, by decide, 0, 0, Or.inr ⟨rfl, rfl⟩, fun j s hj => by simp at hj⟩
      | cons y G =>
        have hln : (y :: G).length = G.length + 1 := rfl
        have hltz : (kk : Int) < (x.ce.length : Int) := by omega
        have hR := HR.out
        obtain ⟨⟨a1, c1, h0, h1, hss⟩, hrn⟩ := hR
        obtain ⟨yn, yt⟩ := y
        simp only at h0 h1 hss
        have hss : Aside _ := hss
        have hrn : Aside _ := hrn
        obtain ⟨A0, hA0⟩ : ∃ A0, A0 = x.a2 := ⟨_, rfl⟩
        have hadA : A0 = some ⟨b, f, none⟩ := by rw [hA0]; rcases had with h | ⟨_, h⟩; exact h; omega
        have hadE : x.a2 = some ⟨b, f, none⟩ := hA0.symm.trans hadA
        clear hA0 hadA had
        rw [show f + 2 * kk = f + kk * 2 by omega] at h0 h1
        clear HR
        by_cases he : yn.toList = n.toList
        · have heq : (yn.toList == n.toList) = true := by simp [he]
          go_wp2_with fail
          go_ret
          have h2 : lookF x.ce n = yt := by rw [← HA.out]; simp [lookF, he]
          rw [h2]
          exact ⟨⟨a1, c1, rfl, hss.out.below (b_alloc wr _) (Nat.le_refl _)⟩, hHX.out.trans ((b_alloc wr _).mono (by omega))⟩
        · have heq : (yn.toList == n.toList) = false := by simp [he]
          go_wp2_with fail
          go_roundg G.length
          case measure => omega
          case rel =>
            have hb2 := b_alloc wr (.cells #[.string yn, .slice a1 yt.length c1] 45)
            have hR2 : RowX (wr.alloc (.cells #[.string yn, .slice a1 yt.length c1] 45)) G b (f + 2 * (kk + 1)) := by
              rw [show f + 2 * (kk + 1) = f + 2 * kk + 2 by omega]; exact hrn.out.below hb2 (Nat.le_refl _)
            have hA2 : lookF G n = lookF x.ce n := by rw [← HA.out]; simp [lookF, he]
            exact ⟨kk + 1, G, by omega, rfl, by go_num, BW.out.trans (hb2.mono hsz), hR2, hA2⟩

  · skip
    obtain ⟨hle, hcm, b, f, had, hrow⟩ := hx.cl
    have hgo := b2 w (.cells #[.int .i64 k, .int .i64 o, .string n, .string t, .slice ad l c] 24) (.cells #[.string x.m, .string x.p, .slice x.a1 x.cl.length x.c1, .slice x.a2 x.ce.length x.c2] 27)
    rw [show textsP o n x = lookF x.cl n by unfold textsP; simp [o0, o1, o3]]
    clear hx
    go_upto_region 10 with fail
    go_loopg [28] x.cl.length (fun gg s28 wr => ∃ (kk : Nat) (G : List Fact), kk + G.length = x.cl.length ∧ gg = G.length ∧ s28 = .int .i64 kk ∧ Aside (Below (w.heap.size + 2) ((w.alloc (.cells #[.int .i64 k, .int .i64 o, .string n, .string t, .slice ad l c] 24)).alloc (.cells #[.string x.m, .string x.p, .slice x.a1 x.cl.length x.c1, .slice x.a2 x.ce.length x.c2] 27)) wr) ∧ Aside (RowX wr G b (f + 2 * kk)) ∧ Aside (lookF G n = lookF x.cl n))
    case atStart => exact ⟨0, x.cl, by omega, rfl, rfl, Below.refl _ _, hrow.below hgo (Nat.le_refl _), rfl⟩
    case round =>
      obtain ⟨kk, G, hkk, rfl, rfl, BW, HR, HA⟩ := hrel
      have hbx := hgo.trans (BW.out.mono (by omega : w.heap.size ≤ w.heap.size + 2))
      have hHX : Hid (Below w.heap.size w wr) := hbx
      have hsz : w.heap.size + 2 ≤ wr.heap.size := by have := BW.out.size; simpa using this
      have cn : wr.cell? ⟨w.heap.size, 2, none⟩ = some (.string n) := (BW.out.cell (p := ⟨w.heap.size, 2, none⟩) (by simp)).trans (by simp)
      have cnA : ∀ ob, (wr.alloc ob).cell? ⟨w.heap.size, 2, none⟩ = some (.string n) := fun ob => ((b_alloc wr ob).cell (p := ⟨w.heap.size, 2, none⟩) (show w.heap.size < wr.heap.size by omega)).trans cn
      clear hbx hgo
      cases G with
      | nil =>
        have hltz : ¬ (kk : Int) < (x.cl.length : Int) := by simp only [List.length_nil] at hkk; omega
        go_wp2_with fail
        go_ret
        have h0 : lookF x.cl n = [] := HA.out.symm
        refine ⟨⟨none, 0, by rw [h0]; rfl, ?_⟩, hHX.out⟩
        rw [h0]
        exact ⟨Nat.le_refl _, by decide, 0, 0, Or.inr ⟨rfl, rfl⟩, fun j s hj => by simp at hj⟩
      | cons y G =>
        have hln : (y :: G).length = G.length + 1 := rfl
        have hltz : (kk : Int) < (x.cl.length : Int) := by omega
        have hR := HR.out
        obtain ⟨⟨a1, c1, h0, h1, hss⟩, hrn⟩ := hR
        obtain ⟨yn, yt⟩ := y
        simp only at h0 h1 hss
        have hss : Aside _ := hss
        have hrn : Aside _ := hrn
        obtain ⟨A0, hA0⟩ : ∃ A0, A0 = x.a1 := ⟨_, rfl⟩
        have hadA : A0 = some ⟨b, f, none⟩ := by rw [hA0]; rcases had with h | ⟨_, h⟩; exact h; omega
        have hadE : x.a1 = some ⟨b, f, none⟩ := hA0.symm.trans hadA
        clear hA0 hadA had
        rw [show f + 2 * kk = f + kk * 2 by omega] at h0 h1
        clear HR
        by_cases he : yn.toList = n.toList
        · have heq : (yn.toList == n.toList) = true := by simp [he]
          go_wp2_with fail
          go_ret
          have h2 : lookF x.cl n = yt := by rw [← HA.out]; simp [lookF, he]
          rw [h2]
          exact ⟨⟨a1, c1, rfl, hss.out.below (b_alloc wr _) (Nat.le_refl _)⟩, hHX.out.trans ((b_alloc wr _).mono (by omega))⟩
        · have heq : (yn.toList == n.toList) = false := by simp [he]
          go_wp2_with fail
          go_roundg G.length
          case measure => omega
          case rel =>
            have hb2 := b_alloc wr (.cells #[.string yn, .slice a1 yt.length c1] 45)
            have hR2 : RowX (wr.alloc (.cells #[.string yn, .slice a1 yt.length c1] 45)) G b (f + 2 * (kk + 1)) := by
              rw [show f + 2 * (kk + 1) = f + 2 * kk + 2 by omega]; exact hrn.out.below hb2 (Nat.le_refl _)
            have hA2 : lookF G n = lookF x.cl n := by rw [← HA.out]; simp [lookF, he]
            exact ⟨kk + 1, G, by omega, rfl, by go_num, BW.out.trans (hb2.mono hsz), hR2, hA2⟩

end Go.Proofs.YthpagppipifgeaaGreatDoor
