/- LHolds LHold2, in one text. -/
import Derived.Test.YthpagppipifgeaaGreatDoorZLTexts
import Derived.BigQuiet
import Derived.Test.YthpagppipifgeaaGreatDoorZLX
/- policy.holds: whether a node holds of facts. -/
namespace Go.Proofs.YthpagppipifgeaaGreatDoor
open Go.RowKit

def HoldAt (x : Fx) (F : Fo) : Prop := ∀ (k o : Int) (n t : ByteArray) (ad : Option Addr) (c : Nat) (w : World), SlF w F ad c → FxAt w x →
  Calls Tryz.prog 32 #[pv k o n t ad F.len c, x.v] w (RetB (holdP x k o n t F) w)
/-- The facts lie in this block. -/
def FBox (w : World) (x : Fx) (B : Nat) : Prop := B < w.heap.size ∧ w.cell? ⟨B, 0, none⟩ = some (.string x.m) ∧ w.cell? ⟨B, 1, none⟩ = some (.string x.p) ∧ w.cell? ⟨B, 2, none⟩ = some (.slice x.a1 x.cl.length x.c1) ∧ w.cell? ⟨B, 3, none⟩ = some (.slice x.a2 x.ce.length x.c2)
theorem FBox.below {w w' : World} {x : Fx} {B : Nat} (h : FBox w x B) (hb : Below w.heap.size w w') : FBox w' x B := by
  obtain ⟨h0, h1, h2, h3, h4⟩ := h
  have hc : ∀ i, w'.cell? ⟨B, i, none⟩ = w.cell? ⟨B, i, none⟩ := fun i => hb.cell (p := ⟨B, i, none⟩) h0
  exact ⟨Nat.lt_of_lt_of_le h0 hb.size, (hc 0).trans h1, (hc 1).trans h2, (hc 2).trans h3, (hc 3).trans h4⟩

theorem holds1_any (x : Fx) (F : Fo) (h : HoldAt x F) (k o : Int) (n t : ByteArray) (ad : Option Addr) (c B : Nat) (w : World) (hs : SlF w F ad c) (hx : FxAt w x) (hB : FBox w x B) :
    Calls Tryz.prog 52 #[pv k o n t ad F.len c, .pointer (some ⟨B, 0, none⟩)] w (RetB (holdP x k o n t F) w) := by
  have H : Hid (∀ w1, Below w.heap.size w w1 → Calls Tryz.prog 32 #[pv k o n t ad F.len c, x.v] w1 (RetB (holdP x k o n t F) w1)) := Lib.hid fun w1 hb => h k o n t ad c w1 (hs.grown hb) (hx.below hb (Nat.le_refl _))
  have hB2 := hB.below (b_alloc w (.cells #[.int .i64 k, .int .i64 o, .string n, .string t, .slice ad F.len c] 24))
  obtain ⟨_, h0, h1, h2, h3⟩ := hB2
  clear h hs hx hB
  go_enter Tryz.func52, Tryz.ntmps52
  go_wp2_with (go_at_call 32; refine (H.out _ (b_alloc _ _)).mono ?_; rintro e w1 ⟨rfl, hb⟩)
  go_ret
  exact ⟨rfl, b_call hb⟩
theorem holds2_any (x : Fx) (F : Fo) (h : HoldAt x F) (k o : Int) (n t : ByteArray) (ad : Option Addr) (c B : Nat) (w : World) (hs : SlF w F ad c) (hx : FxAt w x) (hB : FBox w x B) :
    Calls Tryz.prog 53 #[pv k o n t ad F.len c, .pointer (some ⟨B, 0, none⟩)] w (RetB (!holdP x k o n t F) w) := by
  have H : Hid (∀ w1, Below w.heap.size w w1 → Calls Tryz.prog 32 #[pv k o n t ad F.len c, x.v] w1 (RetB (holdP x k o n t F) w1)) := Lib.hid fun w1 hb => h k o n t ad c w1 (hs.grown hb) (hx.below hb (Nat.le_refl _))
  have hB2 := hB.below (b_alloc w (.cells #[.int .i64 k, .int .i64 o, .string n, .string t, .slice ad F.len c] 24))
  obtain ⟨_, h0, h1, h2, h3⟩ := hB2
  clear h hs hx hB
  go_enter Tryz.func53, Tryz.ntmps53
  go_wp2_with (go_at_call 32; refine (H.out _ (b_alloc _ _)).mono ?_; rintro e w1 ⟨rfl, hb⟩)
  go_ret
  exact ⟨rfl, b_call hb⟩
theorem pays_h1 (x : Fx) (F : Fo) (h : F.All (HoldAt x)) (w : World) (B : Nat) (hx : FxAt w x) (hB : FBox w x B) : Pays 52 #[.pointer (some ⟨B, 0, none⟩)] (fun k o n t K => holdP x k o n t K) w F := by
  induction F with
  | nil => trivial
  | cons k o n t kids nx _ ih => exact ⟨fun W ad c hb _ _ hs => holds1_any x kids h.1 k o n t ad c B W hs (hx.below hb (Nat.le_refl _)) (hB.below hb), ih h.2⟩
theorem pays_h2 (x : Fx) (F : Fo) (h : F.All (HoldAt x)) (w : World) (B : Nat) (hx : FxAt w x) (hB : FBox w x B) : Pays 53 #[.pointer (some ⟨B, 0, none⟩)] (fun k o n t K => !holdP x k o n t K) w F := by
  induction F with
  | nil => trivial
  | cons k o n t kids nx _ ih => exact ⟨fun W ad c hb _ _ hs => holds2_any x kids h.1 k o n t ad c B W hs (hx.below hb (Nat.le_refl _)) (hB.below hb), ih h.2⟩
theorem has_any (l : List ByteArray) (t : ByteArray) (a : Option Addr) (c : Nat) (w : World) (hs : SlS w l a c) :
    Calls Tryz.prog 56 #[.slice a l.length c, .string t] w fun e w' => e = .returned (.bool (l.any fun y => decide (y.toList = t.toList))) ∧ w' = w := by
  obtain ⟨hle, hcm, b, f, had, hc⟩ := hs
  have hSB := MX_eq
  have hq : Lib.containsS l t = l.any fun y => decide (y.toList = t.toList) := by
    have h := Lib.containsS_iff l t
    cases hx : Lib.containsS l t
    · rw [hx] at h
      symm
      rw [List.any_eq_false]
      intro y hy hd
      have hd := of_decide_eq_true hd
      rw [dl, dl] at hd
      have : y = t := by cases y; cases t; simp at hd; simp [hd]
      exact absurd (h.2 (this ▸ hy)) (by decide)
    · rw [hx] at h
      symm
      rw [List.any_eq_true]
      exact ⟨t, h.1 rfl, by simp⟩
  rcases had with rfl | ⟨_, h0⟩
  · have := Tryz.slices_Contains_string b f l.length c l t w (Nat.le_refl _) (by omega) (fun j hj => by
      have := hc j l[j] (by simp [hj])
      rw [this]; simp [hj])
    rw [List.take_length, hq] at this
    exact this
  · have hl : l = [] := List.eq_nil_of_length_eq_zero h0
    subst hl
    exact Tryz.slices_Contains_string_empty a c t w
end Go.Proofs.YthpagppipifgeaaGreatDoor
/- policy.holds, Holds: the walks. -/
namespace Go.Proofs.YthpagppipifgeaaGreatDoor
open Go.RowKit

set_option maxRecDepth 100000 in
set_option maxHeartbeats 4000000 in
theorem hold_step (x : Fx) (F : Fo) (h : F.All (HoldAt x)) : HoldAt x F := by
  intro k o n t ad c w hs hx
  have hfl : F.len ≤ MX := Nat.le_trans hs.le hs.cm
  have hSB := MX_eq
  obtain ⟨w0, hw0⟩ : ∃ w0, w0 = (w.alloc (.cells #[.int .i64 k, .int .i64 o, .string n, .string t, .slice ad F.len c] 24)).alloc (.cells #[.string x.m, .string x.p, .slice x.a1 x.cl.length x.c1, .slice x.a2 x.ce.length x.c2] 27) := ⟨_, rfl⟩
  have hb0 : Below w.heap.size w w0 := by rw [hw0]; exact b2 w _ _
  have hsz : w0.heap.size = w.heap.size + 2 := by rw [hw0]; simp
  have hbx : FBox w0 x (w.heap.size + 1) := by
    rw [hw0]
    exact ⟨by simp, new_cell (by simp) _ _ 0 rfl, new_cell (by simp) _ _ 1 rfl, new_cell (by simp) _ _ 2 rfl, new_cell (by simp) _ _ 3 rfl⟩
  have hpx : ∀ i v, (#[.int .i64 k, .int .i64 o, .string n, .string t, .slice ad F.len c] : Array Value)[i]? = some v → w0.cell? ⟨w.heap.size, i, none⟩ = some v := fun i v hi => by
    rw [hw0]
    exact ((b_alloc (w.alloc _) _).cell (p := ⟨w.heap.size, i, none⟩) (by simp)).trans (by simp [hi])
  have HT : Hid (Calls Tryz.prog 54 #[pv k o n t ad F.len c, x.v] w0 fun e w' => (∃ a1 c1, e = .returned (.slice a1 (textsP o n x).length c1) ∧ SlS w' (textsP o n x) a1 c1) ∧ Below w0.heap.size w0 w') :=
    Lib.hid (texts_any k o n t ad F.len c x w0 (hx.below hb0 (Nat.le_refl _)))
  have HC : Hid (∀ w1, Below w0.heap.size w0 w1 → Calls Tryz.prog 45 #[.slice ad F.len c, .func (.func 52) #[] #[.pointer (some ⟨w.heap.size + 1, 0, none⟩)]] w1 (RetB (F.hold x).2 w1)) := Lib.hid fun w1 hb => by
    rw [← any_hold]
    have hb1 := hb0.trans (hb.mono hb0.size)
    exact contains_any _ _ (enters_of Tryz.func52 (by kernel_rfl) rfl) _ F ad c w1 (hs.grown hb1) (pays_h1 x F h w1 _ (hx.below hb1 (Nat.le_refl _)) (hbx.below hb))
  have HN : Hid (∀ w1, Below w0.heap.size w0 w1 → Calls Tryz.prog 45 #[.slice ad F.len c, .func (.func 53) #[] #[.pointer (some ⟨w.heap.size + 1, 0, none⟩)]] w1 (RetB (!(F.hold x).1) w1)) := Lib.hid fun w1 hb => by
    rw [← any_unhold]
    have hb1 := hb0.trans (hb.mono hb0.size)
    exact contains_any _ _ (enters_of Tryz.func53 (by kernel_rfl) rfl) _ F ad c w1 (hs.grown hb1) (pays_h2 x F h w1 _ (hx.below hb1 (Nat.le_refl _)) (hbx.below hb))
  have hq0 : w0.cell? ⟨w.heap.size, 0, none⟩ = some (.int .i64 k) := hpx 0 _ rfl
  have hq3 : w0.cell? ⟨w.heap.size, 3, none⟩ = some (.string t) := hpx 3 _ rfl
  have hq4 : w0.cell? ⟨w.heap.size, 4, none⟩ = some (.slice ad F.len c) := hpx 4 _ rfl
  clear h hs hx hbx hpx
  unfold holdP
  generalize F.len = L at *
  generalize F.hold x = a at *
  obtain ⟨T, hT⟩ : ∃ T, T = textsP o n x := ⟨_, rfl⟩
  rw [← hT] at HT
  have HTT := Lib.hid hT
  clear hT
  have HB0 := Lib.hid hb0
  have HW := Lib.hid hw0
  have HZ := Lib.hid hsz
  clear hb0 hw0 hsz
  go_enter Tryz.func32, Tryz.ntmps32
  go_upto_region 4 with (go_at_call 54; rw [← HW.out]; refine HT.out.mono ?_; rintro e w1 ⟨⟨a1, c1, rfl, hss⟩, hb1⟩)
  have hlt : w.heap.size < w0.heap.size := by have := HZ.out; omega
  have hlt1 : w.heap.size < w1.heap.size := Nat.lt_of_lt_of_le hlt hb1.size
  have hcc : ∀ i, w1.cell? ⟨w.heap.size, i, none⟩ = w0.cell? ⟨w.heap.size, i, none⟩ := fun i => hb1.cell (p := ⟨w.heap.size, i, none⟩) hlt
  have d0 := (hcc 0).trans hq0
  have d3 := (hcc 3).trans hq3
  have d4 := (hcc 4).trans hq4
  have HX : Hid (Below w.heap.size w w1) := Lib.hid (HB0.out.trans (hb1.mono HB0.out.size))
  have HB1 := Lib.hid hb1
  have HS := Lib.hid hss
  clear hq0 hq3 hq4 hcc HW HB0 HZ hb1 hss HT
  by_cases k0 : k = 0
  · subst k0
    go_wp2_with fail
    go_ret
    exact ⟨rfl, HX.out⟩
  by_cases k1 : k = 1
  · subst k1
    go_upto_region 9 with fail
    go_region_with (go_at_call 45; refine (HN.out _ ?_).mono ?_; (repeat (first | exact HB1.out | refine Below.drew ?_)); rintro e w2 ⟨rfl, hb2⟩; have d0' := (hb2.cell (p := ⟨w.heap.size, 0, none⟩) hlt1).trans d0)
    all_goals
      go_wp2_with fail
      go_ret
      exact ⟨by simp [holdN, Act.put], b_trans (by repeat (first | exact HX.out | refine Below.drew ?_)) hb2⟩
  by_cases k2 : k = 2
  · subst k2
    go_upto_region 9 with fail
    go_region_with (go_at_call 45; refine (HN.out _ ?_).mono ?_; (repeat (first | exact HB1.out | refine Below.drew ?_)); rintro e w2 ⟨rfl, hb2⟩; have d0' := (hb2.cell (p := ⟨w.heap.size, 0, none⟩) hlt1).trans d0)
    all_goals
      go_wp2_with fail
      go_ret
      exact ⟨by simp [holdN, Act.put], b_trans (by repeat (first | exact HX.out | refine Below.drew ?_)) hb2⟩
  by_cases k3 : k = 3
  · subst k3
    go_wp2_with (go_at_call 45; refine (HC.out _ ?_).mono ?_; (repeat (first | exact HB1.out | refine Below.drew ?_)); rintro e w2 ⟨rfl, hb2⟩)
    go_ret
    exact ⟨by simp [holdN], b_trans (by repeat (first | exact HX.out | refine Below.drew ?_)) hb2⟩
  by_cases k4 : k = 4
  · subst k4
    by_cases hN : T.length = 1
    · obtain ⟨y, rfl⟩ : ∃ y, T = [y] := by
        match T, hN with
        | [y], _ => exact ⟨y, rfl⟩
      obtain ⟨_, _, b, f, had, hc⟩ := HS.out
      obtain rfl : a1 = some ⟨b, f, none⟩ := by rcases had with h | ⟨_, h⟩; exact h; simp at h
      have hy : w1.cell? ⟨b, f, none⟩ = some (.string y) := hc 0 y rfl
      clear had hc
      go_upto_region 13 with fail
      go_quiet (fail)
      go_wp2_with fail
      go_ret
      exact ⟨by rw [show holdN x 4 o n t a = decide (y.toList = t.toList) by simp [holdN, testB, ← HTT.out]]; simp [beqL], below_drawn HX.out _⟩
    · have hN' : ((T.length : Int) == 1) = false := by rw [beq1]; simp [hN]
      have hF : holdN x 4 o n t a = false := by
        have hT := HTT.out
        match T, hN, hT with
        | [], _, hT => simp [holdN, testB, ← hT]
        | [y], hN, _ => exact absurd rfl hN
        | y :: z :: r, _, hT => simp [holdN, testB, ← hT]
      have HFF := Lib.hid hF
      clear hF
      generalize T.length = N at *
      go_upto_region 13 with fail
      go_quiet (fail)
      go_wp2_with fail
      go_ret
      exact ⟨by simp [HFF.out], below_drawn HX.out _⟩
  by_cases k5 : k = 5
  · subst k5
    by_cases hN : T.length = 1
    · obtain ⟨y, rfl⟩ : ∃ y, T = [y] := by
        match T, hN with
        | [y], _ => exact ⟨y, rfl⟩
      obtain ⟨_, _, b, f, had, hc⟩ := HS.out
      obtain rfl : a1 = some ⟨b, f, none⟩ := by rcases had with h | ⟨_, h⟩; exact h; simp at h
      have hy : w1.cell? ⟨b, f, none⟩ = some (.string y) := hc 0 y rfl
      clear had hc
      go_upto_region 15 with fail
      go_quiet ((go_at_call 55; exact Calls.quiet_of_same (Tryz.strings_HasPrefix y t _)))
      go_wp2_with fail
      go_ret
      exact ⟨by rw [show holdN x 5 o n t a = prefB y t by simp [holdN, testB, ← HTT.out]]; simp [prefB], below_drawn HX.out _⟩
    · have hN' : ((T.length : Int) == 1) = false := by rw [beq1]; simp [hN]
      have hF : holdN x 5 o n t a = false := by
        have hT := HTT.out
        match T, hN, hT with
        | [], _, hT => simp [holdN, testB, ← hT]
        | [y], hN, _ => exact absurd rfl hN
        | y :: z :: r, _, hT => simp [holdN, testB, ← hT]
      have HFF := Lib.hid hF
      clear hF
      generalize T.length = N at *
      go_upto_region 15 with fail
      go_quiet (fail)
      go_wp2_with fail
      go_ret
      exact ⟨by simp [HFF.out], below_drawn HX.out _⟩
  · go_wp2_with (go_at_call 56; refine (has_any T t a1 c1 _ HS.out).mono ?_; rintro e w2 ⟨rfl, rfl⟩)
    go_ret
    exact ⟨by simp [holdN, testB, k0, k1, k2, k3, k4, k5, ← HTT.out], HX.out⟩
theorem hold_any (x : Fx) (F : Fo) : HoldAt x F := Fo.rec_all (hold_step x) F

set_option maxRecDepth 100000 in
set_option maxHeartbeats 1000000 in
theorem Holds_core (k o : Int) (n t : ByteArray) (F : Fo) (ad : Option Addr) (c : Nat) (x : Fx) (w : World) (hs : SlF w F ad c) (hx : FxAt w x)
    (hk : ∀ w1, SlF w1 F ad c → Calls Tryz.prog 11 #[pv k o n t ad F.len c] w1 (RetI (chkP k o n t F) w1)) :
    Calls Tryz.prog 13 #[pv k o n t ad F.len c, x.v] w (RetB (holdsP x k o n t F) w) := by
  obtain ⟨w0, hw0⟩ : ∃ w0, w0 = (w.alloc (.cells #[.int .i64 k, .int .i64 o, .string n, .string t, .slice ad F.len c] 24)).alloc (.cells #[.string x.m, .string x.p, .slice x.a1 x.cl.length x.c1, .slice x.a2 x.ce.length x.c2] 27) := ⟨_, rfl⟩
  have hb0 : Below w.heap.size w w0 := by rw [hw0]; exact b2 w _ _
  have hsz : w0.heap.size = w.heap.size + 2 := by rw [hw0]; simp
  have hpx : ∀ w1, Below w0.heap.size w0 w1 → ∀ i v, (#[.int .i64 k, .int .i64 o, .string n, .string t, .slice ad F.len c] : Array Value)[i]? = some v → w1.cell? ⟨w.heap.size, i, none⟩ = some v := fun w1 hb i v hi =>
    (hb.cell (p := ⟨w.heap.size, i, none⟩) (by simp [hsz])).trans (by
      rw [hw0]
      exact ((b_alloc (w.alloc _) _).cell (p := ⟨w.heap.size, i, none⟩) (by simp)).trans (by simp [hi]))
  have hfx : ∀ w1, Below w0.heap.size w0 w1 → ∀ i v, (#[.string x.m, .string x.p, .slice x.a1 x.cl.length x.c1, .slice x.a2 x.ce.length x.c2] : Array Value)[i]? = some v → w1.cell? ⟨w.heap.size + 1, i, none⟩ = some v := fun w1 hb i v hi =>
    (hb.cell (p := ⟨w.heap.size + 1, i, none⟩) (by simp [hsz])).trans (by
      rw [hw0]
      exact new_cell (by simp) _ _ i hi)
  have HK : Hid (Calls Tryz.prog 11 #[pv k o n t ad F.len c] w0 (RetI (chkP k o n t F) w0)) := Lib.hid (hk w0 (hs.grown hb0))
  have HH : Hid (∀ w1, Below w0.heap.size w0 w1 → Calls Tryz.prog 32 #[pv k o n t ad F.len c, x.v] w1 (RetB (holdP x k o n t F) w1)) := Lib.hid fun w1 hb => by
    have hb1 := hb0.trans (hb.mono hb0.size)
    exact hold_any x F k o n t ad c w1 (hs.grown hb1) (hx.below hb1 (Nat.le_refl _))
  have HPX := Lib.hid hpx
  have HFX := Lib.hid hfx
  have HB0 := Lib.hid hb0
  have HW := Lib.hid hw0
  clear hs hx hk hpx hfx hb0 hsz hw0
  unfold holdsP
  generalize chkP k o n t F = C at *
  generalize holdP x k o n t F = a at *
  go_enter Tryz.func13, Tryz.ntmps13
  by_cases hC : C = 0
  · subst hC
    go_wp2_with (first
      | (go_at_call 11; rw [← HW.out]; refine HK.out.mono ?_; rintro e w1 ⟨rfl, hb1⟩
         have p0 := HPX.out w1 hb1 0 _ rfl; have p1 := HPX.out w1 hb1 1 _ rfl; have p2 := HPX.out w1 hb1 2 _ rfl; have p3 := HPX.out w1 hb1 3 _ rfl; have p4 := HPX.out w1 hb1 4 _ rfl
         have f0 := HFX.out w1 hb1 0 _ rfl; have f1 := HFX.out w1 hb1 1 _ rfl; have f2 := HFX.out w1 hb1 2 _ rfl; have f3 := HFX.out w1 hb1 3 _ rfl
         have HB1 := Lib.hid hb1)
      | (go_at_call 32; refine (HH.out _ HB1.out).mono ?_; rintro e w2 ⟨rfl, hb2⟩))
    go_ret
    exact ⟨by simp, b_trans (HB0.out.trans (HB1.out.mono HB0.out.size)) hb2⟩
  · go_wp2_with (go_at_call 11; rw [← HW.out]; refine HK.out.mono ?_; rintro e w1 ⟨rfl, hb1⟩)
    go_ret
    exact ⟨by simp [hC], HB0.out.trans (hb1.mono HB0.out.size)⟩
end Go.Proofs.YthpagppipifgeaaGreatDoor
