/- LRefH LRefH2, in one text. -/
import Derived.Test.YthpagppipifgeaaGreatDoorZLRefC
import Derived.Test.YthpagppipifgeaaGreatDoorZLHold2
/- ostiaryref20.holds, Holds: the walks. -/
namespace Go.Proofs.YthpagppipifgeaaGreatDoor
open Go.RowKit

def HoldRAt (x : Fx) (F : Fo) : Prop := ∀ (k o : Int) (n t : ByteArray) (ad : Option Addr) (c : Nat) (w : World), mayP k o n t F = true → SlF w F ad c → FxAt w x →
  Calls Tryz.prog 33 #[pv k o n t ad F.len c, x.v] w (RetB (holdP x k o n t F) w)
/-- One text of a test's. -/
def oneR (k : Int) (one : Bool) (t s : ByteArray) : Bool := if k = 4 then one && decide (s.toList = t.toList) else if k = 5 then one && prefB s t else decide (s.toList = t.toList)
theorem testB_any (k : Int) (l : List ByteArray) (t : ByteArray) : testB k l t = l.any (oneR k (decide (l.length = 1)) t) := by
  unfold testB oneR
  split
  · match l with
    | [] => rfl
    | [x] => simp
    | x :: y :: r => simp
  · split
    · match l with
      | [] => rfl
      | [x] => simp
      | x :: y :: r => simp
    · rfl
theorem any_step {l : List ByteArray} {i : Nat} {x : ByteArray} (hx : l[i]? = some x) (f : ByteArray → Bool) : (l.drop i).any f = (f x || (l.drop (i + 1)).any f) := by
  obtain ⟨hi, rfl⟩ := List.getElem?_eq_some_iff.1 hx
  rw [List.drop_eq_getElem_cons hi, List.any_cons]
set_option maxRecDepth 100000 in
set_option maxHeartbeats 4000000 in
theorem holdR_6 (x : Fx) (o : Int) (n t : ByteArray) (ad : Option Addr) (L c : Nat) (w : World) (hx : FxAt w x) :
    Calls Tryz.prog 33 #[pv 6 o n t ad L c, x.v] w (RetB (testB 6 (textsP o n x) t) w) := by
  have hSB := MX_eq
  obtain ⟨w0, hw0⟩ : ∃ w0, w0 = ((w.alloc (.cells #[.int .i64 6, .int .i64 o, .string n, .string t, .slice ad L c] 24)).alloc (.cells #[.string x.m, .string x.p, .slice x.a1 x.cl.length x.c1, .slice x.a2 x.ce.length x.c2] 27)) := ⟨_, rfl⟩
  have hb0 : Below w.heap.size w w0 := by rw [hw0]; exact b2 w _ _
  have hsz : w0.heap.size = w.heap.size + 2 := by rw [hw0]; simp
  have hpx : ∀ i v, (#[.int .i64 6, .int .i64 o, .string n, .string t, .slice ad L c] : Array Value)[i]? = some v → w0.cell? ⟨w.heap.size, i, none⟩ = some v := fun i v hi => by
    rw [hw0]
    exact ((b_alloc (w.alloc _) _).cell (p := ⟨w.heap.size, i, none⟩) (by simp)).trans (by simp [hi])
  have HT : Hid (Calls Tryz.prog 57 #[pv 6 o n t ad L c, x.v] w0 fun e w' => (∃ a1 c1, e = .returned (.slice a1 (textsP o n x).length c1) ∧ SlS w' (textsP o n x) a1 c1) ∧ Below w0.heap.size w0 w') :=
    Lib.hid (textsR_any 6 o n t ad L c x w0 (hx.below hb0 (Nat.le_refl _)))
  have HPX := Lib.hid hpx
  clear hx hpx
  rw [testB_any]
  generalize textsP o n x = T at *
  obtain ⟨R, hR⟩ : ∃ R, R = T.any (oneR 6 (decide (T.length = 1)) t) := ⟨_, rfl⟩
  rw [← hR]
  have HRR := Lib.hid hR
  have HB0 := Lib.hid hb0
  have HW := Lib.hid hw0
  have HZ := Lib.hid hsz
  clear hb0 hw0 hsz hR
  go_enter Tryz.func33, Tryz.ntmps33
  go_upto_region 22 with (go_at_call 57; rw [← HW.out]; refine HT.out.mono ?_; rintro e w1 ⟨⟨a1, c1, rfl, hss⟩, hb1⟩)
  have hlt1 : w.heap.size < w1.heap.size := by have := HZ.out; have := hb1.size; omega
  have hlt : w.heap.size < w0.heap.size := by have := HZ.out; omega
  have hcc : ∀ i, w1.cell? ⟨w.heap.size, i, none⟩ = w0.cell? ⟨w.heap.size, i, none⟩ := fun i => hb1.cell (p := ⟨w.heap.size, i, none⟩) hlt
  have d0 : w1.cell? ⟨w.heap.size, 0, none⟩ = some (.int .i64 6) := (hcc 0).trans (HPX.out 0 _ rfl)
  have d3 : w1.cell? ⟨w.heap.size, 3, none⟩ = some (.string t) := (hcc 3).trans (HPX.out 3 _ rfl)
  have HX : Hid (Below w.heap.size w w1) := Lib.hid (HB0.out.trans (hb1.mono HB0.out.size))
  obtain ⟨hTc, hcm, b, f, had, hcell⟩ := hss
  have HCELL := Lib.hid hcell
  have HAD := Lib.hid had
  have hTm : T.length ≤ MX := Nat.le_trans hTc hcm
  clear HT HPX HW HB0 HZ hcc hb1 hlt hcell had
  go_loopg [8] T.length (fun gg s8 wr => ∃ i : Nat, i ≤ T.length ∧ gg = T.length - i ∧ s8 = .int .i64 i ∧ Aside (Below w1.heap.size w1 wr) ∧ Aside ((T.drop i).any (oneR 6 (decide (T.length = 1)) t) = R))
  case atStart => exact ⟨0, Nat.zero_le _, rfl, rfl, Below.refl _ _, HRR.out.symm⟩
  case round =>
    obtain ⟨i, hil, rfl, rfl, BW, HA⟩ := hrel
    have hq0 := (BW.out.cell (p := ⟨w.heap.size, 0, none⟩) hlt1).trans d0
    have hq3 := (BW.out.cell (p := ⟨w.heap.size, 3, none⟩) hlt1).trans d3
    have HB : Hid (Below w.heap.size w wr) := Lib.hid (HX.out.trans (BW.out.mono HX.out.size))
    clear d0 d3
    by_cases hlt : i < T.length
    · have hltz : (i : Int) < (T.length : Int) := by omega
      obtain ⟨s, hs⟩ : ∃ s, T[i]? = some s := ⟨T[i], by simp [hlt]⟩
      obtain rfl : a1 = some ⟨b, f, none⟩ := by rcases HAD.out with h | ⟨_, h⟩; exact h; omega
      have hsc : wr.cell? ⟨b, f + i, none⟩ = some (.string s) := by
        have h1 := HCELL.out i s hs
        exact (BW.out.cell (p := ⟨b, f + i, none⟩) (World.block_lt_of_cell? w1 _ h1)).trans h1
      have has := any_step hs (oneR 6 (decide (T.length = 1)) t)
      rw [HA.out] at has
      have HAS := Lib.hid has
      clear has HA hs HRR
      by_cases he : s.toList = t.toList
      · have heq : (s.toList == t.toList) = true := by simp [he]
        have HV : Hid (oneR 6 (decide (T.length = 1)) t s = true) := Lib.hid (by simp [oneR, he])
        clear he
        go_wp2_with fail
        go_ret
        exact ⟨congrArg (fun b : Bool => Ending.returned (Value.bool b)) (by rw [HAS.out, HV.out]; rfl), HB.out⟩
      · have heq : (s.toList == t.toList) = false := by simp [he]
        have HV : Hid (oneR 6 (decide (T.length = 1)) t s = false) := Lib.hid (by simp [oneR, he])
        clear he
        go_upto_region 28 with fail
        go_quiet (fail)
        go_wp2_with fail
        go_roundg (T.length - (i + 1))
        case measure => omega
        case rel => exact ⟨i + 1, by omega, rfl, by go_num, below_drawn BW.out _, (by rw [HAS.out, HV.out]; rfl)⟩
    · have hltz : ¬ (i : Int) < (T.length : Int) := by omega
      have HE : Hid (false = R) := Lib.hid (by have h := HA.out; rw [List.drop_eq_nil_of_le (by omega)] at h; exact h)
      clear HA HRR
      go_wp2_with fail
      go_ret
      exact ⟨congrArg (fun b : Bool => Ending.returned (Value.bool b)) HE.out, HB.out⟩
set_option maxRecDepth 100000 in
set_option maxHeartbeats 4000000 in
theorem holdR_4 (x : Fx) (o : Int) (n t : ByteArray) (ad : Option Addr) (L c : Nat) (w : World) (hx : FxAt w x) :
    Calls Tryz.prog 33 #[pv 4 o n t ad L c, x.v] w (RetB (testB 4 (textsP o n x) t) w) := by
  have hSB := MX_eq
  obtain ⟨w0, hw0⟩ : ∃ w0, w0 = ((w.alloc (.cells #[.int .i64 4, .int .i64 o, .string n, .string t, .slice ad L c] 24)).alloc (.cells #[.string x.m, .string x.p, .slice x.a1 x.cl.length x.c1, .slice x.a2 x.ce.length x.c2] 27)) := ⟨_, rfl⟩
  have hb0 : Below w.heap.size w w0 := by rw [hw0]; exact b2 w _ _
  have hsz : w0.heap.size = w.heap.size + 2 := by rw [hw0]; simp
  have hpx : ∀ i v, (#[.int .i64 4, .int .i64 o, .string n, .string t, .slice ad L c] : Array Value)[i]? = some v → w0.cell? ⟨w.heap.size, i, none⟩ = some v := fun i v hi => by
    rw [hw0]
    exact ((b_alloc (w.alloc _) _).cell (p := ⟨w.heap.size, i, none⟩) (by simp)).trans (by simp [hi])
  have HT : Hid (Calls Tryz.prog 57 #[pv 4 o n t ad L c, x.v] w0 fun e w' => (∃ a1 c1, e = .returned (.slice a1 (textsP o n x).length c1) ∧ SlS w' (textsP o n x) a1 c1) ∧ Below w0.heap.size w0 w') :=
    Lib.hid (textsR_any 4 o n t ad L c x w0 (hx.below hb0 (Nat.le_refl _)))
  have HPX := Lib.hid hpx
  clear hx hpx
  rw [testB_any]
  generalize textsP o n x = T at *
  obtain ⟨R, hR⟩ : ∃ R, R = T.any (oneR 4 (decide (T.length = 1)) t) := ⟨_, rfl⟩
  rw [← hR]
  have HRR := Lib.hid hR
  have HB0 := Lib.hid hb0
  have HW := Lib.hid hw0
  have HZ := Lib.hid hsz
  clear hb0 hw0 hsz hR
  go_enter Tryz.func33, Tryz.ntmps33
  go_upto_region 22 with (go_at_call 57; rw [← HW.out]; refine HT.out.mono ?_; rintro e w1 ⟨⟨a1, c1, rfl, hss⟩, hb1⟩)
  have hlt1 : w.heap.size < w1.heap.size := by have := HZ.out; have := hb1.size; omega
  have hlt : w.heap.size < w0.heap.size := by have := HZ.out; omega
  have hcc : ∀ i, w1.cell? ⟨w.heap.size, i, none⟩ = w0.cell? ⟨w.heap.size, i, none⟩ := fun i => hb1.cell (p := ⟨w.heap.size, i, none⟩) hlt
  have d0 : w1.cell? ⟨w.heap.size, 0, none⟩ = some (.int .i64 4) := (hcc 0).trans (HPX.out 0 _ rfl)
  have d3 : w1.cell? ⟨w.heap.size, 3, none⟩ = some (.string t) := (hcc 3).trans (HPX.out 3 _ rfl)
  have HX : Hid (Below w.heap.size w w1) := Lib.hid (HB0.out.trans (hb1.mono HB0.out.size))
  obtain ⟨hTc, hcm, b, f, had, hcell⟩ := hss
  have HCELL := Lib.hid hcell
  have HAD := Lib.hid had
  have hTm : T.length ≤ MX := Nat.le_trans hTc hcm
  clear HT HPX HW HB0 HZ hcc hb1 hlt hcell had
  go_loopg [8] T.length (fun gg s8 wr => ∃ i : Nat, i ≤ T.length ∧ gg = T.length - i ∧ s8 = .int .i64 i ∧ Aside (Below w1.heap.size w1 wr) ∧ Aside ((T.drop i).any (oneR 4 (decide (T.length = 1)) t) = R))
  case atStart => exact ⟨0, Nat.zero_le _, rfl, rfl, Below.refl _ _, HRR.out.symm⟩
  case round =>
    obtain ⟨i, hil, rfl, rfl, BW, HA⟩ := hrel
    have hq0 := (BW.out.cell (p := ⟨w.heap.size, 0, none⟩) hlt1).trans d0
    have hq3 := (BW.out.cell (p := ⟨w.heap.size, 3, none⟩) hlt1).trans d3
    have HB : Hid (Below w.heap.size w wr) := Lib.hid (HX.out.trans (BW.out.mono HX.out.size))
    clear d0 d3
    by_cases hlt : i < T.length
    · have hltz : (i : Int) < (T.length : Int) := by omega
      obtain ⟨s, hs⟩ : ∃ s, T[i]? = some s := ⟨T[i], by simp [hlt]⟩
      obtain rfl : a1 = some ⟨b, f, none⟩ := by rcases HAD.out with h | ⟨_, h⟩; exact h; omega
      have hsc : wr.cell? ⟨b, f + i, none⟩ = some (.string s) := by
        have h1 := HCELL.out i s hs
        exact (BW.out.cell (p := ⟨b, f + i, none⟩) (World.block_lt_of_cell? w1 _ h1)).trans h1
      have has := any_step hs (oneR 4 (decide (T.length = 1)) t)
      rw [HA.out] at has
      have HAS := Lib.hid has
      clear has HA hs HRR
      by_cases h1 : T.length = 1
      · have hd1 : ((T.length : Int) == 1) = true := by rw [beq1]; simp [h1]
        by_cases he : s.toList = t.toList
        · have heq : (s.toList == t.toList) = true := by simp [he]
          have HV : Hid (oneR 4 (decide (T.length = 1)) t s = true) := Lib.hid (by simp [oneR, he, h1])
          clear he h1
          go_wp2_with fail
          go_ret
          exact ⟨congrArg (fun b : Bool => Ending.returned (Value.bool b)) (by rw [HAS.out, HV.out]; rfl), HB.out⟩
        · have heq : (s.toList == t.toList) = false := by simp [he]
          have HV : Hid (oneR 4 (decide (T.length = 1)) t s = false) := Lib.hid (by simp [oneR, he])
          clear he h1
          go_upto_region 28 with fail
          go_quiet (fail)
          go_wp2_with fail
          go_roundg (T.length - (i + 1))
          case measure => omega
          case rel => exact ⟨i + 1, by omega, rfl, by go_num, below_drawn BW.out _, (by rw [HAS.out, HV.out]; rfl)⟩
      · have hd1 : ((T.length : Int) == 1) = false := by rw [beq1]; simp [h1]
        have HV : Hid (oneR 4 (decide (T.length = 1)) t s = false) := Lib.hid (by simp [oneR, h1])
        clear h1
        go_upto_region 28 with fail
        go_quiet (fail)
        go_wp2_with fail
        go_roundg (T.length - (i + 1))
        case measure => omega
        case rel => exact ⟨i + 1, by omega, rfl, by go_num, below_drawn BW.out _, (by rw [HAS.out, HV.out]; rfl)⟩
    · have hltz : ¬ (i : Int) < (T.length : Int) := by omega
      have HE : Hid (false = R) := Lib.hid (by have h := HA.out; rw [List.drop_eq_nil_of_le (by omega)] at h; exact h)
      clear HA HRR
      go_wp2_with fail
      go_ret
      exact ⟨congrArg (fun b : Bool => Ending.returned (Value.bool b)) HE.out, HB.out⟩
set_option maxRecDepth 100000 in
set_option maxHeartbeats 4000000 in
theorem holdR_5 (x : Fx) (o : Int) (n t : ByteArray) (ad : Option Addr) (L c : Nat) (w : World) (hx : FxAt w x) :
    Calls Tryz.prog 33 #[pv 5 o n t ad L c, x.v] w (RetB (testB 5 (textsP o n x) t) w) := by
  have hSB := MX_eq
  obtain ⟨w0, hw0⟩ : ∃ w0, w0 = ((w.alloc (.cells #[.int .i64 5, .int .i64 o, .string n, .string t, .slice ad L c] 24)).alloc (.cells #[.string x.m, .string x.p, .slice x.a1 x.cl.length x.c1, .slice x.a2 x.ce.length x.c2] 27)) := ⟨_, rfl⟩
  have hb0 : Below w.heap.size w w0 := by rw [hw0]; exact b2 w _ _
  have hsz : w0.heap.size = w.heap.size + 2 := by rw [hw0]; simp
  have hpx : ∀ i v, (#[.int .i64 5, .int .i64 o, .string n, .string t, .slice ad L c] : Array Value)[i]? = some v → w0.cell? ⟨w.heap.size, i, none⟩ = some v := fun i v hi => by
    rw [hw0]
    exact ((b_alloc (w.alloc _) _).cell (p := ⟨w.heap.size, i, none⟩) (by simp)).trans (by simp [hi])
  have HT : Hid (Calls Tryz.prog 57 #[pv 5 o n t ad L c, x.v] w0 fun e w' => (∃ a1 c1, e = .returned (.slice a1 (textsP o n x).length c1) ∧ SlS w' (textsP o n x) a1 c1) ∧ Below w0.heap.size w0 w') :=
    Lib.hid (textsR_any 5 o n t ad L c x w0 (hx.below hb0 (Nat.le_refl _)))
  have HPX := Lib.hid hpx
  clear hx hpx
  rw [testB_any]
  generalize textsP o n x = T at *
  obtain ⟨R, hR⟩ : ∃ R, R = T.any (oneR 5 (decide (T.length = 1)) t) := ⟨_, rfl⟩
  rw [← hR]
  have HRR := Lib.hid hR
  have HB0 := Lib.hid hb0
  have HW := Lib.hid hw0
  have HZ := Lib.hid hsz
  clear hb0 hw0 hsz hR
  go_enter Tryz.func33, Tryz.ntmps33
  go_upto_region 22 with (go_at_call 57; rw [← HW.out]; refine HT.out.mono ?_; rintro e w1 ⟨⟨a1, c1, rfl, hss⟩, hb1⟩)
  have hlt1 : w.heap.size < w1.heap.size := by have := HZ.out; have := hb1.size; omega
  have hlt : w.heap.size < w0.heap.size := by have := HZ.out; omega
  have hcc : ∀ i, w1.cell? ⟨w.heap.size, i, none⟩ = w0.cell? ⟨w.heap.size, i, none⟩ := fun i => hb1.cell (p := ⟨w.heap.size, i, none⟩) hlt
  have d0 : w1.cell? ⟨w.heap.size, 0, none⟩ = some (.int .i64 5) := (hcc 0).trans (HPX.out 0 _ rfl)
  have d3 : w1.cell? ⟨w.heap.size, 3, none⟩ = some (.string t) := (hcc 3).trans (HPX.out 3 _ rfl)
  have HX : Hid (Below w.heap.size w w1) := Lib.hid (HB0.out.trans (hb1.mono HB0.out.size))
  obtain ⟨hTc, hcm, b, f, had, hcell⟩ := hss
  have HCELL := Lib.hid hcell
  have HAD := Lib.hid had
  have hTm : T.length ≤ MX := Nat.le_trans hTc hcm
  clear HT HPX HW HB0 HZ hcc hb1 hlt hcell had
  go_loopg [8] T.length (fun gg s8 wr => ∃ i : Nat, i ≤ T.length ∧ gg = T.length - i ∧ s8 = .int .i64 i ∧ Aside (Below w1.heap.size w1 wr) ∧ Aside ((T.drop i).any (oneR 5 (decide (T.length = 1)) t) = R))
  case atStart => exact ⟨0, Nat.zero_le _, rfl, rfl, Below.refl _ _, HRR.out.symm⟩
  case round =>
    obtain ⟨i, hil, rfl, rfl, BW, HA⟩ := hrel
    have hq0 := (BW.out.cell (p := ⟨w.heap.size, 0, none⟩) hlt1).trans d0
    have hq3 := (BW.out.cell (p := ⟨w.heap.size, 3, none⟩) hlt1).trans d3
    have HB : Hid (Below w.heap.size w wr) := Lib.hid (HX.out.trans (BW.out.mono HX.out.size))
    clear d0 d3
    by_cases hlt : i < T.length
    · have hltz : (i : Int) < (T.length : Int) := by omega
      obtain ⟨s, hs⟩ : ∃ s, T[i]? = some s := ⟨T[i], by simp [hlt]⟩
      obtain rfl : a1 = some ⟨b, f, none⟩ := by rcases HAD.out with h | ⟨_, h⟩; exact h; omega
      have hsc : wr.cell? ⟨b, f + i, none⟩ = some (.string s) := by
        have h1 := HCELL.out i s hs
        exact (BW.out.cell (p := ⟨b, f + i, none⟩) (World.block_lt_of_cell? w1 _ h1)).trans h1
      have has := any_step hs (oneR 5 (decide (T.length = 1)) t)
      rw [HA.out] at has
      have HAS := Lib.hid has
      clear has HA hs HRR
      by_cases h1 : T.length = 1
      · have hd1 : ((T.length : Int) == 1) = true := by rw [beq1]; simp [h1]
        by_cases hl : t.size ≤ s.size
        · have hge : decide ((t.size : Int) ≤ (s.size : Int)) = true := by simp; omega
          have hraw := Lib.hasPrefix_raw s t
          rw [decide_eq_true hl, Bool.true_and] at hraw
          cases hp : prefB s t with
          | true =>
            have heq : ((s.extract 0 t.size).toList == t.toList) = true := hraw.trans hp
            have HV : Hid (oneR 5 (decide (T.length = 1)) t s = true) := Lib.hid (by simp [oneR, hp, h1])
            clear hp h1 hraw
            go_upto_region 28 with fail
            go_quiet (fail)
            go_wp2_with fail
            go_ret
            exact ⟨congrArg (fun b : Bool => Ending.returned (Value.bool b)) (by rw [HAS.out, HV.out]; rfl), below_drawn HB.out _⟩
          | false =>
            have heq : ((s.extract 0 t.size).toList == t.toList) = false := hraw.trans hp
            have HV : Hid (oneR 5 (decide (T.length = 1)) t s = false) := Lib.hid (by simp [oneR, hp])
            clear hp h1 hraw
            go_upto_region 28 with fail
            go_quiet (fail)
            go_wp2_with fail
            go_roundg (T.length - (i + 1))
            case measure => omega
            case rel => exact ⟨i + 1, by omega, rfl, by go_num, below_drawn BW.out _, (by rw [HAS.out, HV.out]; rfl)⟩
        · have hge : decide ((t.size : Int) ≤ (s.size : Int)) = false := by simp; omega
          have hraw := Lib.hasPrefix_raw s t
          rw [decide_eq_false hl, Bool.false_and] at hraw
          have HV : Hid (oneR 5 (decide (T.length = 1)) t s = false) := Lib.hid (by unfold oneR prefB; rw [← hraw]; simp)
          clear h1 hraw
          go_upto_region 28 with fail
          go_quiet (fail)
          go_wp2_with fail
          go_roundg (T.length - (i + 1))
          case measure => omega
          case rel => exact ⟨i + 1, by omega, rfl, by go_num, below_drawn BW.out _, (by rw [HAS.out, HV.out]; rfl)⟩
      · have hd1 : ((T.length : Int) == 1) = false := by rw [beq1]; simp [h1]
        have HV : Hid (oneR 5 (decide (T.length = 1)) t s = false) := Lib.hid (by simp [oneR, h1])
        clear h1
        go_upto_region 28 with fail
        go_quiet (fail)
        go_wp2_with fail
        go_roundg (T.length - (i + 1))
        case measure => omega
        case rel => exact ⟨i + 1, by omega, rfl, by go_num, below_drawn BW.out _, (by rw [HAS.out, HV.out]; rfl)⟩
    · have hltz : ¬ (i : Int) < (T.length : Int) := by omega
      have HE : Hid (false = R) := Lib.hid (by have h := HA.out; rw [List.drop_eq_nil_of_le (by omega)] at h; exact h)
      clear HA HRR
      go_wp2_with fail
      go_ret
      exact ⟨congrArg (fun b : Bool => Ending.returned (Value.bool b)) HE.out, HB.out⟩
end Go.Proofs.YthpagppipifgeaaGreatDoor
/- ostiaryref20.holds, Holds: the walks of any node. -/
namespace Go.Proofs.YthpagppipifgeaaGreatDoor
open Go.RowKit

set_option maxRecDepth 100000 in
set_option maxHeartbeats 4000000 in
theorem holdR_step (x : Fx) (F : Fo) (h : F.All (HoldRAt x)) : HoldRAt x F := by
  intro k o n t ad c w hm hs hx
  have hMX := MX_eq
  by_cases k0 : k = 0
  · subst k0
    clear h hs hx
    go_enter Tryz.func33, Tryz.ntmps33
    go_wp2_with fail
    go_ret
    exact ⟨rfl, b2 w _ _⟩
  by_cases k1 : k = 1
  · subst k1
    obtain ⟨hl1, hfm⟩ := one_len hm
    obtain ⟨hle, hcm, b, f, had, hrow⟩ := hs
    obtain ⟨k1, o1, n1, t1, kids, rfl⟩ : ∃ k1 o1 n1 t1 kids, F = .cons k1 o1 n1 t1 kids .nil := by
      cases F with
      | nil => cases hl1
      | cons k1 o1 n1 t1 kids nx => cases nx with
        | nil => exact ⟨k1, o1, n1, t1, kids, rfl⟩
        | cons => simp [Fo.len] at hl1
    obtain rfl : ad = some ⟨b, f, none⟩ := by rcases had with h | ⟨_, h⟩; exact h; omega
    have hmg : mayP k1 o1 n1 t1 kids = true := by simp only [Fo.may, Bool.and_eq_true] at hfm; exact hfm.1
    have hans : holdP x 1 o n t (Fo.cons k1 o1 n1 t1 kids .nil) = !holdP x k1 o1 n1 t1 kids := by
      show (!(holdN x k1 o1 n1 t1 (kids.hold x) && true)) = _
      rw [Bool.and_true]; rfl
    rw [hans]
    obtain ⟨L, hL⟩ : ∃ L, L = (Fo.cons k1 o1 n1 t1 kids .nil).len := ⟨_, rfl⟩
    rw [← hL]
    have hl0 : (0 : Int) < (L : Int) := by omega
    have hlm : L ≤ MX := by omega
    obtain ⟨w0, hw0⟩ : ∃ w0, w0 = ((w.alloc (.cells #[.int .i64 1, .int .i64 o, .string n, .string t, .slice (some ⟨b, f, none⟩) L c] 24)).alloc (.cells #[.string x.m, .string x.p, .slice x.a1 x.cl.length x.c1, .slice x.a2 x.ce.length x.c2] 27)) := ⟨_, rfl⟩
    have hb0 : Below w.heap.size w w0 := by rw [hw0]; exact b2 w _ _
    have hsz : w0.heap.size = w.heap.size + 2 := by rw [hw0]; simp
    have hpx : ∀ i v, (#[.int .i64 1, .int .i64 o, .string n, .string t, .slice (some ⟨b, f, none⟩) L c] : Array Value)[i]? = some v → w0.cell? ⟨w.heap.size, i, none⟩ = some v := fun i v hi => by
      rw [hw0]
      exact ((b_alloc (w.alloc _) _).cell (p := ⟨w.heap.size, i, none⟩) (by simp)).trans (by simp [hi])
    have hfx : ∀ i v, (#[.string x.m, .string x.p, .slice x.a1 x.cl.length x.c1, .slice x.a2 x.ce.length x.c2] : Array Value)[i]? = some v → w0.cell? ⟨w.heap.size + 1, i, none⟩ = some v := fun i v hi => by
      rw [hw0]
      exact new_cell (by simp) _ _ i hi
    obtain ⟨a1, c1, h0, h1, h2, h3, h4, r1, r2, hsl, _⟩ := (hrow.below hb0 (Nat.le_refl _)).kids
    have HC : Hid (∀ w1, Below w0.heap.size w0 w1 → Calls Tryz.prog 33 #[pv k1 o1 n1 t1 a1 kids.len c1, x.v] w1 (RetB (holdP x k1 o1 n1 t1 kids) w1)) := Lib.hid fun w1 hb =>
      h.1 k1 o1 n1 t1 a1 c1 w1 hmg (hsl.grown hb) (hx.below (hb0.trans (hb.mono hb0.size)) (Nat.le_refl _))
    have q4 : w0.cell? ⟨w.heap.size, 4, none⟩ = some (.slice (some ⟨b, f, none⟩) L c) := hpx 4 _ rfl
    have f0 := hfx 0 _ rfl; have f1 := hfx 1 _ rfl; have f2 := hfx 2 _ rfl; have f3 := hfx 3 _ rfl
    have q0 : w0.cell? ⟨w.heap.size, 0, none⟩ = some (.int .i64 1) := hpx 0 _ rfl
    have HGO := Lib.hid hb0
    clear h hm hrow hsl hans hfm hl1 had hL hle hpx hfx hb0 hsz hx hmg
    go_enter Tryz.func33, Tryz.ntmps33
    go_upto_region 5 with fail
    rw [← hw0]
    clear hw0
    go_region_with (go_at_call 33; refine (HC.out _ (by repeat (first | exact Below.refl _ _ | refine Below.drew ?_))).mono ?_; rintro e w2 ⟨rfl, hb2⟩)
    all_goals
      go_wp2_with fail
      go_ret
      exact ⟨rfl, b_trans (by repeat (first | exact HGO.out | refine Below.drew ?_)) hb2⟩
  by_cases k2 : k = 2
  · subst k2
    obtain ⟨hl2, hfm⟩ := two_len (by decide) hm
    obtain ⟨hle, hcm, b, f, had, hrow⟩ := hs
    obtain ⟨R, hR⟩ : ∃ R, R = (F.hold x).1 := ⟨_, rfl⟩
    rw [show holdP x 2 o n t F = R by rw [hR]; rfl]
    obtain ⟨L, hL⟩ : ∃ L, L = F.len := ⟨_, rfl⟩
    rw [← hL]
    have hlm : L ≤ MX := by omega
    obtain rfl : ad = some ⟨b, f, none⟩ := by rcases had with h | ⟨_, h⟩; exact h; omega
    obtain ⟨w0, hw0⟩ : ∃ w0, w0 = ((w.alloc (.cells #[.int .i64 2, .int .i64 o, .string n, .string t, .slice (some ⟨b, f, none⟩) L c] 24)).alloc (.cells #[.string x.m, .string x.p, .slice x.a1 x.cl.length x.c1, .slice x.a2 x.ce.length x.c2] 27)) := ⟨_, rfl⟩
    have hb0 : Below w.heap.size w w0 := by rw [hw0]; exact b2 w _ _
    have hsz : w0.heap.size = w.heap.size + 2 := by rw [hw0]; simp
    have hpx : ∀ i v, (#[.int .i64 2, .int .i64 o, .string n, .string t, .slice (some ⟨b, f, none⟩) L c] : Array Value)[i]? = some v → w0.cell? ⟨w.heap.size, i, none⟩ = some v := fun i v hi => by
      rw [hw0]
      exact ((b_alloc (w.alloc _) _).cell (p := ⟨w.heap.size, i, none⟩) (by simp)).trans (by simp [hi])
    have hfx : ∀ i v, (#[.string x.m, .string x.p, .slice x.a1 x.cl.length x.c1, .slice x.a2 x.ce.length x.c2] : Array Value)[i]? = some v → w0.cell? ⟨w.heap.size + 1, i, none⟩ = some v := fun i v hi => by
      rw [hw0]
      exact new_cell (by simp) _ _ i hi
    have HPX := Lib.hid hpx; have HFX := Lib.hid hfx; have HGO := Lib.hid hb0; have HSZ := Lib.hid hsz; have HX := Lib.hid hx; have HR0 := Lib.hid hrow; have HIH := Lib.hid h; have HFM := Lib.hid hfm; have HRR := Lib.hid hR; have HLL := Lib.hid hL
    have q0 : w0.cell? ⟨w.heap.size, 0, none⟩ = some (.int .i64 2) := hpx 0 _ rfl
    clear hpx hfx hb0 hsz hx hrow h hfm hR hL hm hl2 hle had
    go_enter Tryz.func33, Tryz.ntmps33
    go_upto_region 8 with fail
    rw [← hw0]
    clear hw0 q0
    go_loopg [5] F.len (fun gg s5 wr => ∃ (kk : Nat) (G : Fo), kk + G.len = L ∧ gg = G.len ∧ s5 = .int .i64 kk ∧ Aside (Below w0.heap.size w0 wr) ∧ Aside (Row w G b (f + 5 * kk)) ∧ Aside (G.All (HoldRAt x)) ∧ Aside ((G.hold x).1 = R) ∧ Aside (G.may = true))
    case atStart => exact ⟨0, F, by rw [HLL.out]; omega, rfl, rfl, Below.refl _ _, HR0.out, HIH.out, HRR.out.symm, HFM.out⟩
    case round =>
      obtain ⟨kk, G, hkk, rfl, rfl, BW, HR, HP, HA, HMG⟩ := hrel
      clear HR0 HIH HRR HFM HLL
      have hzz : w.heap.size < w0.heap.size := by have := HSZ.out; omega
      have hzz1 : w.heap.size + 1 < w0.heap.size := by have := HSZ.out; omega
      have hq4 : wr.cell? ⟨w.heap.size, 4, none⟩ = some (.slice (some ⟨b, f, none⟩) L c) := (BW.out.cell (p := ⟨w.heap.size, 4, none⟩) hzz).trans (HPX.out 4 _ rfl)
      have f0 : wr.cell? ⟨w.heap.size + 1, 0, none⟩ = some (.string x.m) := (BW.out.cell (p := ⟨w.heap.size + 1, 0, none⟩) hzz1).trans (HFX.out 0 _ rfl)
      have f1 : wr.cell? ⟨w.heap.size + 1, 1, none⟩ = some (.string x.p) := (BW.out.cell (p := ⟨w.heap.size + 1, 1, none⟩) hzz1).trans (HFX.out 1 _ rfl)
      have f2 : wr.cell? ⟨w.heap.size + 1, 2, none⟩ = some (.slice x.a1 x.cl.length x.c1) := (BW.out.cell (p := ⟨w.heap.size + 1, 2, none⟩) hzz1).trans (HFX.out 2 _ rfl)
      have f3 : wr.cell? ⟨w.heap.size + 1, 3, none⟩ = some (.slice x.a2 x.ce.length x.c2) := (BW.out.cell (p := ⟨w.heap.size + 1, 3, none⟩) hzz1).trans (HFX.out 3 _ rfl)
      have hBW0 : Below w.heap.size w wr := HGO.out.trans (BW.out.mono HGO.out.size)
      cases G with
      | nil =>
        have hltz : ¬ (kk : Int) < (L : Int) := by simp only [Fo.len] at hkk; omega
        have HB := Lib.hid hBW0
        have HE : Hid (true = R) := Lib.hid HA.out
        clear hBW0 hzz hzz1 HA
        go_wp2_with fail
        go_ret
        exact ⟨congrArg (fun b : Bool => Ending.returned (Value.bool b)) HE.out, HB.out⟩
      | cons k1 o1 n1 t1 kids nx =>
        have hln : (Fo.cons k1 o1 n1 t1 kids nx).len = nx.len + 1 := rfl
        have hltz : (kk : Int) < (L : Int) := by omega
        obtain ⟨a1, c1, h0, h1, h2, h3, h4, r1, r2, hsl, _⟩ := (HR.out.below hBW0 (Nat.le_refl _)).kids
        obtain ⟨_, _, _, _, _, _, _, _, _, _, hrn⟩ := HR.out.kids
        rw [show f + 5 * kk = f + kk * 5 by omega] at h0 h1 h2 h3 h4
        obtain ⟨hp1, hpn⟩ := HP.out
        have hmg : nodeB k1 o1 n1 t1 kids.len kids.may = true ∧ nx.may = true := by have h := HMG.out; simpa [Fo.may] using h
        have HC : Hid (∀ w1, Below wr.heap.size wr w1 → Calls Tryz.prog 33 #[pv k1 o1 n1 t1 a1 kids.len c1, x.v] w1 (RetB (holdP x k1 o1 n1 t1 kids) w1)) := Lib.hid fun w1 hb =>
          hp1 k1 o1 n1 t1 a1 c1 w1 hmg.1 (hsl.grown hb) (HX.out.below (hBW0.trans (hb.mono hBW0.size)) (Nat.le_refl _))
        have hA2 : (holdP x k1 o1 n1 t1 kids && (nx.hold x).1) = R := HA.out
        have HA2 := Lib.hid hA2
        have HPn := Lib.hid hpn
        have HRn := Lib.hid hrn
        have HMn := Lib.hid hmg.2
        have HBW := Lib.hid hBW0
        clear hp1 hpn HP HR hsl hrn hmg hBW0 HA hA2 HMG hzz hzz1
        cases hv : holdP x k1 o1 n1 t1 kids with
        | false =>
          rw [hv] at HC
          have HV := Lib.hid hv
          clear hv
          go_upto_region 10 with fail
          go_region_with (go_at_call 33; refine (HC.out _ (by repeat (first | exact Below.refl _ _ | refine Below.drew ?_))).mono ?_; rintro e w2 ⟨rfl, hb2⟩)
          all_goals
            go_wp2_with fail
            go_ret
            exact ⟨congrArg (fun b : Bool => Ending.returned (Value.bool b)) (by rw [← HA2.out, HV.out]; rfl), b_trans (by repeat (first | exact HBW.out | refine Below.drew ?_)) hb2⟩
        | true =>
          rw [hv] at HC
          have HV := Lib.hid hv
          clear hv
          go_upto_region 10 with fail
          go_region_with (go_at_call 33; refine (HC.out _ (by repeat (first | exact Below.refl _ _ | refine Below.drew ?_))).mono ?_; rintro e w2 ⟨rfl, hb2⟩)
          all_goals
            go_wp2_with fail
            go_roundg nx.len
            case measure => omega
            case rel =>
              refine ⟨kk + 1, nx, by omega, rfl, by go_num, b_trans BW.out (b_trans (by repeat (first | exact Below.refl _ _ | refine Below.drew ?_)) hb2), ?_, HPn.out, (by rw [← HA2.out, HV.out]; rfl), HMn.out⟩
              rw [show f + 5 * (kk + 1) = f + 5 * kk + 5 by omega]; exact HRn.out
  by_cases k3 : k = 3
  · subst k3
    obtain ⟨hl2, hfm⟩ := two_len (by decide) hm
    obtain ⟨hle, hcm, b, f, had, hrow⟩ := hs
    obtain ⟨R, hR⟩ : ∃ R, R = (F.hold x).2 := ⟨_, rfl⟩
    rw [show holdP x 3 o n t F = R by rw [hR]; rfl]
    obtain ⟨L, hL⟩ : ∃ L, L = F.len := ⟨_, rfl⟩
    rw [← hL]
    have hlm : L ≤ MX := by omega
    obtain rfl : ad = some ⟨b, f, none⟩ := by rcases had with h | ⟨_, h⟩; exact h; omega
    obtain ⟨w0, hw0⟩ : ∃ w0, w0 = ((w.alloc (.cells #[.int .i64 3, .int .i64 o, .string n, .string t, .slice (some ⟨b, f, none⟩) L c] 24)).alloc (.cells #[.string x.m, .string x.p, .slice x.a1 x.cl.length x.c1, .slice x.a2 x.ce.length x.c2] 27)) := ⟨_, rfl⟩
    have hb0 : Below w.heap.size w w0 := by rw [hw0]; exact b2 w _ _
    have hsz : w0.heap.size = w.heap.size + 2 := by rw [hw0]; simp
    have hpx : ∀ i v, (#[.int .i64 3, .int .i64 o, .string n, .string t, .slice (some ⟨b, f, none⟩) L c] : Array Value)[i]? = some v → w0.cell? ⟨w.heap.size, i, none⟩ = some v := fun i v hi => by
      rw [hw0]
      exact ((b_alloc (w.alloc _) _).cell (p := ⟨w.heap.size, i, none⟩) (by simp)).trans (by simp [hi])
    have hfx : ∀ i v, (#[.string x.m, .string x.p, .slice x.a1 x.cl.length x.c1, .slice x.a2 x.ce.length x.c2] : Array Value)[i]? = some v → w0.cell? ⟨w.heap.size + 1, i, none⟩ = some v := fun i v hi => by
      rw [hw0]
      exact new_cell (by simp) _ _ i hi
    have HPX := Lib.hid hpx; have HFX := Lib.hid hfx; have HGO := Lib.hid hb0; have HSZ := Lib.hid hsz; have HX := Lib.hid hx; have HR0 := Lib.hid hrow; have HIH := Lib.hid h; have HFM := Lib.hid hfm; have HRR := Lib.hid hR; have HLL := Lib.hid hL
    have q0 : w0.cell? ⟨w.heap.size, 0, none⟩ = some (.int .i64 3) := hpx 0 _ rfl
    clear hpx hfx hb0 hsz hx hrow h hfm hR hL hm hl2 hle had
    go_enter Tryz.func33, Tryz.ntmps33
    go_upto_region 15 with fail
    rw [← hw0]
    clear hw0 q0
    go_loopg [6] F.len (fun gg s5 wr => ∃ (kk : Nat) (G : Fo), kk + G.len = L ∧ gg = G.len ∧ s5 = .int .i64 kk ∧ Aside (Below w0.heap.size w0 wr) ∧ Aside (Row w G b (f + 5 * kk)) ∧ Aside (G.All (HoldRAt x)) ∧ Aside ((G.hold x).2 = R) ∧ Aside (G.may = true))
    case atStart => exact ⟨0, F, by rw [HLL.out]; omega, rfl, rfl, Below.refl _ _, HR0.out, HIH.out, HRR.out.symm, HFM.out⟩
    case round =>
      obtain ⟨kk, G, hkk, rfl, rfl, BW, HR, HP, HA, HMG⟩ := hrel
      clear HR0 HIH HRR HFM HLL
      have hzz : w.heap.size < w0.heap.size := by have := HSZ.out; omega
      have hzz1 : w.heap.size + 1 < w0.heap.size := by have := HSZ.out; omega
      have hq4 : wr.cell? ⟨w.heap.size, 4, none⟩ = some (.slice (some ⟨b, f, none⟩) L c) := (BW.out.cell (p := ⟨w.heap.size, 4, none⟩) hzz).trans (HPX.out 4 _ rfl)
      have f0 : wr.cell? ⟨w.heap.size + 1, 0, none⟩ = some (.string x.m) := (BW.out.cell (p := ⟨w.heap.size + 1, 0, none⟩) hzz1).trans (HFX.out 0 _ rfl)
      have f1 : wr.cell? ⟨w.heap.size + 1, 1, none⟩ = some (.string x.p) := (BW.out.cell (p := ⟨w.heap.size + 1, 1, none⟩) hzz1).trans (HFX.out 1 _ rfl)
      have f2 : wr.cell? ⟨w.heap.size + 1, 2, none⟩ = some (.slice x.a1 x.cl.length x.c1) := (BW.out.cell (p := ⟨w.heap.size + 1, 2, none⟩) hzz1).trans (HFX.out 2 _ rfl)
      have f3 : wr.cell? ⟨w.heap.size + 1, 3, none⟩ = some (.slice x.a2 x.ce.length x.c2) := (BW.out.cell (p := ⟨w.heap.size + 1, 3, none⟩) hzz1).trans (HFX.out 3 _ rfl)
      have hBW0 : Below w.heap.size w wr := HGO.out.trans (BW.out.mono HGO.out.size)
      cases G with
      | nil =>
        have hltz : ¬ (kk : Int) < (L : Int) := by simp only [Fo.len] at hkk; omega
        have HB := Lib.hid hBW0
        have HE : Hid (false = R) := Lib.hid HA.out
        clear hBW0 hzz hzz1 HA
        go_wp2_with fail
        go_ret
        exact ⟨congrArg (fun b : Bool => Ending.returned (Value.bool b)) HE.out, HB.out⟩
      | cons k1 o1 n1 t1 kids nx =>
        have hln : (Fo.cons k1 o1 n1 t1 kids nx).len = nx.len + 1 := rfl
        have hltz : (kk : Int) < (L : Int) := by omega
        obtain ⟨a1, c1, h0, h1, h2, h3, h4, r1, r2, hsl, _⟩ := (HR.out.below hBW0 (Nat.le_refl _)).kids
        obtain ⟨_, _, _, _, _, _, _, _, _, _, hrn⟩ := HR.out.kids
        rw [show f + 5 * kk = f + kk * 5 by omega] at h0 h1 h2 h3 h4
        obtain ⟨hp1, hpn⟩ := HP.out
        have hmg : nodeB k1 o1 n1 t1 kids.len kids.may = true ∧ nx.may = true := by have h := HMG.out; simpa [Fo.may] using h
        have HC : Hid (∀ w1, Below wr.heap.size wr w1 → Calls Tryz.prog 33 #[pv k1 o1 n1 t1 a1 kids.len c1, x.v] w1 (RetB (holdP x k1 o1 n1 t1 kids) w1)) := Lib.hid fun w1 hb =>
          hp1 k1 o1 n1 t1 a1 c1 w1 hmg.1 (hsl.grown hb) (HX.out.below (hBW0.trans (hb.mono hBW0.size)) (Nat.le_refl _))
        have hA2 : (holdP x k1 o1 n1 t1 kids || (nx.hold x).2) = R := HA.out
        have HA2 := Lib.hid hA2
        have HPn := Lib.hid hpn
        have HRn := Lib.hid hrn
        have HMn := Lib.hid hmg.2
        have HBW := Lib.hid hBW0
        clear hp1 hpn HP HR hsl hrn hmg hBW0 HA hA2 HMG hzz hzz1
        cases hv : holdP x k1 o1 n1 t1 kids with
        | true =>
          rw [hv] at HC
          have HV := Lib.hid hv
          clear hv
          go_upto_region 17 with fail
          go_region_with (go_at_call 33; refine (HC.out _ (by repeat (first | exact Below.refl _ _ | refine Below.drew ?_))).mono ?_; rintro e w2 ⟨rfl, hb2⟩)
          all_goals
            go_wp2_with fail
            go_ret
            exact ⟨congrArg (fun b : Bool => Ending.returned (Value.bool b)) (by rw [← HA2.out, HV.out]; rfl), b_trans (by repeat (first | exact HBW.out | refine Below.drew ?_)) hb2⟩
        | false =>
          rw [hv] at HC
          have HV := Lib.hid hv
          clear hv
          go_upto_region 17 with fail
          go_region_with (go_at_call 33; refine (HC.out _ (by repeat (first | exact Below.refl _ _ | refine Below.drew ?_))).mono ?_; rintro e w2 ⟨rfl, hb2⟩)
          all_goals
            go_wp2_with fail
            go_roundg nx.len
            case measure => omega
            case rel =>
              refine ⟨kk + 1, nx, by omega, rfl, by go_num, b_trans BW.out (b_trans (by repeat (first | exact Below.refl _ _ | refine Below.drew ?_)) hb2), ?_, HPn.out, (by rw [← HA2.out, HV.out]; rfl), HMn.out⟩
              rw [show f + 5 * (kk + 1) = f + 5 * kk + 5 by omega]; exact HRn.out
  · obtain ⟨h4, _, _, _, _, _, _⟩ := test_len k0 k1 k2 k3 hm
    rw [show holdP x k o n t F = testB k (textsP o n x) t by unfold holdP holdN; simp [k0, k1, k2, k3]]
    rcases h4 with rfl | rfl | rfl
    · exact holdR_4 x o n t ad F.len c w hx
    · exact holdR_5 x o n t ad F.len c w hx
    · exact holdR_6 x o n t ad F.len c w hx
theorem holdR_any (x : Fx) (F : Fo) : HoldRAt x F := Fo.rec_all (holdR_step x) F
set_option maxRecDepth 100000 in
set_option maxHeartbeats 1000000 in
theorem HoldsR_any (k o : Int) (n t : ByteArray) (F : Fo) (ad : Option Addr) (c : Nat) (x : Fx) (w : World) (hs : SlF w F ad c) (hx : FxAt w x)
    (hn : n.size ≤ SB) (ht : t.size ≤ SB) (hcn : F.cnt ≤ 1000000) :
    Calls Tryz.prog 14 #[pv k o n t ad F.len c, x.v] w (RetB (holdsP x k o n t F) w) := by
  have hk : ∀ w1, SlF w1 F ad c → Calls Tryz.prog 12 #[pv k o n t ad F.len c] w1 (RetI (chkP k o n t F) w1) := fun w1 h1 => CheckR_any k o n t F ad c w1 hn ht h1 hcn
  obtain ⟨w0, hw0⟩ : ∃ w0, w0 = (w.alloc (.cells #[.int .i64 k, .int .i64 o, .string n, .string t, .slice ad F.len c] 24)).alloc (.cells #[.string x.m, .string x.p, .slice x.a1 x.cl.length x.c1, .slice x.a2 x.ce.length x.c2] 27) := ⟨_, rfl⟩
  have hb0 : Below w.heap.size w w0 := by rw [hw0]; exact b2 w _ _
  have hsz : w0.heap.size = w.heap.size + 2 := by rw [hw0]; simp
  have hpx : ∀ w1, Below w0.heap.size w0 w1 → ∀ i v, (#[.int .i64 k, .int .i64 o, .string n, .string t, .slice ad F.len c] : Array Value)[i]? = some v → w1.cell? ⟨w.heap.size, i, none⟩ = some v := fun w1 hb i v hi =>
    (hb.cell (p := ⟨w.heap.size, i, none⟩) (by simp [hsz])).trans (by
      rw [hw0]
      exact ((b_alloc (w.alloc _) _).cell (p := ⟨w.heap.size, i, none⟩) (by simp)).trans (by simp [hi]))
  have hfx : ∀ w1, Below w0.heap.size w0 w1 → ∀ i v, (#[.string x.m, .string x.p, .slice x.a1 x.cl.length x.c1, .slice x.a2 x.ce.length x.c2] : Array Value)[i]? = some v → w1.cell? ⟨w.heap.size + 1, i, none⟩ = some v := fun w1 hb i v hi =>
    (hb.cell (p := ⟨w.heap.size + 1, i, none⟩) (by simp [hsz])).trans (by
      rw [hw0]
      exact new_cell (by simp) _ _ i hi)
  have HK : Hid (Calls Tryz.prog 12 #[pv k o n t ad F.len c] w0 (RetI (chkP k o n t F) w0)) := Lib.hid (hk w0 (hs.grown hb0))
  have HH : Hid (chkP k o n t F = 0 → ∀ w1, Below w0.heap.size w0 w1 → Calls Tryz.prog 33 #[pv k o n t ad F.len c, x.v] w1 (RetB (holdP x k o n t F) w1)) := Lib.hid fun h0 w1 hb => by
    have hb1 := hb0.trans (hb.mono hb0.size)
    exact holdR_any x F k o n t ad c w1 (chk_may h0) (hs.grown hb1) (hx.below hb1 (Nat.le_refl _))
  have HPX := Lib.hid hpx
  have HFX := Lib.hid hfx
  have HB0 := Lib.hid hb0
  have HW := Lib.hid hw0
  clear hs hx hk hpx hfx hb0 hsz hw0 hcn
  unfold holdsP
  generalize chkP k o n t F = C at *
  generalize holdP x k o n t F = a at *
  go_enter Tryz.func14, Tryz.ntmps14
  by_cases hC : C = 0
  · subst hC
    have HH2 : Hid (∀ w1, Below w0.heap.size w0 w1 → Calls Tryz.prog 33 #[pv k o n t ad F.len c, x.v] w1 (RetB a w1)) := Lib.hid (HH.out rfl)
    clear HH
    go_wp2_with (first
      | (go_at_call 12; rw [← HW.out]; refine HK.out.mono ?_; rintro e w1 ⟨rfl, hb1⟩
         have p0 := HPX.out w1 hb1 0 _ rfl; have p1 := HPX.out w1 hb1 1 _ rfl; have p2 := HPX.out w1 hb1 2 _ rfl; have p3 := HPX.out w1 hb1 3 _ rfl; have p4 := HPX.out w1 hb1 4 _ rfl
         have f0 := HFX.out w1 hb1 0 _ rfl; have f1 := HFX.out w1 hb1 1 _ rfl; have f2 := HFX.out w1 hb1 2 _ rfl; have f3 := HFX.out w1 hb1 3 _ rfl
         have HB1 := Lib.hid hb1)
      | (go_at_call 33; refine (HH2.out _ HB1.out).mono ?_; rintro e w2 ⟨rfl, hb2⟩))
    go_ret
    exact ⟨by simp, b_trans (HB0.out.trans (HB1.out.mono HB0.out.size)) hb2⟩
  · go_wp2_with (go_at_call 12; rw [← HW.out]; refine HK.out.mono ?_; rintro e w1 ⟨rfl, hb1⟩)
    go_ret
    exact ⟨by simp [hC], HB0.out.trans (hb1.mono HB0.out.size)⟩
end Go.Proofs.YthpagppipifgeaaGreatDoor
