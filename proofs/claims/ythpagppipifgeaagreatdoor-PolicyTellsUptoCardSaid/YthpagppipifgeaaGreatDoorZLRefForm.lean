/- ostiaryref20.form: the walk. -/
import Derived.Test.YthpagppipifgeaaGreatDoorZLRefF
import Derived.Test.YthpagppipifgeaaGreatDoorZLSize
import Derived.Deep.CutBlock
namespace Go.Proofs.YthpagppipifgeaaGreatDoor
open Go.RowKit

theorem nodeB_0 (o : Int) (n t : ByteArray) (l : Nat) (m : Bool) : nodeB 0 o n t l m = (plainB o n t && decide (l = 0)) := by simp [nodeB]
theorem nodeB_1 (o : Int) (n t : ByteArray) (l : Nat) (m : Bool) : nodeB 1 o n t l m = (plainB o n t && decide (l = 1) && m) := by simp [nodeB]
theorem nodeB_2 (o : Int) (n t : ByteArray) (l : Nat) (m : Bool) : nodeB 2 o n t l m = (plainB o n t && decide (2 ≤ l) && m) := by simp [nodeB]
theorem nodeB_3 (o : Int) (n t : ByteArray) (l : Nat) (m : Bool) : nodeB 3 o n t l m = (plainB o n t && decide (2 ≤ l) && m) := by simp [nodeB]
theorem nodeB_4 (k : Int) (hk : k = 4 ∨ k = 5 ∨ k = 6) (o : Int) (n t : ByteArray) (l : Nat) (m : Bool) : nodeB k o n t l m = (decide (l = 0) && decide (0 ≤ o) && decide (o < 4) && (if o = 2 ∨ o = 3 then nameB n else decide (n.toList = [])) && litB t) := by
  rcases hk with rfl | rfl | rfl <;> simp [nodeB]
theorem nodeB_4o (k : Int) (hk : k = 4 ∨ k = 5 ∨ k = 6) {o : Int} (o0 : ¬ o = 0) (o1 : ¬ o = 1) (o2 : ¬ o = 2) (o3 : ¬ o = 3) (n t : ByteArray) (l : Nat) (m : Bool) : nodeB k o n t l m = false := by
  rw [nodeB_4 k hk]
  by_cases h1 : 0 ≤ o
  · have h2 : ¬ o < 4 := by omega
    simp [h2]
  · simp [h1]
def FormAt (F : Fo) : Prop := ∀ (k o : Int) (n t : ByteArray) (ad : Option Addr) (c : Nat) (w : World), n.size ≤ SB → t.size ≤ SB → SlF w F ad c →
  Calls Tryz.prog 29 #[pv k o n t ad F.len c] w (RetB (mayP k o n t F) w)
set_option maxRecDepth 100000 in
set_option maxHeartbeats 4000000 in
theorem form_step (F : Fo) (h : F.All FormAt) : FormAt F := by
  intro k o n t ad c w hn ht hs
  have hMX := MX_eq
  have hNm : Hid (∀ w1, Calls Tryz.prog 51 #[.string n] w1 fun e w' => e = .returned (.bool (nameB n)) ∧ w' = w1) := Lib.hid fun w1 => nameR_any n w1 hn
  have hLt : Hid (∀ w1, Calls Tryz.prog 50 #[.string t] w1 fun e w' => e = .returned (.bool (litB t)) ∧ w' = w1) := Lib.hid fun w1 => litR_any t w1 ht
  obtain ⟨hle, hcm, b, f, had, hrow⟩ := hs
  have hgo : Below w.heap.size w (w.alloc (.cells #[.int .i64 k, .int .i64 o, .string n, .string t, .slice ad F.len c] 24)) := b_alloc w _
  have hLz : 0 ≤ (F.len : Int) := by omega
  have hz : w.heap.size < (w.alloc (.cells #[.int .i64 k, .int .i64 o, .string n, .string t, .slice ad F.len c] 24)).heap.size := by simp
  have hc4 : (w.alloc (.cells #[.int .i64 k, .int .i64 o, .string n, .string t, .slice ad F.len c] 24)).cell? ⟨w.heap.size, 4, none⟩ = some (.slice ad F.len c) := by simp
  obtain ⟨RR, hRR⟩ : ∃ RR, RR = mayP k o n t F := ⟨_, rfl⟩
  rw [← hRR]
  have HRR := Lib.hid hRR
  have HP0 := Lib.hid h
  have HR0 := Lib.hid hrow
  have HC4 := Lib.hid hc4
  have HGO := Lib.hid hgo
  clear hRR h hrow hc4 hgo
  go_enter Tryz.func29, Tryz.ntmps29
  go_upto_region 1 with fail
  go_cut [3] (fun s3 wx => s3 = .bool (plainB o n t) ∧ wx = w.alloc (.cells #[.int .i64 k, .int .i64 o, .string n, .string t, .slice ad F.len c] 24))
  case first =>
    clear had
    by_cases ho : o = 0
    · subst ho
      go_wp2_with fail
      all_goals (go_meet; refine ⟨?_, rfl⟩; go_light; simp_all [plainB, isE])
    · have heo : (o == 0) = false := by simp [ho]
      go_wp2_with fail
      all_goals (go_meet; refine ⟨?_, rfl⟩; go_light; simp_all [plainB])
  case rest =>
  obtain ⟨rfl, rfl⟩ := hcut
  generalize hpl : plainB o n t = pl
  have HPL : Hid (plainB o n t = pl) := hpl
  clear hpl
  go_upto_block 0 with fail
  go_cut [] (fun wx => Aside (RR = F.may) ∧ wx = w.alloc (.cells #[.int .i64 k, .int .i64 o, .string n, .string t, .slice ad F.len c] 24))
  case first =>
    clear had HP0 HR0 HC4 HGO hz
    have HRB : Hid (RR = nodeB k o n t F.len F.may) := HRR
    clear HRR
    obtain ⟨lb, hlb⟩ : ∃ lb, lb = litB t := ⟨_, rfl⟩
    obtain ⟨nb, hnb⟩ : ∃ nb, nb = nameB n := ⟨_, rfl⟩
    rw [← hlb] at hLt
    rw [← hnb] at hNm
    have HLB := Lib.hid hlb
    have HNB := Lib.hid hnb
    clear hlb hnb
    by_cases k0 : k = 0
    · subst k0
      cases pl with
      | false =>
        go_wp2_with fail
        go_ret; exact ⟨congrArg (fun b : Bool => Ending.returned (Value.bool b)) (show false = RR by rw [HRB.out, nodeB_0, HPL.out]; rfl), b_alloc _ _⟩
      | true =>
        by_cases hL : F.len = 0
        · have hd : ((F.len : Int) == 0) = true := by rw [beq0]; simp [hL]
          have hr : true = RR := by rw [HRB.out, nodeB_0, HPL.out, hL]; rfl
          have hR := Lib.hid hr
          clear hr hL
          go_wp2_with fail
          go_ret; exact ⟨congrArg (fun b : Bool => Ending.returned (Value.bool b)) (hR.out), b_alloc _ _⟩
        · have hd : ((F.len : Int) == 0) = false := by rw [beq0]; simp [hL]
          have hr : false = RR := by rw [HRB.out, nodeB_0, HPL.out]; simp [hL]
          have hR := Lib.hid hr
          clear hr hL
          go_wp2_with fail
          go_ret; exact ⟨congrArg (fun b : Bool => Ending.returned (Value.bool b)) (hR.out), b_alloc _ _⟩
    by_cases k1 : k = 1
    · subst k1
      cases pl with
      | false =>
        go_wp2_with fail
        go_ret; exact ⟨congrArg (fun b : Bool => Ending.returned (Value.bool b)) (show false = RR by rw [HRB.out, nodeB_1, HPL.out]; rfl), b_alloc _ _⟩
      | true =>
        by_cases hL : F.len = 1
        · have hd : ((F.len : Int) != 1) = false := by rw [hL]; rfl
          have hr : RR = F.may := by rw [HRB.out, nodeB_1, HPL.out]; simp [hL]
          have hR := Lib.hid hr
          clear hr hL
          go_wp2_with fail
          go_meet
          exact ⟨hR.out, rfl⟩
        · have hd : ((F.len : Int) != 1) = true := bne_iff_ne.2 (by omega)
          have hr : false = RR := by rw [HRB.out, nodeB_1, HPL.out]; simp [hL]; try omega
          have hR := Lib.hid hr
          clear hr hL
          go_wp2_with fail
          go_ret; exact ⟨congrArg (fun b : Bool => Ending.returned (Value.bool b)) (hR.out), b_alloc _ _⟩
    by_cases k2 : k = 2
    · subst k2
      cases pl with
      | false =>
        go_wp2_with fail
        go_ret; exact ⟨congrArg (fun b : Bool => Ending.returned (Value.bool b)) (show false = RR by rw [HRB.out, nodeB_2, HPL.out]; rfl), b_alloc _ _⟩
      | true =>
        by_cases hL : 2 ≤ F.len
        · have hd : ¬ (F.len : Int) < 2 := by omega
          have hr : RR = F.may := by rw [HRB.out, nodeB_2, HPL.out]; simp [hL]
          have hR := Lib.hid hr
          clear hr hL
          go_wp2_with fail
          go_meet
          exact ⟨hR.out, rfl⟩
        · have hd : (F.len : Int) < 2 := by omega
          have hr : false = RR := by rw [HRB.out, nodeB_2, HPL.out]; simp [hL]; try omega
          have hR := Lib.hid hr
          clear hr hL
          go_wp2_with fail
          go_ret; exact ⟨congrArg (fun b : Bool => Ending.returned (Value.bool b)) (hR.out), b_alloc _ _⟩
    by_cases k3 : k = 3
    · subst k3
      cases pl with
      | false =>
        go_wp2_with fail
        go_ret; exact ⟨congrArg (fun b : Bool => Ending.returned (Value.bool b)) (show false = RR by rw [HRB.out, nodeB_3, HPL.out]; rfl), b_alloc _ _⟩
      | true =>
        by_cases hL : 2 ≤ F.len
        · have hd : ¬ (F.len : Int) < 2 := by omega
          have hr : RR = F.may := by rw [HRB.out, nodeB_3, HPL.out]; simp [hL]
          have hR := Lib.hid hr
          clear hr hL
          go_wp2_with fail
          go_meet
          exact ⟨hR.out, rfl⟩
        · have hd : (F.len : Int) < 2 := by omega
          have hr : false = RR := by rw [HRB.out, nodeB_3, HPL.out]; simp [hL]; try omega
          have hR := Lib.hid hr
          clear hr hL
          go_wp2_with fail
          go_ret; exact ⟨congrArg (fun b : Bool => Ending.returned (Value.bool b)) (hR.out), b_alloc _ _⟩
    by_cases k4 : k = 4
    · subst k4
      clear HPL
      by_cases hL : F.len = 0
      · have hd : ¬ (0 : Int) < (F.len : Int) := by omega
        cases lb with
        | false =>
          have hr : false = RR := by rw [HRB.out, nodeB_4 _ (by decide), ← HLB.out]; simp
          have hR := Lib.hid hr
          clear hr hL HRB HNB HLB
          go_wp2_with (first | (go_at_call 51; refine (hNm.out _).mono ?_; rintro e w1 ⟨rfl, rfl⟩) | (go_at_call 50; refine (hLt.out _).mono ?_; rintro e w1 ⟨rfl, rfl⟩))
          go_ret; exact ⟨congrArg (fun b : Bool => Ending.returned (Value.bool b)) (hR.out), b_alloc _ _⟩
        | true =>
          by_cases o0 : o = 0
          · subst o0
            have hr : n.toList.isEmpty = RR := by rw [HRB.out, nodeB_4 _ (by decide), ← HLB.out, hL, isE]; simp
            have hR := Lib.hid hr
            clear hr hL HRB HNB HLB
            go_wp2_with (first | (go_at_call 51; refine (hNm.out _).mono ?_; rintro e w1 ⟨rfl, rfl⟩) | (go_at_call 50; refine (hLt.out _).mono ?_; rintro e w1 ⟨rfl, rfl⟩))
            go_ret
            refine ⟨congrArg (fun b : Bool => Ending.returned (Value.bool b)) (?_ : _ = RR), b_alloc _ _⟩
            rw [← hR.out]
          by_cases o1 : o = 1
          · subst o1
            have hr : n.toList.isEmpty = RR := by rw [HRB.out, nodeB_4 _ (by decide), ← HLB.out, hL, isE]; simp
            have hR := Lib.hid hr
            clear hr hL HRB HNB HLB
            go_wp2_with (first | (go_at_call 51; refine (hNm.out _).mono ?_; rintro e w1 ⟨rfl, rfl⟩) | (go_at_call 50; refine (hLt.out _).mono ?_; rintro e w1 ⟨rfl, rfl⟩))
            go_ret
            refine ⟨congrArg (fun b : Bool => Ending.returned (Value.bool b)) (?_ : _ = RR), b_alloc _ _⟩
            rw [← hR.out]
          by_cases o2 : o = 2
          · subst o2
            have hr : nb = RR := by rw [HRB.out, nodeB_4 _ (by decide), ← HLB.out, ← HNB.out, hL]; simp
            have hR := Lib.hid hr
            clear hr hL HRB HNB HLB
            go_wp2_with (first | (go_at_call 51; refine (hNm.out _).mono ?_; rintro e w1 ⟨rfl, rfl⟩) | (go_at_call 50; refine (hLt.out _).mono ?_; rintro e w1 ⟨rfl, rfl⟩))
            go_ret; exact ⟨congrArg (fun b : Bool => Ending.returned (Value.bool b)) (hR.out), b_alloc _ _⟩
          by_cases o3 : o = 3
          · subst o3
            have hr : nb = RR := by rw [HRB.out, nodeB_4 _ (by decide), ← HLB.out, ← HNB.out, hL]; simp
            have hR := Lib.hid hr
            clear hr hL HRB HNB HLB
            go_wp2_with (first | (go_at_call 51; refine (hNm.out _).mono ?_; rintro e w1 ⟨rfl, rfl⟩) | (go_at_call 50; refine (hLt.out _).mono ?_; rintro e w1 ⟨rfl, rfl⟩))
            go_ret; exact ⟨congrArg (fun b : Bool => Ending.returned (Value.bool b)) (hR.out), b_alloc _ _⟩
          have e0 : (o == 0) = false := by simp [o0]
          have e1 : (o == 1) = false := by simp [o1]
          have e2 : (o == 2) = false := by simp [o2]
          have e3 : (o == 3) = false := by simp [o3]
          have hr : false = RR := by rw [HRB.out, nodeB_4o _ (by decide) o0 o1 o2 o3]
          have hR := Lib.hid hr
          clear hr hL HRB HNB HLB
          go_wp2_with (first | (go_at_call 51; refine (hNm.out _).mono ?_; rintro e w1 ⟨rfl, rfl⟩) | (go_at_call 50; refine (hLt.out _).mono ?_; rintro e w1 ⟨rfl, rfl⟩))
          go_ret; exact ⟨congrArg (fun b : Bool => Ending.returned (Value.bool b)) (hR.out), b_alloc _ _⟩
      · have hd : (0 : Int) < (F.len : Int) := by omega
        have hr : false = RR := by rw [HRB.out, nodeB_4 _ (by decide)]; simp [hL]
        have hR := Lib.hid hr
        clear hr hL HRB HNB HLB
        go_wp2_with (first | (go_at_call 51; refine (hNm.out _).mono ?_; rintro e w1 ⟨rfl, rfl⟩) | (go_at_call 50; refine (hLt.out _).mono ?_; rintro e w1 ⟨rfl, rfl⟩))
        go_ret; exact ⟨congrArg (fun b : Bool => Ending.returned (Value.bool b)) (hR.out), b_alloc _ _⟩
    by_cases k5 : k = 5
    · subst k5
      clear HPL
      by_cases hL : F.len = 0
      · have hd : ¬ (0 : Int) < (F.len : Int) := by omega
        cases lb with
        | false =>
          have hr : false = RR := by rw [HRB.out, nodeB_4 _ (by decide), ← HLB.out]; simp
          have hR := Lib.hid hr
          clear hr hL HRB HNB HLB
          go_wp2_with (first | (go_at_call 51; refine (hNm.out _).mono ?_; rintro e w1 ⟨rfl, rfl⟩) | (go_at_call 50; refine (hLt.out _).mono ?_; rintro e w1 ⟨rfl, rfl⟩))
          go_ret; exact ⟨congrArg (fun b : Bool => Ending.returned (Value.bool b)) (hR.out), b_alloc _ _⟩
        | true =>
          by_cases o0 : o = 0
          · subst o0
            have hr : n.toList.isEmpty = RR := by rw [HRB.out, nodeB_4 _ (by decide), ← HLB.out, hL, isE]; simp
            have hR := Lib.hid hr
            clear hr hL HRB HNB HLB
            go_wp2_with (first | (go_at_call 51; refine (hNm.out _).mono ?_; rintro e w1 ⟨rfl, rfl⟩) | (go_at_call 50; refine (hLt.out _).mono ?_; rintro e w1 ⟨rfl, rfl⟩))
            go_ret
            refine ⟨congrArg (fun b : Bool => Ending.returned (Value.bool b)) (?_ : _ = RR), b_alloc _ _⟩
            rw [← hR.out]
          by_cases o1 : o = 1
          · subst o1
            have hr : n.toList.isEmpty = RR := by rw [HRB.out, nodeB_4 _ (by decide), ← HLB.out, hL, isE]; simp
            have hR := Lib.hid hr
            clear hr hL HRB HNB HLB
            go_wp2_with (first | (go_at_call 51; refine (hNm.out _).mono ?_; rintro e w1 ⟨rfl, rfl⟩) | (go_at_call 50; refine (hLt.out _).mono ?_; rintro e w1 ⟨rfl, rfl⟩))
            go_ret
            refine ⟨congrArg (fun b : Bool => Ending.returned (Value.bool b)) (?_ : _ = RR), b_alloc _ _⟩
            rw [← hR.out]
          by_cases o2 : o = 2
          · subst o2
            have hr : nb = RR := by rw [HRB.out, nodeB_4 _ (by decide), ← HLB.out, ← HNB.out, hL]; simp
            have hR := Lib.hid hr
            clear hr hL HRB HNB HLB
            go_wp2_with (first | (go_at_call 51; refine (hNm.out _).mono ?_; rintro e w1 ⟨rfl, rfl⟩) | (go_at_call 50; refine (hLt.out _).mono ?_; rintro e w1 ⟨rfl, rfl⟩))
            go_ret; exact ⟨congrArg (fun b : Bool => Ending.returned (Value.bool b)) (hR.out), b_alloc _ _⟩
          by_cases o3 : o = 3
          · subst o3
            have hr : nb = RR := by rw [HRB.out, nodeB_4 _ (by decide), ← HLB.out, ← HNB.out, hL]; simp
            have hR := Lib.hid hr
            clear hr hL HRB HNB HLB
            go_wp2_with (first | (go_at_call 51; refine (hNm.out _).mono ?_; rintro e w1 ⟨rfl, rfl⟩) | (go_at_call 50; refine (hLt.out _).mono ?_; rintro e w1 ⟨rfl, rfl⟩))
            go_ret; exact ⟨congrArg (fun b : Bool => Ending.returned (Value.bool b)) (hR.out), b_alloc _ _⟩
          have e0 : (o == 0) = false := by simp [o0]
          have e1 : (o == 1) = false := by simp [o1]
          have e2 : (o == 2) = false := by simp [o2]
          have e3 : (o == 3) = false := by simp [o3]
          have hr : false = RR := by rw [HRB.out, nodeB_4o _ (by decide) o0 o1 o2 o3]
          have hR := Lib.hid hr
          clear hr hL HRB HNB HLB
          go_wp2_with (first | (go_at_call 51; refine (hNm.out _).mono ?_; rintro e w1 ⟨rfl, rfl⟩) | (go_at_call 50; refine (hLt.out _).mono ?_; rintro e w1 ⟨rfl, rfl⟩))
          go_ret; exact ⟨congrArg (fun b : Bool => Ending.returned (Value.bool b)) (hR.out), b_alloc _ _⟩
      · have hd : (0 : Int) < (F.len : Int) := by omega
        have hr : false = RR := by rw [HRB.out, nodeB_4 _ (by decide)]; simp [hL]
        have hR := Lib.hid hr
        clear hr hL HRB HNB HLB
        go_wp2_with (first | (go_at_call 51; refine (hNm.out _).mono ?_; rintro e w1 ⟨rfl, rfl⟩) | (go_at_call 50; refine (hLt.out _).mono ?_; rintro e w1 ⟨rfl, rfl⟩))
        go_ret; exact ⟨congrArg (fun b : Bool => Ending.returned (Value.bool b)) (hR.out), b_alloc _ _⟩
    by_cases k6 : k = 6
    · subst k6
      clear HPL
      by_cases hL : F.len = 0
      · have hd : ¬ (0 : Int) < (F.len : Int) := by omega
        cases lb with
        | false =>
          have hr : false = RR := by rw [HRB.out, nodeB_4 _ (by decide), ← HLB.out]; simp
          have hR := Lib.hid hr
          clear hr hL HRB HNB HLB
          go_wp2_with (first | (go_at_call 51; refine (hNm.out _).mono ?_; rintro e w1 ⟨rfl, rfl⟩) | (go_at_call 50; refine (hLt.out _).mono ?_; rintro e w1 ⟨rfl, rfl⟩))
          go_ret; exact ⟨congrArg (fun b : Bool => Ending.returned (Value.bool b)) (hR.out), b_alloc _ _⟩
        | true =>
          by_cases o0 : o = 0
          · subst o0
            have hr : n.toList.isEmpty = RR := by rw [HRB.out, nodeB_4 _ (by decide), ← HLB.out, hL, isE]; simp
            have hR := Lib.hid hr
            clear hr hL HRB HNB HLB
            go_wp2_with (first | (go_at_call 51; refine (hNm.out _).mono ?_; rintro e w1 ⟨rfl, rfl⟩) | (go_at_call 50; refine (hLt.out _).mono ?_; rintro e w1 ⟨rfl, rfl⟩))
            go_ret
            refine ⟨congrArg (fun b : Bool => Ending.returned (Value.bool b)) (?_ : _ = RR), b_alloc _ _⟩
            rw [← hR.out]
          by_cases o1 : o = 1
          · subst o1
            have hr : n.toList.isEmpty = RR := by rw [HRB.out, nodeB_4 _ (by decide), ← HLB.out, hL, isE]; simp
            have hR := Lib.hid hr
            clear hr hL HRB HNB HLB
            go_wp2_with (first | (go_at_call 51; refine (hNm.out _).mono ?_; rintro e w1 ⟨rfl, rfl⟩) | (go_at_call 50; refine (hLt.out _).mono ?_; rintro e w1 ⟨rfl, rfl⟩))
            go_ret
            refine ⟨congrArg (fun b : Bool => Ending.returned (Value.bool b)) (?_ : _ = RR), b_alloc _ _⟩
            rw [← hR.out]
          by_cases o2 : o = 2
          · subst o2
            have hr : nb = RR := by rw [HRB.out, nodeB_4 _ (by decide), ← HLB.out, ← HNB.out, hL]; simp
            have hR := Lib.hid hr
            clear hr hL HRB HNB HLB
            go_wp2_with (first | (go_at_call 51; refine (hNm.out _).mono ?_; rintro e w1 ⟨rfl, rfl⟩) | (go_at_call 50; refine (hLt.out _).mono ?_; rintro e w1 ⟨rfl, rfl⟩))
            go_ret; exact ⟨congrArg (fun b : Bool => Ending.returned (Value.bool b)) (hR.out), b_alloc _ _⟩
          by_cases o3 : o = 3
          · subst o3
            have hr : nb = RR := by rw [HRB.out, nodeB_4 _ (by decide), ← HLB.out, ← HNB.out, hL]; simp
            have hR := Lib.hid hr
            clear hr hL HRB HNB HLB
            go_wp2_with (first | (go_at_call 51; refine (hNm.out _).mono ?_; rintro e w1 ⟨rfl, rfl⟩) | (go_at_call 50; refine (hLt.out _).mono ?_; rintro e w1 ⟨rfl, rfl⟩))
            go_ret; exact ⟨congrArg (fun b : Bool => Ending.returned (Value.bool b)) (hR.out), b_alloc _ _⟩
          have e0 : (o == 0) = false := by simp [o0]
          have e1 : (o == 1) = false := by simp [o1]
          have e2 : (o == 2) = false := by simp [o2]
          have e3 : (o == 3) = false := by simp [o3]
          have hr : false = RR := by rw [HRB.out, nodeB_4o _ (by decide) o0 o1 o2 o3]
          have hR := Lib.hid hr
          clear hr hL HRB HNB HLB
          go_wp2_with (first | (go_at_call 51; refine (hNm.out _).mono ?_; rintro e w1 ⟨rfl, rfl⟩) | (go_at_call 50; refine (hLt.out _).mono ?_; rintro e w1 ⟨rfl, rfl⟩))
          go_ret; exact ⟨congrArg (fun b : Bool => Ending.returned (Value.bool b)) (hR.out), b_alloc _ _⟩
      · have hd : (0 : Int) < (F.len : Int) := by omega
        have hr : false = RR := by rw [HRB.out, nodeB_4 _ (by decide)]; simp [hL]
        have hR := Lib.hid hr
        clear hr hL HRB HNB HLB
        go_wp2_with (first | (go_at_call 51; refine (hNm.out _).mono ?_; rintro e w1 ⟨rfl, rfl⟩) | (go_at_call 50; refine (hLt.out _).mono ?_; rintro e w1 ⟨rfl, rfl⟩))
        go_ret; exact ⟨congrArg (fun b : Bool => Ending.returned (Value.bool b)) (hR.out), b_alloc _ _⟩
    clear HPL HNB HLB
    have hr : false = RR := by rw [HRB.out]; unfold nodeB; simp [k0, k1, k2, k3, k4, k5, k6]
    have hR := Lib.hid hr
    clear hr HRB
    go_wp2_with fail
    go_ret; exact ⟨congrArg (fun b : Bool => Ending.returned (Value.bool b)) (hR.out), b_alloc _ _⟩
  case rest =>
  obtain ⟨HM, rfl⟩ := hcut
  have HMM := Lib.hid HM.out
  have hc4 := HC4.out
  clear HM HRR hLt hNm HPL
  generalize hw0 : w.alloc (.cells #[.int .i64 k, .int .i64 o, .string n, .string t, .slice ad F.len c] 24) = w0 at *
  go_upto_region 22 with fail
  have hGO := HGO.out
  go_loopg [4] F.len (fun gg s4 wr => ∃ (kk : Nat) (G : Fo), kk + G.len = F.len ∧ gg = G.len ∧ s4 = .int .i64 kk ∧ Aside (Below w0.heap.size w0 wr) ∧ Aside (Row w G b (f + 5 * kk)) ∧ Aside (G.All FormAt) ∧ Aside (G.may = F.may))
  case atStart => exact ⟨0, F, by omega, rfl, rfl, Below.refl _ _, HR0.out, HP0.out, rfl⟩
  case round =>
    obtain ⟨kk, G, hkk, rfl, rfl, BW, HR, HP, HA⟩ := hrel
    have c4 := (BW.out.cell (p := ⟨w.heap.size, 4, none⟩) hz).trans hc4
    have hBW0 : Below w.heap.size w wr := hGO.trans (BW.out.mono hGO.size)
    clear hc4 hGO
    cases G with
    | nil =>
      have hltz : ¬ (kk : Int) < (F.len : Int) := by simp only [Fo.len] at hkk; omega
      have HB := Lib.hid hBW0
      clear hBW0
      go_wp2_with fail
      go_ret
      refine ⟨?_, HB.out⟩
      rw [HMM.out, ← HA.out]; rfl
    | cons k1 o1 n1 t1 kids nx =>
      have hln : (Fo.cons k1 o1 n1 t1 kids nx).len = nx.len + 1 := rfl
      have hltz : (kk : Int) < (F.len : Int) := by omega
      obtain ⟨a1, c1, h0, h1, h2, h3, h4, r1, r2, hsl, _⟩ := (HR.out.below hBW0 (Nat.le_refl _)).kids
      obtain ⟨_, _, _, _, _, _, _, _, _, _, hrn⟩ := HR.out.kids
      obtain rfl : ad = some ⟨b, f, none⟩ := by rcases had with h | ⟨_, h⟩; exact h; omega
      rw [show f + 5 * kk = f + kk * 5 by omega] at h0 h1 h2 h3 h4
      obtain ⟨hp1, hpn⟩ := HP.out
      have HC : Hid (∀ w1, Below wr.heap.size wr w1 → Calls Tryz.prog 29 #[pv k1 o1 n1 t1 a1 kids.len c1] w1 (RetB (mayP k1 o1 n1 t1 kids) w1)) := Lib.hid fun w1 hb => hp1 k1 o1 n1 t1 a1 c1 w1 r1 r2 (hsl.grown hb)
      have hPn : Aside _ := hpn
      have hRn : Aside _ := hrn
      have HB := Lib.hid hBW0
      have HA2 := Lib.hid HA.out
      clear hpn hrn hsl hp1 HP HR hBW0 HA
      cases hv : mayP k1 o1 n1 t1 kids with
      | false =>
        rw [hv] at HC
        have HV := Lib.hid hv
        clear hv
        go_wp2_with (go_at_call 29; refine (HC.out _ (Below.refl _ _)).mono ?_; rintro e w1 ⟨rfl, hb⟩)
        go_ret
        refine ⟨?_, b_trans HB.out hb⟩
        rw [HMM.out, ← HA2.out]
        show _ = Ending.returned (.bool (mayP k1 o1 n1 t1 kids && nx.may))
        rw [HV.out]; rfl
      | true =>
        rw [hv] at HC
        have HV := Lib.hid hv
        clear hv
        go_wp2_with (go_at_call 29; refine (HC.out _ (Below.refl _ _)).mono ?_; rintro e w1 ⟨rfl, hb⟩)
        go_roundg nx.len
        case measure => omega
        case rel =>
          refine ⟨kk + 1, nx, by omega, rfl, by go_num, b_trans BW.out hb, ?_, hPn.out, (show nx.may = F.may from ?_)⟩
          · rw [show f + 5 * (kk + 1) = f + 5 * kk + 5 by omega]; exact hRn.out
          · rw [← HA2.out]
            show _ = (mayP k1 o1 n1 t1 kids && nx.may)
            rw [HV.out]; rfl
theorem form_any (F : Fo) : FormAt F := Fo.rec_all form_step F
end Go.Proofs.YthpagppipifgeaaGreatDoor
