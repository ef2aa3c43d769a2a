/- policy.may: which policies may be. -/
import Derived.Test.YthpagppipifgeaaGreatDoorZLX
import Derived.Test.YthpagppipifgeaaGreatDoorZLA
import Derived.Deep.Light
namespace Go.Proofs.YthpagppipifgeaaGreatDoor
open Go.RowKit

theorem any_may (F : Fo) : F.any (fun k o n t K => !mayP k o n t K) = !F.may := by
  induction F with
  | nil => rfl
  | cons k o n t kids nx _ ih => simp only [Fo.any, Fo.may]; rw [ih]; show (!nodeB k o n t kids.len kids.may || !nx.may) = _; cases nodeB k o n t kids.len kids.may <;> simp

def NameOk : Prop := ∀ (s : ByteArray) (w : World), s.size ≤ SB → Calls Tryz.prog 47 #[.string s] w (RetB (nameB s) w)
def LitOk : Prop := ∀ (s : ByteArray) (w : World), s.size ≤ SB → Calls Tryz.prog 48 #[.string s] w (RetB (litB s) w)
def MayAt (F : Fo) : Prop := ∀ (k o : Int) (n t : ByteArray) (ad : Option Addr) (c : Nat) (w : World), n.size ≤ SB → t.size ≤ SB → SlF w F ad c →
  Calls Tryz.prog 27 #[pv k o n t ad F.len c] w (RetB (mayP k o n t F) w)

theorem may1_any (F : Fo) (h : MayAt F) (k o : Int) (n t : ByteArray) (ad : Option Addr) (c : Nat) (w : World) (hn : n.size ≤ SB) (ht : t.size ≤ SB) (hs : SlF w F ad c) :
    Calls Tryz.prog 46 #[pv k o n t ad F.len c] w (RetB (!mayP k o n t F) w) := by
  have H : Hid (∀ w1, Below w.heap.size w w1 → Calls Tryz.prog 27 #[pv k o n t ad F.len c] w1 (RetB (mayP k o n t F) w1)) := Lib.hid fun w1 hb => h k o n t ad c w1 hn ht (hs.grown hb)
  clear h hn ht hs
  go_enter Tryz.func46, Tryz.ntmps46
  go_wp2_with fail
  refine (H.out _ ((Below.refl _ w).alloc (Nat.le_refl _) _)).mono ?_
  rintro e w1 ⟨rfl, hb⟩
  go_wp2_with fail
  go_ret
  exact ⟨rfl, ((Below.refl _ w).alloc (Nat.le_refl _) _).trans (hb.mono (by simp))⟩

theorem pays_may (F : Fo) (h : F.All MayAt) (w : World) : Pays 46 #[] (fun k o n t K => !mayP k o n t K) w F := by
  induction F with
  | nil => trivial
  | cons k o n t kids nx _ ih => exact ⟨fun W ad c _ hn ht hs => may1_any kids h.1 k o n t ad c W hn ht hs, ih h.2⟩

set_option maxRecDepth 100000 in
set_option maxHeartbeats 2000000 in
theorem may_step (hN : NameOk) (hL : LitOk) (F : Fo) (h : F.All MayAt) : MayAt F := by
  intro k o n t ad c w hn ht hs
  have hfl : F.len ≤ MX := Nat.le_trans hs.le hs.cm
  have hSB := MX_eq
  have HN : Hid (∀ w1, Calls Tryz.prog 47 #[.string n] w1 (RetB (nameB n) w1)) := Lib.hid fun w1 => hN n w1 hn
  have HL : Hid (∀ w1, Calls Tryz.prog 48 #[.string t] w1 (RetB (litB t) w1)) := Lib.hid fun w1 => hL t w1 ht
  have HC : Hid (∀ w1, Below w.heap.size w w1 → Calls Tryz.prog 45 #[.slice ad F.len c, .func (.func 46) #[] #[]] w1 (RetB (!F.may) w1)) := Lib.hid fun w1 hb => by
    rw [← any_may]
    exact contains_any _ _ (enters_of Tryz.func46 (by kernel_rfl) rfl) _ F ad c w1 (hs.grown hb) (pays_may F h w1)
  clear h hN hL hn ht hs
  unfold mayP
  generalize F.len = L at *
  generalize F.may = m at *
  go_enter Tryz.func27, Tryz.ntmps27
  go_upto_region 2 with (fail)
  go_cut [4] (fun s4 wx => s4 = .bool (!plainB o n t) ∧ wx = w.alloc (.cells #[.int .i64 k, .int .i64 o, .string n, .string t, .slice ad L c] 24))
  case first =>
    by_cases ho : o = 0
    · subst ho
      go_wp2_with fail
      all_goals (go_meet; refine ⟨?_, rfl⟩; go_light; simp_all [plainB, isE])
    · go_wp2_with fail
      all_goals (go_meet; refine ⟨?_, rfl⟩; go_light; simp_all [plainB])
  case rest =>
  obtain ⟨rfl, rfl⟩ := hcut
  generalize hpl : plainB o n t = pl
  have hPL : Hid (plainB o n t = pl) := hpl
  clear hpl
  by_cases k0 : k = 0
  · subst k0
    go_wp2_with fail
    all_goals (go_ret; refine ⟨?_, b_alloc _ _⟩; unfold nodeB; rw [hPL.out]; simp_all [beq0])
  by_cases k1 : k = 1
  · subst k1
    go_wp2_with (go_at_call 45; refine (HC.out _ (b_alloc _ _)).mono ?_; rintro e w1 ⟨rfl, hb⟩)
    all_goals (go_ret; refine ⟨?_, by first | exact b_alloc _ _ | exact b_call hb⟩; unfold nodeB; rw [hPL.out]; simp_all [beq1]; try (intro _; omega))
  by_cases k2 : k = 2
  · subst k2
    go_wp2_with (go_at_call 45; refine (HC.out _ (b_alloc _ _)).mono ?_; rintro e w1 ⟨rfl, hb⟩)
    all_goals (go_ret; refine ⟨?_, by first | exact b_alloc _ _ | exact b_call hb⟩; unfold nodeB; rw [hPL.out]; simp_all; try (intro _; omega))
  by_cases k3 : k = 3
  · subst k3
    go_wp2_with (go_at_call 45; refine (HC.out _ (b_alloc _ _)).mono ?_; rintro e w1 ⟨rfl, hb⟩)
    all_goals (go_ret; refine ⟨?_, by first | exact b_alloc _ _ | exact b_call hb⟩; unfold nodeB; rw [hPL.out]; simp_all; try (intro _; omega))
  by_cases k4 : k = 4
  · subst k4
    go_wp2_with (first | (go_at_call 47; refine (HN.out _).mono ?_; rintro e w1 ⟨rfl, hb⟩; have ct := box_cell hb 3 rfl) | (go_at_call 48; refine (HL.out _).mono ?_; rintro e w2 ⟨rfl, hb2⟩))
    all_goals (go_ret; refine ⟨?_, by first | exact b_alloc _ _ | exact b_call hb2 | exact b_call hb | exact b_trans (b_call hb) hb2⟩; unfold nodeB; go_light; simp_all [beq0]; try omega)
  by_cases k5 : k = 5
  · subst k5
    go_wp2_with (first | (go_at_call 47; refine (HN.out _).mono ?_; rintro e w1 ⟨rfl, hb⟩; have ct := box_cell hb 3 rfl) | (go_at_call 48; refine (HL.out _).mono ?_; rintro e w2 ⟨rfl, hb2⟩))
    all_goals (go_ret; refine ⟨?_, by first | exact b_alloc _ _ | exact b_call hb2 | exact b_call hb | exact b_trans (b_call hb) hb2⟩; unfold nodeB; go_light; simp_all [beq0]; try omega)
  by_cases k6 : k = 6
  · subst k6
    go_wp2_with (first | (go_at_call 47; refine (HN.out _).mono ?_; rintro e w1 ⟨rfl, hb⟩; have ct := box_cell hb 3 rfl) | (go_at_call 48; refine (HL.out _).mono ?_; rintro e w2 ⟨rfl, hb2⟩))
    all_goals (go_ret; refine ⟨?_, by first | exact b_alloc _ _ | exact b_call hb2 | exact b_call hb | exact b_trans (b_call hb) hb2⟩; unfold nodeB; go_light; simp_all [beq0]; try omega)
  · go_wp2_with fail
    all_goals (go_ret; refine ⟨?_, b_alloc _ _⟩; simp_all [nodeB])
theorem may_any (hN : NameOk) (hL : LitOk) (F : Fo) : MayAt F := Fo.rec_all (may_step hN hL) F
end Go.Proofs.YthpagppipifgeaaGreatDoor
