/- ostiaryref06.Time: the walk. -/
import Derived.Test.YtebhiplcoioenaaGreatDoorZDL
import Derived.Test.YtebhiplcoioenaaGreatDoorZZRCheck
import Derived.Test.YtebhiplcoioenaaGreatDoorZZRFine
namespace Go.Proofs.YtebhiplcoioenaaGreatDoor
open Go.RowKit

theorem mom_len {t : Int} {s : Bs} (ht : t = 23 ∨ t = 24) (h : (momentS t s).isSome = true) : s.length ≤ 15 := by
  have key : ∀ L : Bs, (longS L).isSome = true → L.length = 15 := fun L hL => by
    unfold longS at hL
    by_cases h1 : L.length = 15
    · exact h1
    · rw [if_pos (Or.inl h1)] at hL; cases hL
  rcases ht with rfl | rfl
  · unfold momentS at h
    rw [if_pos rfl] at h
    by_cases h1 : s.length = 13
    · omega
    · rw [if_pos h1] at h; cases h
  · have := key s h
    omega
theorem fine_mom {t : Int} (ht : t = 23 ∨ t = 24) (s : Bs) : fineS t s = (momentS t s).isSome := by
  rcases ht with rfl | rfl <;> rfl
theorem rcheck_t (t : Int) (ht : t = 23 ∨ t = 24) (v : Dv) (ad : Option Addr) (cp : Nat) (w : World) (hb : v.b.length ≤ SB) : v.c = 0 → v.t = t → ∀ u, Below w.heap.size w u → Calls Tryz.prog 50 #[dvv v ad cp] u (RetI v.check u) := by
  obtain ⟨c, tt, k, b, l⟩ := v
  intro hc h2 u hu
  simp only at hc h2 hb
  subst hc h2
  exact rCheck_prim tt k b l ad cp u (by rcases ht with rfl | rfl <;> decide) (fun hf => by rw [fine_mom ht] at hf; have := mom_len ht hf; omega) (fun u2 _ => by
    rw [fine_mom ht]
    exact rfine_t tt ht b u2 _ (fun u3 _ => (rmom_any tt ht b u3 hb).mono fun e w' hh => ⟨⟨_, hh.1⟩, hh.2⟩))
set_option maxRecDepth 100000 in
set_option maxHeartbeats 4000000 in
theorem RTime_any (v : Dv) (ad : Option Addr) (cp : Nat) (w : World) (hb : v.b.length ≤ SB) : Calls Tryz.prog 21 #[dvv v ad cp] w fun e w' => e = .returned (.tuple #[.int .i64 (timeN v).1, .int .i64 (timeN v).2]) ∧ Below w.heap.size w w' := by
  have hR := Rws.start w
  have H23 : Hid (∀ u, Below w.heap.size w u → Calls Tryz.prog 42 #[dvv v ad cp, .int .i64 23] u (RetB (v.isK 23) u)) := Lib.hid fun u hu => rkind_any v ad cp 23 u (fun h1 h2 u2 hu2 => rcheck_t 23 (Or.inl rfl) v ad cp u hb h1 h2 u2 hu2)
  have H24 : Hid (∀ u, Below w.heap.size w u → Calls Tryz.prog 42 #[dvv v ad cp, .int .i64 24] u (RetB (v.isK 24) u)) := Lib.hid fun u hu => rkind_any v ad cp 24 u (fun h1 h2 u2 hu2 => rcheck_t 24 (Or.inr rfl) v ad cp u hb h1 h2 u2 hu2)
  cases h23 : v.isK 23 with
  | true =>
    rw [h23] at H23
    have hx : timeN v = ((momentS v.t v.b).getD 0, 0) := by unfold timeN; rw [if_pos (by exact Or.inl h23)]
    have ht : v.t = 23 ∨ v.t = 24 := Or.inl (isK_iff.1 h23).2.1
    have HMO : Hid (∀ u, ∃ q, Calls Tryz.prog 52 #[.int .i64 v.t, .string (bs v.b)] u fun e w' => e = .returned (.tuple #[.int .i64 ((momentS v.t v.b).getD 0), .bool q]) ∧ Below u.heap.size u w') := Lib.hid fun u => ⟨_, rmom_any v.t ht v.b u hb⟩
    rw [hx]
    clear hx hb ht
    go_enter Tryz.func21, Tryz.ntmps21
    go_upto_region 1 with (refine wpList_box_rws rfl _ _ (by rfl) (by exact hR) (dvC v ad cp) rfl ?_; intro gb w1 hR)
    go_upto_region 3 with (first
      | (go_at_call_of 42 (Value.int IntKind.i64 23); refine (H23.out _ hR.below).mono ?_; rintro e w2 ⟨rfl, hb2⟩; have hR := hR.call hb2; have f0 := hR.cellAt (g := gb) (List.Mem.head _) 0 rfl; have f1 := hR.cellAt (g := gb) (List.Mem.head _) 1 rfl; have f2 := hR.cellAt (g := gb) (List.Mem.head _) 2 rfl; have f3 := hR.cellAt (g := gb) (List.Mem.head _) 3 rfl; have f4 := hR.cellAt (g := gb) (List.Mem.head _) 4 rfl)

      | (refine wpList_load_rws rfl _ _ (by rfl) (by exact hR) gb rfl (dvC v ad cp) _ (List.Mem.head _) _ Tryz.underlying24 rfl (by kernel_rfl) ?_))
    obtain ⟨q, hmo⟩ := HMO.out w2
    have HM2 := Lib.hid hmo
    clear hmo
    go_wp2_with (go_at_call 52; refine (HM2.out).mono ?_; rintro e w4 ⟨rfl, hb4⟩; have hR := hR.call hb4)
    go_ret2
    exact ⟨rfl, hR.below⟩
  | false =>
    rw [h23] at H23
    cases h24 : v.isK 24 with
    | true =>
      rw [h24] at H24
      have hx : timeN v = ((momentS v.t v.b).getD 0, 0) := by unfold timeN; rw [if_pos (by exact Or.inr h24)]
      have ht : v.t = 23 ∨ v.t = 24 := Or.inr (isK_iff.1 h24).2.1
      have HMO : Hid (∀ u, ∃ q, Calls Tryz.prog 52 #[.int .i64 v.t, .string (bs v.b)] u fun e w' => e = .returned (.tuple #[.int .i64 ((momentS v.t v.b).getD 0), .bool q]) ∧ Below u.heap.size u w') := Lib.hid fun u => ⟨_, rmom_any v.t ht v.b u hb⟩
      rw [hx]
      clear hx hb ht
      go_enter Tryz.func21, Tryz.ntmps21
      go_upto_region 1 with (refine wpList_box_rws rfl _ _ (by rfl) (by exact hR) (dvC v ad cp) rfl ?_; intro gb w1 hR)
      go_upto_region 3 with (first
        | (go_at_call_of 42 (Value.int IntKind.i64 23); refine (H23.out _ hR.below).mono ?_; rintro e w2 ⟨rfl, hb2⟩; have hR := hR.call hb2; have f0 := hR.cellAt (g := gb) (List.Mem.head _) 0 rfl; have f1 := hR.cellAt (g := gb) (List.Mem.head _) 1 rfl; have f2 := hR.cellAt (g := gb) (List.Mem.head _) 2 rfl; have f3 := hR.cellAt (g := gb) (List.Mem.head _) 3 rfl; have f4 := hR.cellAt (g := gb) (List.Mem.head _) 4 rfl)
        | (go_at_call 42; refine (H24.out _ hR.below).mono ?_; rintro e w3 ⟨rfl, hb3⟩; have hR := hR.call hb3; have f0 := hR.cellAt (g := gb) (List.Mem.head _) 0 rfl; have f1 := hR.cellAt (g := gb) (List.Mem.head _) 1 rfl; have f2 := hR.cellAt (g := gb) (List.Mem.head _) 2 rfl; have f3 := hR.cellAt (g := gb) (List.Mem.head _) 3 rfl; have f4 := hR.cellAt (g := gb) (List.Mem.head _) 4 rfl)
        | (refine wpList_load_rws rfl _ _ (by rfl) (by exact hR) gb rfl (dvC v ad cp) _ (List.Mem.head _) _ Tryz.underlying24 rfl (by kernel_rfl) ?_))
      obtain ⟨q, hmo⟩ := HMO.out w3
      have HM2 := Lib.hid hmo
      clear hmo
      go_wp2_with (go_at_call 52; refine (HM2.out).mono ?_; rintro e w4 ⟨rfl, hb4⟩; have hR := hR.call hb4)
      go_ret2
      exact ⟨rfl, hR.below⟩
    | false =>
      rw [h24] at H24
      have hx : timeN v = (0, 65) := by unfold timeN; rw [if_neg (by rw [h23, h24]; simp)]
      rw [hx]
      clear hx hb
      go_enter Tryz.func21, Tryz.ntmps21
      go_upto_region 1 with (refine wpList_box_rws rfl _ _ (by rfl) (by exact hR) (dvC v ad cp) rfl ?_; intro gb w1 hR)
      go_wp2_with (first
        | (go_at_call_of 42 (Value.int IntKind.i64 23); refine (H23.out _ hR.below).mono ?_; rintro e w2 ⟨rfl, hb2⟩; have hR := hR.call hb2; have f0 := hR.cellAt (g := gb) (List.Mem.head _) 0 rfl; have f1 := hR.cellAt (g := gb) (List.Mem.head _) 1 rfl; have f2 := hR.cellAt (g := gb) (List.Mem.head _) 2 rfl; have f3 := hR.cellAt (g := gb) (List.Mem.head _) 3 rfl; have f4 := hR.cellAt (g := gb) (List.Mem.head _) 4 rfl)
        | (go_at_call 42; refine (H24.out _ hR.below).mono ?_; rintro e w3 ⟨rfl, hb3⟩; have hR := hR.call hb3; have f0 := hR.cellAt (g := gb) (List.Mem.head _) 0 rfl; have f1 := hR.cellAt (g := gb) (List.Mem.head _) 1 rfl; have f2 := hR.cellAt (g := gb) (List.Mem.head _) 2 rfl; have f3 := hR.cellAt (g := gb) (List.Mem.head _) 3 rfl; have f4 := hR.cellAt (g := gb) (List.Mem.head _) 4 rfl)
        | (refine wpList_load_rws rfl _ _ (by rfl) (by exact hR) gb rfl (dvC v ad cp) _ (List.Mem.head _) _ Tryz.underlying24 rfl (by kernel_rfl) ?_))
      go_ret2
      exact ⟨rfl, hR.below⟩
end Go.Proofs.YtebhiplcoioenaaGreatDoor
