/- der.kind, ostiaryref06.Cons: the walks. -/
import Derived.Test.YtebhiplcoioenaaGreatDoorZDG
import Derived.Test.YtebhiplcoioenaaGreatDoorShelf
namespace Go.Proofs.YtebhiplcoioenaaGreatDoor
open Go.RowKit

theorem tag_cases (t : Int) : t = 1 ∨ t = 2 ∨ t = 3 ∨ t = 4 ∨ t = 5 ∨ t = 6 ∨ t = 12 ∨ t = 16 ∨ t = 17 ∨ t = 19 ∨ t = 22 ∨ t = 23 ∨ t = 24 ∨
    (t ≠ 1 ∧ t ≠ 2 ∧ t ≠ 3 ∧ t ≠ 4 ∧ t ≠ 5 ∧ t ≠ 6 ∧ t ≠ 12 ∧ t ≠ 16 ∧ t ≠ 17 ∧ t ≠ 19 ∧ t ≠ 22 ∧ t ≠ 23 ∧ t ≠ 24) := by omega
theorem neb {t k : Int} (h : t ≠ k) : (t == k) = false := by simpa using h
theorem there_none {t : Int} (h : t ≠ 1 ∧ t ≠ 2 ∧ t ≠ 3 ∧ t ≠ 4 ∧ t ≠ 5 ∧ t ≠ 6 ∧ t ≠ 12 ∧ t ≠ 16 ∧ t ≠ 17 ∧ t ≠ 19 ∧ t ≠ 22 ∧ t ≠ 23 ∧ t ≠ 24) : thereB t = false ∧ consB t = false := by
  obtain ⟨h1, h2, h3, h4, h5, h6, h7, h8, h9, h10, h11, h12, h13⟩ := h
  unfold thereB consB
  rw [neb h1, neb h2, neb h3, neb h4, neb h5, neb h6, neb h7, neb h8, neb h9, neb h10, neb h11, neb h12, neb h13]
  exact ⟨rfl, rfl⟩
set_option maxRecDepth 100000 in
set_option maxHeartbeats 4000000 in
theorem kind_any (t : Int) (w : World) : Calls Tryz.prog 86 #[.int .i64 t] w fun e w' => e = .returned (.tuple #[.bool (thereB t), .bool (consB t)]) ∧ w' = w := by
  rcases tag_cases t with rfl | rfl | rfl | rfl | rfl | rfl | rfl | rfl | rfl | rfl | rfl | rfl | rfl | h
  case inr.inr.inr.inr.inr.inr.inr.inr.inr.inr.inr.inr.inr =>
    obtain ⟨e1, e2⟩ := there_none h
    obtain ⟨h1, h2, h3, h4, h5, h6, h7, h8, h9, h10, h11, h12, h13⟩ := h
    rw [e1, e2]
    replace h1 := neb h1; replace h2 := neb h2; replace h3 := neb h3; replace h4 := neb h4; replace h5 := neb h5; replace h6 := neb h6; replace h7 := neb h7
    replace h8 := neb h8; replace h9 := neb h9; replace h10 := neb h10; replace h11 := neb h11; replace h12 := neb h12; replace h13 := neb h13
    clear e1 e2
    go_enter Tryz.func86, Tryz.ntmps86
    go_wp2
    go_ret2
    exact ⟨rfl, rfl⟩
  all_goals
    go_enter Tryz.func86, Tryz.ntmps86
    go_wp2
    go_ret2
    exact ⟨rfl, rfl⟩
def primL : List Int := [1, 2, 3, 4, 5, 6, 12, 19, 22, 23, 24]
def consR (t : Int) : Bool := !primL.contains t
theorem there_prim (t : Int) : thereB t = (primL.contains t || (t == 16 || t == 17)) ∧ consB t = (t == 16 || t == 17) := by
  rcases tag_cases t with rfl | rfl | rfl | rfl | rfl | rfl | rfl | rfl | rfl | rfl | rfl | rfl | rfl | h
  case inr.inr.inr.inr.inr.inr.inr.inr.inr.inr.inr.inr.inr =>
    obtain ⟨e1, e2⟩ := there_none h
    rw [e1, e2]
    have hp : primL.contains t = false := by
      cases hq : primL.contains t with
      | false => rfl
      | true =>
        have hm : t ∈ primL := List.contains_iff_mem.1 hq
        simp only [primL, List.mem_cons, List.not_mem_nil, or_false] at hm
        omega
    rw [hp, neb h.2.2.2.2.2.2.2.1, neb h.2.2.2.2.2.2.2.2.1]
    exact ⟨rfl, rfl⟩
  all_goals decide
theorem consR_there {t : Int} (h : thereB t = true) : consR t = consB t := by
  obtain ⟨h1, h2⟩ := there_prim t
  unfold consR
  rw [h2]
  rw [h1] at h
  rcases tag_cases t with rfl | rfl | rfl | rfl | rfl | rfl | rfl | rfl | rfl | rfl | rfl | rfl | rfl | hh
  case inr.inr.inr.inr.inr.inr.inr.inr.inr.inr.inr.inr.inr => rw [← h1, (there_none hh).1] at h; cases h
  all_goals decide
set_option maxRecDepth 100000 in
set_option maxHeartbeats 4000000 in
theorem Cons_any (t : Int) (w : World) : Calls Tryz.prog 71 #[.int .i64 t] w fun e w' => e = .returned (.tuple #[.bool (consR t), .bool (thereB t)]) ∧ Below w.heap.size w w' := by
  obtain ⟨h1, h2⟩ := there_prim t
  obtain ⟨L, hL⟩ : ∃ L, L = primL := ⟨_, rfl⟩
  have hlen : L.length = 11 := by rw [hL]; rfl
  have H1 : Hid (thereB t = (L.contains t || (t == 16 || t == 17))) := Lib.hid (by rw [hL]; exact h1)
  have H2 : Hid (consR t = !L.contains t) := Lib.hid (by rw [hL]; rfl)
  clear h1 h2
  go_enter Tryz.func71, Tryz.ntmps71
  go_upto_region 2 with fail
  obtain ⟨w1, hw1⟩ : ∃ w1, w1 = w.alloc (.cells #[.int .i64 1, .int .i64 2, .int .i64 3, .int .i64 4, .int .i64 5, .int .i64 6, .int .i64 12, .int .i64 19, .int .i64 22, .int .i64 23, .int .i64 24] 3) := ⟨_, rfl⟩
  obtain ⟨g, hg⟩ : ∃ g, g = w.heap.size := ⟨_, rfl⟩
  have HB : Hid (Below w.heap.size w w1) := Lib.hid (by rw [hw1]; exact b_alloc _ _)
  have HC : Hid (∀ i x, L[i]? = some x → w1.cell? ⟨g, i, none⟩ = some (.int .i64 x)) := Lib.hid fun i x hx => by
    rw [hw1]
    refine new_cell hg.symm _ _ i ?_
    rw [hL] at hx
    have hi : i < 11 := (List.getElem?_eq_some_iff.1 hx).1
    have hv : (#[.int .i64 1, .int .i64 2, .int .i64 3, .int .i64 4, .int .i64 5, .int .i64 6, .int .i64 12, .int .i64 19, .int .i64 22, .int .i64 23, .int .i64 24] : Array Value) = (primL.map (Value.int .i64)).toArray := rfl
    rw [hv]
    simp [hx]
  rw [← hw1, ← hg]
  clear hw1 hg hL
  go_wp2
  go_loopg [5] 11 (fun gg s5 wr => ∃ i : Nat, i ≤ 11 ∧ gg = 11 - i ∧ s5 = .int .i64 i ∧ Aside (∀ x ∈ L.take i, x ≠ t) ∧ wr = w1)
  case atStart => exact ⟨0, by omega, rfl, rfl, fun x hx => absurd hx List.not_mem_nil, rfl⟩
  case round =>
    obtain ⟨i, hi, rfl, rfl, HN, rfl⟩ := hrel
    by_cases hlt : i < 11
    · have hltz : (i : Int) < 11 := by omega
      obtain ⟨x, hx⟩ : ∃ x, L[i]? = some x := ⟨L[i]'(by omega), List.getElem?_eq_getElem (by omega)⟩
      have hc := HC.out i x hx
      cases hxt : x == t with
      | true =>
        have HT : Hid (L.contains t = true) := Lib.hid (by
          have e : x = t := by simpa using hxt
          rw [List.contains_iff_mem, ← e]
          exact List.mem_of_getElem? hx)
        clear hx
        go_wp2
        go_ret2
        refine ⟨?_, HB.out⟩
        rw [H1.out, H2.out, HT.out]; rfl
      | false =>
        have HN2 : Hid (∀ y ∈ L.take (i + 1), y ≠ t) := Lib.hid fun y hy => by
          obtain ⟨hi2, e⟩ := List.getElem?_eq_some_iff.1 hx
          rw [List.take_succ_eq_append_getElem hi2, e] at hy
          rcases List.mem_append.1 hy with hy | hy
          · exact HN.out y hy
          · rw [List.mem_singleton] at hy; rw [hy]; simpa using hxt
        clear hx
        go_wp2
        go_roundg (11 - (i + 1))
        case measure => omega
        case rel => exact ⟨i + 1, by omega, rfl, by go_num, HN2.out, rfl⟩
    · have hltz : ¬ (i : Int) < 11 := by omega
      have HT : Hid (L.contains t = false) := Lib.hid (by
        have := HN.out
        rw [List.take_of_length_le (by omega)] at this
        cases hq : L.contains t with
        | false => rfl
        | true => exact absurd rfl (this t (List.contains_iff_mem.1 hq)))
      cases h16 : t == 16 with
      | true =>
        go_wp2
        go_ret2
        refine ⟨?_, HB.out⟩
        rw [H1.out, H2.out, HT.out, h16]; rfl
      | false =>
        go_wp2
        go_ret2
        refine ⟨?_, HB.out⟩
        rw [H1.out, H2.out, HT.out, h16]; rfl
end Go.Proofs.YtebhiplcoioenaaGreatDoor
