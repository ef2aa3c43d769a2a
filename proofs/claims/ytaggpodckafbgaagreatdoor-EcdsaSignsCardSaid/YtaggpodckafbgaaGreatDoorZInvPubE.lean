/- Inv: the walk. (Printed by gen_pub3.py.) -/
import Derived.Test.YtaggpodckafbgaaGreatDoorZInvE
namespace Go.Proofs.YtaggpodckafbgaaGreatDoor
open Go.RowKit

/-- What Inv answers. -/
def InvR (a m : ByteArray) (l : List UInt8) (n : Int) : Prop :=
  if 512 < a.size ∨ 512 < m.size then l = [] ∧ n = 30 else if nv m = 0 then l = [] ∧ n = 31 else if Nat.gcd (nv m) (nv a) ≠ 1 then l = [] ∧ n = 33 else n = 0 ∧ ∃ x, x < nv m ∧ x * nv a % nv m = 1 % nv m ∧ l = fm x

set_option maxRecDepth 100000 in
set_option maxHeartbeats 12800000 in
theorem Inv_any (a m : ByteArray) (w : World) (ha : a.size ≤ 9223372036854775807) (hm : m.size ≤ 9223372036854775807) :
    Calls Tryz.prog 30 #[.string a, .string m] w fun e w' => (∃ l n, e = ret2 l n ∧ InvR a m l n) ∧ Below w.heap.size w w' := by
  obtain ⟨sf, hsf⟩ : ∃ sf : Nat → ByteArray, sf = fun i => if i = 0 then a else m := ⟨_, rfl⟩
  have h0 : sf 0 = a := by rw [hsf]; rfl
  have h1 : sf 1 = m := by rw [hsf]; rfl
  have H0 := Lib.hid h0; have H1 := Lib.hid h1
  have hc : ∀ i, i < 2 → (w.alloc (.cells #[.string a, .string m] 9)).cell? ⟨w.heap.size, i, none⟩ = some (.string (sf i)) := fun i hi => by
    match i, hi with
    | 0, _ => rw [h0]; exact new_cells w _ _ 0 _ rfl
    | 1, _ => rw [h1]; exact new_cells w _ _ 1 _ rfl
  have hs : ∀ i, i < 2 → (sf i).size ≤ 9223372036854775807 := fun i hi => by
    match i, hi with
    | 0, _ => rw [h0]; exact ha
    | 1, _ => rw [h1]; exact hm
  have HC := Lib.hid hc; have HS := Lib.hid hs
  clear hsf h0 h1 hc hs
  go_enter Tryz.func30, Tryz.ntmps30
  go_wp2_with fail
  refine (taken_any true _ 2 sf _ (by omega) (by omega) HC.out HS.out).mono ?_
  rintro e0 w1 ⟨hb1, h⟩
  have hbel : Below w.heap.size w w1 := ((Below.refl _ _).alloc (Nat.le_refl _) _).trans (hb1.mono (by simp))
  rcases h with ⟨⟨i, hi, hlong⟩, rfl⟩ | ⟨h512, hf, hz, rfl⟩ | ⟨h512, hnz, g, cap, vals, rfl, hnums, hcell⟩
  · have hor : 512 < a.size ∨ 512 < m.size := by
      match i, hi with
      | 0, _ => rw [H0.out] at hlong; exact Or.inl hlong
      | 1, _ => rw [H1.out] at hlong; exact Or.inr hlong
    have hR : InvR a m [] 30 := by unfold InvR; rw [if_pos hor]; exact ⟨rfl, rfl⟩
    have HR := Lib.hid hR
    clear hor hR hlong
    unfold errLong
    go_wp2_with (go_at_call 59; refine (answeredLong _).mono ?_; rintro e2 w2 ⟨rfl, rfl⟩)
    go_ret2
    exact ⟨⟨_, _, rfl, HR.out⟩, hbel⟩
  · have hno : ¬ (512 < a.size ∨ 512 < m.size) := by
      have g0 := h512 0 (by omega); rw [H0.out] at g0
      have g1 := h512 1 (by omega); rw [H1.out] at g1
      omega
    have hb0 : nv m = 0 := by rw [← H1.out]; exact hz
    have hR : InvR a m [] 31 := by unfold InvR; rw [if_neg hno, if_pos hb0]; exact ⟨rfl, rfl⟩
    have HR := Lib.hid hR
    clear hno hb0 hR hz h512
    unfold errZero
    go_wp2_with (go_at_call 59; refine (answeredZero _).mono ?_; rintro e2 w2 ⟨rfl, rfl⟩)
    go_ret2
    exact ⟨⟨_, _, rfl, HR.out⟩, hbel⟩
  · have hno : ¬ (512 < a.size ∨ 512 < m.size) := by
      have g0 := h512 0 (by omega); rw [H0.out] at g0
      have g1 := h512 1 (by omega); rw [H1.out] at g1
      omega
    have hb0 : 0 < nv m := by rw [← H1.out]; exact hnz rfl
    have hR : ∀ l n, (if Nat.gcd (nv m) (nv a) ≠ 1 then l = [] ∧ n = 33 else n = 0 ∧ ∃ x, x < nv m ∧ x * nv a % nv m = 1 % nv m ∧ l = fm x) → InvR a m l n := fun l n h => by unfold InvR; rw [if_neg hno, if_neg (by omega)]; exact h
    have HR := Lib.hid hR; have HN := Lib.hid hno; have HB0 := Lib.hid hb0
    clear hno hb0 hR hnz
    obtain ⟨s0, hs0⟩ : ∃ s, vals[0]? = some s := ⟨_, List.getElem?_eq_getElem (by rw [hnums.len]; omega)⟩
    have hn0 : Num w1 s0.a s0.n s0.c (nv a) := by have h := hnums.num 0 s0 hs0; rw [H0.out] at h; exact h
    have hl0 : s0.n ≤ 128 := num_size hn0 (by have := HN.out; omega)
    have HV0 := Lib.hid (nv_lt a 128 (by have := HN.out; omega))
    have c0 : w1.cell? ⟨g, 0, none⟩ = some (.slice s0.a s0.n s0.c) := hcell 0 s0 hs0
    obtain ⟨s1, hs1⟩ : ∃ s, vals[1]? = some s := ⟨_, List.getElem?_eq_getElem (by rw [hnums.len]; omega)⟩
    have hn1 : Num w1 s1.a s1.n s1.c (nv m) := by have h := hnums.num 1 s1 hs1; rw [H1.out] at h; exact h
    have hl1 : s1.n ≤ 128 := num_size hn1 (by have := HN.out; omega)
    have HV1 := Lib.hid (nv_lt m 128 (by have := HN.out; omega))
    have c1 : w1.cell? ⟨g, 1, none⟩ = some (.slice s1.a s1.n s1.c) := hcell 1 s1 hs1
    clear hcell hnums h512
    by_cases hg : Nat.gcd (nv m) (nv a) = 1
    · have HG := Lib.hid hg; clear hg
      go_wp2_with fail
      go_region_with (first
        | (go_at_call 69; refine (ninv_any s0.a s1.a s0.n s0.c s1.n s1.c (nv a) (nv m) _ (hn0.drewN 1) (hn1.drewN 1) HB0.out (by omega) (by omega)).mono ?_; rintro e2 w2 h; have h := h.resolve_left (fun h => h.1 HG.out); obtain ⟨_, x, hxm, hxi, ro, rn, rc, rfl, hnum, hb2⟩ := h)
        | (go_at_call 59; refine (answered_ok ro rn rc _ _ hnum ?_).mono ?_; exact Nat.le_trans (num_len_le hnum (Nat.lt_of_lt_of_le hxm (Nat.le_of_lt HV1.out))) (by omega); rintro e3 w3 ⟨rfl, hb3⟩))
      all_goals
        go_wp2_with fail
        go_ret2
        exact ⟨⟨_, _, rfl, HR.out _ _ (by rw [if_neg (fun h => h HG.out)]; exact ⟨rfl, x, hxm, hxi, rfl⟩)⟩, ((hbel.trans ((below_drawn (Below.refl _ _) 1).mono hbel.size)).trans (hb2.mono hbel.size)).trans (hb3.mono (Nat.le_trans hbel.size hb2.size))⟩
    · have HG := Lib.hid hg; clear hg
      go_wp2_with fail
      go_region_with (first
        | (go_at_call 69; refine (ninv_any s0.a s1.a s0.n s0.c s1.n s1.c (nv a) (nv m) _ (hn0.drewN 1) (hn1.drewN 1) HB0.out (by omega) (by omega)).mono ?_; rintro e2 w2 h; have h := h.resolve_right (fun h => HG.out h.1); obtain ⟨_, rfl, hb2⟩ := h)
        | (go_at_call 59; refine (answeredNone _).mono ?_; rintro e3 w3 ⟨rfl, rfl⟩))
      all_goals
        go_wp2_with fail
        go_ret2
        exact ⟨⟨_, _, rfl, HR.out _ _ (by rw [if_pos HG.out]; exact ⟨rfl, rfl⟩)⟩, (hbel.trans ((below_drawn (Below.refl _ _) 1).mono hbel.size)).trans (hb2.mono hbel.size)⟩
end Go.Proofs.YtaggpodckafbgaaGreatDoor
