/- Mont: the walk. (Printed by gen_pub3.py.) -/
import Derived.Test.YtbmhiejggkdnkaaGreatDoorPow3
namespace Go.Proofs.YtbmhiejggkdnkaaGreatDoor
open Go.RowKit

/-- What Mont answers. -/
def MontR (a b m : ByteArray) (l : List UInt8) (n : Int) : Prop :=
  if 512 < a.size ∨ 512 < b.size ∨ 512 < m.size then l = [] ∧ n = 30 else if nv m = 0 then l = [] ∧ n = 31 else if nv m % 2 = 0 then l = [] ∧ n = 34 else n = 0 ∧ ∃ x, x < nv m ∧ x * 256 ^ Dg.len 256 (nv m) % nv m = nv a * nv b % nv m ∧ l = fm x

set_option maxRecDepth 100000 in
set_option maxHeartbeats 12800000 in
theorem Mont_any (a b m : ByteArray) (w : World) (ha : a.size ≤ 9223372036854775807) (hb : b.size ≤ 9223372036854775807) (hm : m.size ≤ 9223372036854775807) :
    Calls Tryz.prog 27 #[.string a, .string b, .string m] w fun e w' => (∃ l n, e = ret2 l n ∧ MontR a b m l n) ∧ Below w.heap.size w w' := by
  obtain ⟨sf, hsf⟩ : ∃ sf : Nat → ByteArray, sf = fun i => if i = 0 then a else if i = 1 then b else m := ⟨_, rfl⟩
  have h0 : sf 0 = a := by rw [hsf]; rfl
  have h1 : sf 1 = b := by rw [hsf]; rfl
  have h2 : sf 2 = m := by rw [hsf]; rfl
  have H0 := Lib.hid h0; have H1 := Lib.hid h1; have H2 := Lib.hid h2
  have hc : ∀ i, i < 3 → (w.alloc (.cells #[.string a, .string b, .string m] 9)).cell? ⟨w.heap.size, i, none⟩ = some (.string (sf i)) := fun i hi => by
    match i, hi with
    | 0, _ => rw [h0]; exact new_cells w _ _ 0 _ rfl
    | 1, _ => rw [h1]; exact new_cells w _ _ 1 _ rfl
    | 2, _ => rw [h2]; exact new_cells w _ _ 2 _ rfl
  have hs : ∀ i, i < 3 → (sf i).size ≤ 9223372036854775807 := fun i hi => by
    match i, hi with
    | 0, _ => rw [h0]; exact ha
    | 1, _ => rw [h1]; exact hb
    | 2, _ => rw [h2]; exact hm
  have HC := Lib.hid hc; have HS := Lib.hid hs
  clear hsf h0 h1 h2 hc hs
  go_enter Tryz.func27, Tryz.ntmps27
  go_wp2_with fail
  refine (taken_any true _ 3 sf _ (by omega) (by omega) HC.out HS.out).mono ?_
  rintro e0 w1 ⟨hb1, h⟩
  have hbel : Below w.heap.size w w1 := ((Below.refl _ _).alloc (Nat.le_refl _) _).trans (hb1.mono (by simp))
  rcases h with ⟨⟨i, hi, hlong⟩, rfl⟩ | ⟨h512, hf, hz, rfl⟩ | ⟨h512, hnz, g, cap, vals, rfl, hnums, hcell⟩
  · have hor : 512 < a.size ∨ 512 < b.size ∨ 512 < m.size := by
      match i, hi with
      | 0, _ => rw [H0.out] at hlong; exact Or.inl hlong
      | 1, _ => rw [H1.out] at hlong; exact Or.inr (Or.inl hlong)
      | 2, _ => rw [H2.out] at hlong; exact Or.inr (Or.inr hlong)
    have hR : MontR a b m [] 30 := by unfold MontR; rw [if_pos hor]; exact ⟨rfl, rfl⟩
    have HR := Lib.hid hR
    clear hor hR hlong
    unfold errLong
    go_wp2_with (go_at_call 25; refine (answeredLong _).mono ?_; rintro e2 w2 ⟨rfl, rfl⟩)
    go_ret2
    exact ⟨⟨_, _, rfl, HR.out⟩, hbel⟩
  · have hno : ¬ (512 < a.size ∨ 512 < b.size ∨ 512 < m.size) := by
      have g0 := h512 0 (by omega); rw [H0.out] at g0
      have g1 := h512 1 (by omega); rw [H1.out] at g1
      have g2 := h512 2 (by omega); rw [H2.out] at g2
      omega
    have hb0 : nv m = 0 := by rw [← H2.out]; exact hz
    have hR : MontR a b m [] 31 := by unfold MontR; rw [if_neg hno, if_pos hb0]; exact ⟨rfl, rfl⟩
    have HR := Lib.hid hR
    clear hno hb0 hR hz h512
    unfold errZero
    go_wp2_with (go_at_call 25; refine (answeredZero _).mono ?_; rintro e2 w2 ⟨rfl, rfl⟩)
    go_ret2
    exact ⟨⟨_, _, rfl, HR.out⟩, hbel⟩
  · have hno : ¬ (512 < a.size ∨ 512 < b.size ∨ 512 < m.size) := by
      have g0 := h512 0 (by omega); rw [H0.out] at g0
      have g1 := h512 1 (by omega); rw [H1.out] at g1
      have g2 := h512 2 (by omega); rw [H2.out] at g2
      omega
    have hb0 : 0 < nv m := by rw [← H2.out]; exact hnz rfl
    have hR : ∀ l n, (if nv m % 2 = 0 then l = [] ∧ n = 34 else n = 0 ∧ ∃ x, x < nv m ∧ x * 256 ^ Dg.len 256 (nv m) % nv m = nv a * nv b % nv m ∧ l = fm x) → MontR a b m l n := fun l n h => by unfold MontR; rw [if_neg hno, if_neg (by omega)]; exact h
    have HR := Lib.hid hR; have HN := Lib.hid hno; have HB0 := Lib.hid hb0
    clear hno hb0 hR hnz
    obtain ⟨s0, hs0⟩ : ∃ s, vals[0]? = some s := ⟨_, List.getElem?_eq_getElem (by rw [hnums.len]; omega)⟩
    have hn0 : Num w1 s0.a s0.n s0.c (nv a) := by have h := hnums.num 0 s0 hs0; rw [H0.out] at h; exact h
    have hl0 : s0.n ≤ 128 := num_size hn0 (by have := HN.out; omega)
    have HV0 := Lib.hid (nv_lt a 128 (by have := HN.out; omega))
    have c0 : w1.cell? ⟨g, 0, none⟩ = some (.slice s0.a s0.n s0.c) := hcell 0 s0 hs0
    obtain ⟨s1, hs1⟩ : ∃ s, vals[1]? = some s := ⟨_, List.getElem?_eq_getElem (by rw [hnums.len]; omega)⟩
    have hn1 : Num w1 s1.a s1.n s1.c (nv b) := by have h := hnums.num 1 s1 hs1; rw [H1.out] at h; exact h
    have hl1 : s1.n ≤ 128 := num_size hn1 (by have := HN.out; omega)
    have HV1 := Lib.hid (nv_lt b 128 (by have := HN.out; omega))
    have c1 : w1.cell? ⟨g, 1, none⟩ = some (.slice s1.a s1.n s1.c) := hcell 1 s1 hs1
    obtain ⟨s2, hs2⟩ : ∃ s, vals[2]? = some s := ⟨_, List.getElem?_eq_getElem (by rw [hnums.len]; omega)⟩
    have hn2 : Num w1 s2.a s2.n s2.c (nv m) := by have h := hnums.num 2 s2 hs2; rw [H2.out] at h; exact h
    have hl2 : s2.n ≤ 128 := num_size hn2 (by have := HN.out; omega)
    have HV2 := Lib.hid (nv_lt m 128 (by have := HN.out; omega))
    have c2 : w1.cell? ⟨g, 2, none⟩ = some (.slice s2.a s2.n s2.c) := hcell 2 s2 hs2
    clear hcell hnums h512
    by_cases hg : nv m % 2 = 0
    · have HG := Lib.hid hg; clear hg
      go_wp2_with fail
      go_region_with (first
        | (go_at_call 49; refine (mont_even s0.a s1.a s2.a s0.n s0.c s1.n s1.c s2.n s2.c (nv m) _ (hn2.drewN 1) HB0.out HG.out).mono ?_; rintro e2 w2 ⟨rfl, hb2⟩)
        | (go_at_call 25; refine (answeredEven _).mono ?_; rintro e3 w3 ⟨rfl, rfl⟩))
      all_goals
        go_wp2_with fail
        go_ret2
        exact ⟨⟨_, _, rfl, HR.out _ _ (by rw [if_pos HG.out]; exact ⟨rfl, rfl⟩)⟩, (hbel.trans ((below_drawn (Below.refl _ _) 1).mono hbel.size)).trans (hb2.mono hbel.size)⟩
    · have HG := Lib.hid hg; clear hg
      go_wp2_with fail
      go_region_with (first
        | (go_at_call 49; refine (mont_odd s0.a s1.a s2.a s0.n s0.c s1.n s1.c s2.n s2.c (nv a) (nv b) (nv m) _ (hn0.drewN 1) (hn1.drewN 1) (hn2.drewN 1) (by have := HG.out; omega) (by omega) (by omega) (by omega)).mono ?_; rintro e2 w2 ⟨x, hxm, hxi, ro, rn, rc, rfl, hnum, hb2⟩)
        | (go_at_call 25; refine (answered_ok ro rn rc _ _ hnum ?_).mono ?_; exact Nat.le_trans (num_len_le hnum (Nat.lt_of_lt_of_le hxm (Nat.le_of_lt HV2.out))) (by omega); rintro e3 w3 ⟨rfl, hb3⟩))
      all_goals
        go_wp2_with fail
        go_ret2
        exact ⟨⟨_, _, rfl, HR.out _ _ (by rw [if_neg HG.out]; exact ⟨rfl, x, hxm, hxi, rfl⟩)⟩, ((hbel.trans ((below_drawn (Below.refl _ _) 1).mono hbel.size)).trans (hb2.mono hbel.size)).trans (hb3.mono (Nat.le_trans hbel.size hb2.size))⟩
end Go.Proofs.YtbmhiejggkdnkaaGreatDoor
