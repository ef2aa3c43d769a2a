/- Add, Sub, Mul, Div: the walks. -/
import Derived.Test.YtbmhiejggkdnkaaGreatDoorTaken
namespace Go.Proofs.YtbmhiejggkdnkaaGreatDoor
open Go.RowKit

/-- A string's number. -/
def nv (s : ByteArray) : Nat := bv s.data.toList
/-- Two results: a text and an error's number. -/
def ret2 (l : List UInt8) (n : Int) : Ending := .returned (.tuple #[.string ⟨l.toArray⟩, .int .i64 n])

theorem nv_lt (s : ByteArray) (k : Nat) (h : s.size ≤ 4 * k) : nv s < LB ^ k := by
  rw [show LB = 256 ^ 4 from rfl, ← Nat.pow_mul]
  refine Nat.lt_of_lt_of_le (bv_lt _) (Nat.pow_le_pow_right (by omega) ?_)
  have : s.data.toList.length = s.size := by simp
  omega
theorem num_len_le {w : World} {ao : Option Addr} {n c v k : Nat} (h : Num w ao n c v) (hv : v < LB ^ k) : n ≤ k := by
  rw [h.len]; exact (Dg.len_le_iff LB2 v k).2 hv
theorem num_size {w : World} {ao : Option Addr} {n c : Nat} {s : ByteArray} (h : Num w ao n c (bv s.data.toList)) (hs : s.size ≤ 512) : n ≤ 128 :=
  num_len_le h (nv_lt s 128 hs)

theorem two_cells (w : World) (x y : Value) (e : TypeId) (b : Nat) (hb : b = w.heap.size) : (w.alloc (.cells #[x, y] e)).cell? ⟨b, 0, none⟩ = some x ∧ (w.alloc (.cells #[x, y] e)).cell? ⟨b, 1, none⟩ = some y := by
  subst hb
  have h := new_cells w #[x, y] e
  exact ⟨h 0 x rfl, h 1 y rfl⟩


theorem sum_lt {a b : Nat} (ha : a < LB ^ 128) (hb : b < LB ^ 128) : a + b < LB ^ 200 := by
  have h : LB ^ 128 * 2 ≤ LB ^ 200 := by
    have h1 : LB ^ 128 * LB ^ 72 = LB ^ 200 := by rw [← Nat.pow_add]
    rw [← h1]
    refine Nat.mul_le_mul_left _ ?_
    have h2 : LB ^ 1 ≤ LB ^ 72 := Nat.pow_le_pow_right LBpos (by omega)
    rw [Nat.pow_one] at h2
    exact Nat.le_trans LB2 h2
  omega
theorem prod_lt {a b : Nat} (ha : a < LB ^ 128) (hb : b < LB ^ 128) : a * b < LB ^ 256 := by
  have h1 : LB ^ 128 * LB ^ 128 = LB ^ 256 := by rw [← Nat.pow_add]
  rw [← h1]
  exact Nat.mul_lt_mul'' ha hb

/-- What Add answers. -/
def addR (a b : ByteArray) : List UInt8 × Int := if 512 < a.size ∨ 512 < b.size then ([], 30) else (fm (nv a + nv b), 0)

set_option maxRecDepth 100000 in
set_option maxHeartbeats 1600000 in
theorem Add_any (a b : ByteArray) (w : World) (ha : a.size ≤ 9223372036854775807) (hb : b.size ≤ 9223372036854775807) :
    Calls Tryz.prog 16 #[.string a, .string b] w fun e w' => e = ret2 (addR a b).1 (addR a b).2 ∧ Below w.heap.size w w' := by
  obtain ⟨sf, hsf⟩ : ∃ sf : Nat → ByteArray, sf = fun i => if i = 0 then a else b := ⟨_, rfl⟩
  have h0 : sf 0 = a := by rw [hsf]; rfl
  have h1 : sf 1 = b := by rw [hsf]; rfl
  have H0 := Lib.hid h0; have H1 := Lib.hid h1
  obtain ⟨c0, c1⟩ := two_cells w (.string a) (.string b) 9 w.heap.size rfl
  have hc : ∀ i, i < 2 → (w.alloc (.cells #[.string a, .string b] 9)).cell? ⟨w.heap.size, i, none⟩ = some (.string (sf i)) := fun i hi => by
    match i, hi with
    | 0, _ => rw [h0]; exact c0
    | 1, _ => rw [h1]; exact c1
  have hs : ∀ i, i < 2 → (sf i).size ≤ 9223372036854775807 := fun i hi => by
    match i, hi with
    | 0, _ => rw [h0]; exact ha
    | 1, _ => rw [h1]; exact hb
  have HC := Lib.hid hc; have HS := Lib.hid hs
  clear hsf h0 h1 c0 c1 hc hs
  go_enter Tryz.func16, Tryz.ntmps16
  go_wp2_with fail
  refine (taken_any false _ 2 sf _ (by omega) (by omega) HC.out HS.out).mono ?_
  rintro e w1 ⟨hb1, h⟩
  have hbel : Below w.heap.size w w1 := ((Below.refl _ _).alloc (Nat.le_refl _) _).trans (hb1.mono (by simp))
  rcases h with ⟨⟨i, hi, hlong⟩, rfl⟩ | ⟨h512, hf, hz, rfl⟩ | ⟨h512, hnz, g, cap, vals, rfl, hnums, hcell⟩
  · have hor : 512 < a.size ∨ 512 < b.size := by
      match i, hi with
      | 0, _ => left; rw [← H0.out]; exact hlong
      | 1, _ => right; rw [← H1.out]; exact hlong
    have hR : addR a b = ([], 30) := by unfold addR; rw [if_pos hor]
    have HR := Lib.hid hR
    clear hor hR hlong
    unfold errLong
    go_wp2_with (go_at_call 25; refine (answeredLong _).mono ?_; rintro e w2 ⟨rfl, rfl⟩)
    go_ret2
    exact ⟨by rw [HR.out]; rfl, hbel⟩
  · simp at hf
  · have hno : ¬ (512 < a.size ∨ 512 < b.size) := by
      have g0 := h512 0 (by omega); have g1 := h512 1 (by omega)
      rw [H0.out] at g0; rw [H1.out] at g1
      omega
    have HN := Lib.hid hno
    clear hno
    obtain ⟨s0, hs0⟩ : ∃ s, vals[0]? = some s := ⟨_, List.getElem?_eq_getElem (by rw [hnums.len]; omega)⟩
    obtain ⟨s1, hs1⟩ : ∃ s, vals[1]? = some s := ⟨_, List.getElem?_eq_getElem (by rw [hnums.len]; omega)⟩
    have hn0 : Num w1 s0.a s0.n s0.c (nv a) := by have h := hnums.num 0 s0 hs0; rw [H0.out] at h; exact h
    have hn1 : Num w1 s1.a s1.n s1.c (nv b) := by have h := hnums.num 1 s1 hs1; rw [H1.out] at h; exact h
    have hl0 : s0.n ≤ 128 := num_size hn0 (by have := HN.out; omega)
    have hl1 : s1.n ≤ 128 := num_size hn1 (by have := HN.out; omega)
    have hv0 : nv a < LB ^ 128 := nv_lt a 128 (by have := HN.out; omega)
    have hv1 : nv b < LB ^ 128 := nv_lt b 128 (by have := HN.out; omega)
    have HV0 := Lib.hid hv0; have HV1 := Lib.hid hv1
    have c0 : w1.cell? ⟨g, 0, none⟩ = some (.slice s0.a s0.n s0.c) := hcell 0 s0 hs0
    have c1 : w1.cell? ⟨g, 1, none⟩ = some (.slice s1.a s1.n s1.c) := hcell 1 s1 hs1
    clear hcell hnums h512 hv0 hv1
    have hR : addR a b = (fm (nv a + nv b), 0) := by unfold addR; rw [if_neg HN.out]
    have HR := Lib.hid hR
    clear hR
    go_wp2_with fail
    go_region_with (first
      | (go_at_call 35; refine (add_any s0.a s1.a s0.n s0.c s1.n s1.c (nv a) (nv b) _ (hn0.drewN 1) (hn1.drewN 1) (by omega) (by omega)).mono ?_; rintro e w2 ⟨ro, rn, rc, rfl, hnum, hb2⟩)
      | (go_at_call 25; refine (answered_ok ro rn rc _ _ hnum ?_).mono ?_; exact Nat.le_trans (num_len_le hnum (sum_lt HV0.out HV1.out)) (by omega); rintro e w3 ⟨rfl, hb3⟩))
    all_goals
      go_wp2_with fail
      go_ret2
      exact ⟨by rw [HR.out]; rfl, ((hbel.trans ((below_drawn (Below.refl _ _) 1).mono hbel.size)).trans (hb2.mono hbel.size)).trans (hb3.mono (Nat.le_trans hbel.size hb2.size))⟩


/-- What Mul answers. -/
def mulR (a b : ByteArray) : List UInt8 × Int := if 512 < a.size ∨ 512 < b.size then ([], 30) else (fm (nv a * nv b), 0)

set_option maxRecDepth 100000 in
set_option maxHeartbeats 1600000 in
theorem Mul_any (a b : ByteArray) (w : World) (ha : a.size ≤ 9223372036854775807) (hb : b.size ≤ 9223372036854775807) :
    Calls Tryz.prog 18 #[.string a, .string b] w fun e w' => e = ret2 (mulR a b).1 (mulR a b).2 ∧ Below w.heap.size w w' := by
  obtain ⟨sf, hsf⟩ : ∃ sf : Nat → ByteArray, sf = fun i => if i = 0 then a else b := ⟨_, rfl⟩
  have h0 : sf 0 = a := by rw [hsf]; rfl
  have h1 : sf 1 = b := by rw [hsf]; rfl
  have H0 := Lib.hid h0; have H1 := Lib.hid h1
  obtain ⟨c0, c1⟩ := two_cells w (.string a) (.string b) 9 w.heap.size rfl
  have hc : ∀ i, i < 2 → (w.alloc (.cells #[.string a, .string b] 9)).cell? ⟨w.heap.size, i, none⟩ = some (.string (sf i)) := fun i hi => by
    match i, hi with
    | 0, _ => rw [h0]; exact c0
    | 1, _ => rw [h1]; exact c1
  have hs : ∀ i, i < 2 → (sf i).size ≤ 9223372036854775807 := fun i hi => by
    match i, hi with
    | 0, _ => rw [h0]; exact ha
    | 1, _ => rw [h1]; exact hb
  have HC := Lib.hid hc; have HS := Lib.hid hs
  clear hsf h0 h1 c0 c1 hc hs
  go_enter Tryz.func18, Tryz.ntmps18
  go_wp2_with fail
  refine (taken_any false _ 2 sf _ (by omega) (by omega) HC.out HS.out).mono ?_
  rintro e w1 ⟨hb1, h⟩
  have hbel : Below w.heap.size w w1 := ((Below.refl _ _).alloc (Nat.le_refl _) _).trans (hb1.mono (by simp))
  rcases h with ⟨⟨i, hi, hlong⟩, rfl⟩ | ⟨h512, hf, hz, rfl⟩ | ⟨h512, hnz, g, cap, vals, rfl, hnums, hcell⟩
  · have hor : 512 < a.size ∨ 512 < b.size := by
      match i, hi with
      | 0, _ => left; rw [← H0.out]; exact hlong
      | 1, _ => right; rw [← H1.out]; exact hlong
    have hR : mulR a b = ([], 30) := by unfold mulR; rw [if_pos hor]
    have HR := Lib.hid hR
    clear hor hR hlong
    unfold errLong
    go_wp2_with (go_at_call 25; refine (answeredLong _).mono ?_; rintro e w2 ⟨rfl, rfl⟩)
    go_ret2
    exact ⟨by rw [HR.out]; rfl, hbel⟩
  · simp at hf
  · have hno : ¬ (512 < a.size ∨ 512 < b.size) := by
      have g0 := h512 0 (by omega); have g1 := h512 1 (by omega)
      rw [H0.out] at g0; rw [H1.out] at g1
      omega
    have HN := Lib.hid hno
    clear hno
    obtain ⟨s0, hs0⟩ : ∃ s, vals[0]? = some s := ⟨_, List.getElem?_eq_getElem (by rw [hnums.len]; omega)⟩
    obtain ⟨s1, hs1⟩ : ∃ s, vals[1]? = some s := ⟨_, List.getElem?_eq_getElem (by rw [hnums.len]; omega)⟩
    have hn0 : Num w1 s0.a s0.n s0.c (nv a) := by have h := hnums.num 0 s0 hs0; rw [H0.out] at h; exact h
    have hn1 : Num w1 s1.a s1.n s1.c (nv b) := by have h := hnums.num 1 s1 hs1; rw [H1.out] at h; exact h
    have hl0 : s0.n ≤ 128 := num_size hn0 (by have := HN.out; omega)
    have hl1 : s1.n ≤ 128 := num_size hn1 (by have := HN.out; omega)
    have hv0 : nv a < LB ^ 128 := nv_lt a 128 (by have := HN.out; omega)
    have hv1 : nv b < LB ^ 128 := nv_lt b 128 (by have := HN.out; omega)
    have HV0 := Lib.hid hv0; have HV1 := Lib.hid hv1
    have c0 : w1.cell? ⟨g, 0, none⟩ = some (.slice s0.a s0.n s0.c) := hcell 0 s0 hs0
    have c1 : w1.cell? ⟨g, 1, none⟩ = some (.slice s1.a s1.n s1.c) := hcell 1 s1 hs1
    clear hcell hnums h512 hv0 hv1
    have hR : mulR a b = (fm (nv a * nv b), 0) := by unfold mulR; rw [if_neg HN.out]
    have HR := Lib.hid hR
    clear hR
    go_wp2_with fail
    go_region_with (first
      | (go_at_call 37; refine (mul_any s0.a s1.a s0.n s0.c s1.n s1.c (nv a) (nv b) _ (hn0.drewN 1) (hn1.drewN 1) (by omega) (by omega)).mono ?_; rintro e w2 ⟨ro, rn, rc, rfl, hnum, hb2⟩)
      | (go_at_call 25; refine (answered_ok ro rn rc _ _ hnum ?_).mono ?_; exact Nat.le_trans (num_len_le hnum (prod_lt HV0.out HV1.out)) (by omega); rintro e w3 ⟨rfl, hb3⟩))
    all_goals
      go_wp2_with fail
      go_ret2
      exact ⟨by rw [HR.out]; rfl, ((hbel.trans ((below_drawn (Below.refl _ _) 1).mono hbel.size)).trans (hb2.mono hbel.size)).trans (hb3.mono (Nat.le_trans hbel.size hb2.size))⟩

end Go.Proofs.YtbmhiejggkdnkaaGreatDoor
