/- PowPub LawKit LawKit2 SPlain, in one text. -/
import Derived.Test.YtjkjlbchbbpmaaaGreatDoorZN4
import Derived.Test.YtjkjlbchbbpmaaaGreatDoorZN5
/- Pow: the walk. (Printed by gen_pub3.py.) -/
namespace Go.Proofs.YtjkjlbchbbpmaaaGreatDoor
open Go.RowKit

/-- What Pow answers. -/
def PowR (a p m : ByteArray) (l : List UInt8) (n : Int) : Prop :=
  if 512 < a.size ∨ 512 < p.size ∨ 512 < m.size then l = [] ∧ n = 30 else if nv m = 0 then l = [] ∧ n = 31 else n = 0 ∧ l = fm (nv a ^ nv p % nv m)

set_option maxRecDepth 100000 in
set_option maxHeartbeats 12800000 in
theorem Pow_any (a p m : ByteArray) (w : World) (ha : a.size ≤ 9223372036854775807) (hp : p.size ≤ 9223372036854775807) (hm : m.size ≤ 9223372036854775807) :
    Calls Tryz.prog 33 #[.string a, .string p, .string m] w fun e w' => (∃ l n, e = ret2 l n ∧ PowR a p m l n) ∧ Below w.heap.size w w' := by
  obtain ⟨sf, hsf⟩ : ∃ sf : Nat → ByteArray, sf = fun i => if i = 0 then a else if i = 1 then p else m := ⟨_, rfl⟩
  have h0 : sf 0 = a := by rw [hsf]; rfl
  have h1 : sf 1 = p := by rw [hsf]; rfl
  have h2 : sf 2 = m := by rw [hsf]; rfl
  have H0 := Lib.hid h0; have H1 := Lib.hid h1; have H2 := Lib.hid h2
  have hc : ∀ i, i < 3 → (w.alloc (.cells #[.string a, .string p, .string m] 9)).cell? ⟨w.heap.size, i, none⟩ = some (.string (sf i)) := fun i hi => by
    match i, hi with
    | 0, _ => rw [h0]; exact new_cells w _ _ 0 _ rfl
    | 1, _ => rw [h1]; exact new_cells w _ _ 1 _ rfl
    | 2, _ => rw [h2]; exact new_cells w _ _ 2 _ rfl
  have hs : ∀ i, i < 3 → (sf i).size ≤ 9223372036854775807 := fun i hi => by
    match i, hi with
    | 0, _ => rw [h0]; exact ha
    | 1, _ => rw [h1]; exact hp
    | 2, _ => rw [h2]; exact hm
  have HC := Lib.hid hc; have HS := Lib.hid hs
  clear hsf h0 h1 h2 hc hs
  go_enter Tryz.func33, Tryz.ntmps33
  go_wp2_with fail
  refine (taken_any true _ 3 sf _ (by omega) (by omega) HC.out HS.out).mono ?_
  rintro e0 w1 ⟨hb1, h⟩
  have hbel : Below w.heap.size w w1 := ((Below.refl _ _).alloc (Nat.le_refl _) _).trans (hb1.mono (by simp))
  rcases h with ⟨⟨i, hi, hlong⟩, rfl⟩ | ⟨h512, hf, hz, rfl⟩ | ⟨h512, hnz, g, cap, vals, rfl, hnums, hcell⟩
  · have hor : 512 < a.size ∨ 512 < p.size ∨ 512 < m.size := by
      match i, hi with
      | 0, _ => rw [H0.out] at hlong; exact Or.inl hlong
      | 1, _ => rw [H1.out] at hlong; exact Or.inr (Or.inl hlong)
      | 2, _ => rw [H2.out] at hlong; exact Or.inr (Or.inr hlong)
    have hR : PowR a p m [] 30 := by unfold PowR; rw [if_pos hor]; exact ⟨rfl, rfl⟩
    have HR := Lib.hid hR
    clear hor hR hlong
    unfold errLong
    go_wp2_with (go_at_call 56; refine (answeredLong _).mono ?_; rintro e2 w2 ⟨rfl, rfl⟩)
    go_ret2
    exact ⟨⟨_, _, rfl, HR.out⟩, hbel⟩
  · have hno : ¬ (512 < a.size ∨ 512 < p.size ∨ 512 < m.size) := by
      have g0 := h512 0 (by omega); rw [H0.out] at g0
      have g1 := h512 1 (by omega); rw [H1.out] at g1
      have g2 := h512 2 (by omega); rw [H2.out] at g2
      omega
    have hb0 : nv m = 0 := by rw [← H2.out]; exact hz
    have hR : PowR a p m [] 31 := by unfold PowR; rw [if_neg hno, if_pos hb0]; exact ⟨rfl, rfl⟩
    have HR := Lib.hid hR
    clear hno hb0 hR hz h512
    unfold errZero
    go_wp2_with (go_at_call 56; refine (answeredZero _).mono ?_; rintro e2 w2 ⟨rfl, rfl⟩)
    go_ret2
    exact ⟨⟨_, _, rfl, HR.out⟩, hbel⟩
  · have hno : ¬ (512 < a.size ∨ 512 < p.size ∨ 512 < m.size) := by
      have g0 := h512 0 (by omega); rw [H0.out] at g0
      have g1 := h512 1 (by omega); rw [H1.out] at g1
      have g2 := h512 2 (by omega); rw [H2.out] at g2
      omega
    have hb0 : 0 < nv m := by rw [← H2.out]; exact hnz rfl
    have hR : ∀ l n, (n = 0 ∧ l = fm (nv a ^ nv p % nv m)) → PowR a p m l n := fun l n h => by unfold PowR; rw [if_neg hno, if_neg (by omega)]; exact h
    have HR := Lib.hid hR; have HN := Lib.hid hno; have HB0 := Lib.hid hb0
    clear hno hb0 hR hnz
    obtain ⟨s0, hs0⟩ : ∃ s, vals[0]? = some s := ⟨_, List.getElem?_eq_getElem (by rw [hnums.len]; omega)⟩
    have hn0 : Num w1 s0.a s0.n s0.c (nv a) := by have h := hnums.num 0 s0 hs0; rw [H0.out] at h; exact h
    have hl0 : s0.n ≤ 128 := num_size hn0 (by have := HN.out; omega)
    have HV0 := Lib.hid (nv_lt a 128 (by have := HN.out; omega))
    have c0 : w1.cell? ⟨g, 0, none⟩ = some (.slice s0.a s0.n s0.c) := hcell 0 s0 hs0
    obtain ⟨s1, hs1⟩ : ∃ s, vals[1]? = some s := ⟨_, List.getElem?_eq_getElem (by rw [hnums.len]; omega)⟩
    have hn1 : Num w1 s1.a s1.n s1.c (nv p) := by have h := hnums.num 1 s1 hs1; rw [H1.out] at h; exact h
    have hl1 : s1.n ≤ 128 := num_size hn1 (by have := HN.out; omega)
    have HV1 := Lib.hid (nv_lt p 128 (by have := HN.out; omega))
    have c1 : w1.cell? ⟨g, 1, none⟩ = some (.slice s1.a s1.n s1.c) := hcell 1 s1 hs1
    obtain ⟨s2, hs2⟩ : ∃ s, vals[2]? = some s := ⟨_, List.getElem?_eq_getElem (by rw [hnums.len]; omega)⟩
    have hn2 : Num w1 s2.a s2.n s2.c (nv m) := by have h := hnums.num 2 s2 hs2; rw [H2.out] at h; exact h
    have hl2 : s2.n ≤ 128 := num_size hn2 (by have := HN.out; omega)
    have HV2 := Lib.hid (nv_lt m 128 (by have := HN.out; omega))
    have c2 : w1.cell? ⟨g, 2, none⟩ = some (.slice s2.a s2.n s2.c) := hcell 2 s2 hs2
    clear hcell hnums h512
    go_wp2_with fail
    go_region_with (first
      | (go_at_call 57; refine (pow_any s0.a s1.a s2.a s0.n s0.c s1.n s1.c s2.n s2.c (nv a) (nv p) (nv m) _ (hn0.drewN 1) (hn1.drewN 1) (hn2.drewN 1) HB0.out (by omega) (by omega) (by omega)).mono ?_; rintro e2 w2 ⟨ro, rn, rc, rfl, hnum, hb2⟩; have hxm := Nat.mod_lt (nv a ^ nv p) HB0.out)
      | (go_at_call 56; refine (answered_ok ro rn rc _ _ hnum ?_).mono ?_; exact Nat.le_trans (num_len_le hnum (Nat.lt_of_lt_of_le hxm (Nat.le_of_lt HV2.out))) (by omega); rintro e3 w3 ⟨rfl, hb3⟩))
    all_goals
      go_wp2_with fail
      go_ret2
      exact ⟨⟨_, _, rfl, HR.out _ _ ⟨rfl, rfl⟩⟩, ((hbel.trans ((below_drawn (Below.refl _ _) 1).mono hbel.size)).trans (hb2.mono hbel.size)).trans (hb3.mono (Nat.le_trans hbel.size hb2.size))⟩
end Go.Proofs.YtjkjlbchbbpmaaaGreatDoor
/- What the laws take: the exported functions at numbers that are not too long. -/
namespace Go.Proofs.YtjkjlbchbbpmaaaGreatDoor
open Go.RowKit

/-- A number's text. -/
def tx (v : Nat) : ByteArray := ⟨(fm v).toArray⟩
theorem nv_tx (v : Nat) : nv (tx v) = v := bv_fm v
theorem tx_size (v : Nat) : (tx v).size = Dg.len 256 v := by unfold tx; rw [str_size, fm_length]
theorem tx_le {v k : Nat} (h : v < 256 ^ k) : (tx v).size ≤ k := by rw [tx_size]; exact (Dg.len_le_iff (by omega) v k).2 h
theorem nv_size (a : ByteArray) : nv a < 256 ^ a.size := by
  have h := bv_lt a.data.toList
  have e : a.data.toList.length = a.size := by simp
  rw [e] at h; exact h
theorem tx_inj {u v : Nat} (h : tx u = tx v) : u = v := by rw [← nv_tx u, h, nv_tx]

/-- A text and OK. -/
def okT (v : Nat) : Ending := .returned (.tuple #[.string (tx v), .int .i64 0])
/-- No text, and an error's number. -/
def noT (n : Int) : Ending := .returned (.tuple #[.string ⟨#[]⟩, .int .i64 n])

theorem add_ok (a b : ByteArray) (A B : Nat) (w : World) (ha : a.size ≤ 512) (hb : b.size ≤ 512) (hA : nv a = A) (hB : nv b = B) :
    Calls Tryz.prog 45 #[.string a, .string b] w fun e w' => e = okT (A + B) ∧ Below w.heap.size w w' := by
  refine (Add_any a b w (by omega) (by omega)).mono ?_
  rintro e w' ⟨rfl, hb⟩
  refine ⟨?_, hb⟩
  have : addR a b = (fm (A + B), 0) := by unfold addR; rw [if_neg (by omega), hA, hB]
  rw [this]; rfl
theorem mul_ok (a b : ByteArray) (A B : Nat) (w : World) (ha : a.size ≤ 512) (hb : b.size ≤ 512) (hA : nv a = A) (hB : nv b = B) :
    Calls Tryz.prog 47 #[.string a, .string b] w fun e w' => e = okT (A * B) ∧ Below w.heap.size w w' := by
  refine (Mul_any a b w (by omega) (by omega)).mono ?_
  rintro e w' ⟨rfl, hb⟩
  refine ⟨?_, hb⟩
  have : mulR a b = (fm (A * B), 0) := by unfold mulR; rw [if_neg (by omega), hA, hB]
  rw [this]; rfl
theorem sub_ok (a b : ByteArray) (A B : Nat) (w : World) (ha : a.size ≤ 512) (hb : b.size ≤ 512) (hA : nv a = A) (hB : nv b = B) (h : B ≤ A) :
    Calls Tryz.prog 46 #[.string a, .string b] w fun e w' => e = okT (A - B) ∧ Below w.heap.size w w' := by
  refine (Sub_any a b w (by omega) (by omega)).mono ?_
  rintro e w' ⟨rfl, hb⟩
  refine ⟨?_, hb⟩
  have : subR a b = (fm (A - B), 0) := by unfold subR; rw [if_neg (by omega), hA, hB, if_neg (by omega)]
  rw [this]; rfl
theorem sub_no (a b : ByteArray) (A B : Nat) (w : World) (ha : a.size ≤ 512) (hb : b.size ≤ 512) (hA : nv a = A) (hB : nv b = B) (h : A < B) :
    Calls Tryz.prog 46 #[.string a, .string b] w fun e w' => e = noT 32 ∧ Below w.heap.size w w' := by
  refine (Sub_any a b w (by omega) (by omega)).mono ?_
  rintro e w' ⟨rfl, hb⟩
  refine ⟨?_, hb⟩
  have : subR a b = ([], 32) := by unfold subR; rw [if_neg (by omega), hA, hB, if_pos h]
  rw [this]; rfl
theorem div_ok (a b : ByteArray) (A B : Nat) (w : World) (ha : a.size ≤ 512) (hb : b.size ≤ 512) (hA : nv a = A) (hB : nv b = B) (h : 0 < B) :
    Calls Tryz.prog 19 #[.string a, .string b] w fun e w' => e = .returned (.tuple #[.string (tx (A / B)), .string (tx (A % B)), .int .i64 0]) ∧ Below w.heap.size w w' := by
  refine (Div_any a b w (by omega) (by omega)).mono ?_
  rintro e w' ⟨rfl, hb⟩
  refine ⟨?_, hb⟩
  have : divR a b = (fm (A / B), fm (A % B), 0) := by unfold divR; rw [if_neg (by omega), hA, hB, if_neg (by omega)]
  rw [this]; rfl
theorem div_no (a b : ByteArray) (w : World) (ha : a.size ≤ 512) (hb : b.size ≤ 512) (hB : nv b = 0) :
    Calls Tryz.prog 19 #[.string a, .string b] w fun e w' => e = .returned (.tuple #[.string ⟨#[]⟩, .string ⟨#[]⟩, .int .i64 31]) ∧ Below w.heap.size w w' := by
  refine (Div_any a b w (by omega) (by omega)).mono ?_
  rintro e w' ⟨rfl, hb⟩
  refine ⟨?_, hb⟩
  have : divR a b = ([], [], 31) := by unfold divR; rw [if_neg (by omega), if_pos hB]
  rw [this]; rfl
theorem trim_ok (a : ByteArray) (A : Nat) (w : World) (hA : nv a = A) :
    Calls Tryz.prog 44 #[.string a] w fun e w' => e = .returned (.string (tx A)) ∧ w = w' := by
  have h := Trim_any a w
  rw [show bv a.data.toList = A from hA] at h
  exact h
theorem cmp_ok (a b : ByteArray) (A B : Nat) (w : World) (hA : nv a = A) (hB : nv b = B) :
    Calls Tryz.prog 32 #[.string a, .string b] w fun e w' => e = .returned (.int .i64 (cmpN A B)) ∧ ∃ q, w' = w.drewN q := by
  have h := Cmp_any a b w
  rw [hA, hB] at h
  exact h
theorem pow_ok (a p m : ByteArray) (A P M : Nat) (w : World) (ha : a.size ≤ 512) (hp : p.size ≤ 512) (hm : m.size ≤ 512) (hA : nv a = A) (hP : nv p = P) (hM : nv m = M) (h : 0 < M) :
    Calls Tryz.prog 33 #[.string a, .string p, .string m] w fun e w' => e = okT (A ^ P % M) ∧ Below w.heap.size w w' := by
  refine (Pow_any a p m w (by omega) (by omega) (by omega)).mono ?_
  rintro e w' ⟨⟨l, n, rfl, hr⟩, hb⟩
  refine ⟨?_, hb⟩
  unfold PowR at hr
  rw [if_neg (by omega), hA, hP, hM, if_neg (by omega)] at hr
  obtain ⟨rfl, rfl⟩ := hr
  rfl
end Go.Proofs.YtjkjlbchbbpmaaaGreatDoor
/- What the laws take, more. -/
namespace Go.Proofs.YtjkjlbchbbpmaaaGreatDoor
open Go.RowKit

theorem pow_mono {j k : Nat} (h : j ≤ k) : 256 ^ j ≤ 256 ^ k := Nat.pow_le_pow_right (by omega) h
theorem tx_mul {A B j k n : Nat} (hA : A < 256 ^ j) (hB : B < 256 ^ k) (h : j + k ≤ n) : (tx (A * B)).size ≤ n := by
  refine tx_le (Nat.lt_of_lt_of_le (Nat.mul_lt_mul'' hA hB) ?_)
  rw [← Nat.pow_add]; exact pow_mono h
theorem tx_add {A B j k n : Nat} (hA : A < 256 ^ j) (hB : B < 256 ^ k) (hj : j < n) (hk : k < n) : (tx (A + B)).size ≤ n := by
  obtain ⟨t, rfl⟩ : ∃ t, n = t + 1 := ⟨n - 1, by omega⟩
  refine tx_le ?_
  have h1 := Nat.lt_of_lt_of_le hA (pow_mono (show j ≤ t by omega))
  have h2 := Nat.lt_of_lt_of_le hB (pow_mono (show k ≤ t by omega))
  rw [Nat.pow_succ]; omega
theorem tx_zero : tx 0 = ⟨#[]⟩ := by unfold tx; rw [fm_zero]
theorem str_ne {a b : ByteArray} (h : a ≠ b) : (a.toList == b.toList) = false := by
  rw [beq_eq_false_iff_ne, Lib.toList_data, Lib.toList_data]
  intro he
  exact h (ByteArray.ext (Array.toList_inj.1 he))
theorem tx_ne {A B : Nat} (h : A ≠ B) : ((tx A).toList == (tx B).toList) = false := str_ne fun he => h (tx_inj he)
theorem tx_pos {v : Nat} (h : 0 < v) : (tx v).toList.isEmpty = false := by
  rw [Lib.toList_data]
  show (fm v).isEmpty = false
  obtain ⟨x, r, hf, _⟩ := top_bits v h
  rw [hf]; rfl
theorem cmpN_three (A B : Nat) : (A < B ∧ cmpN A B = -1) ∨ (A = B ∧ cmpN A B = 0) ∨ (B < A ∧ cmpN A B = 1) := by
  rcases Nat.lt_trichotomy A B with h | h | h
  · exact Or.inl ⟨h, cmpN_lt h⟩
  · subst h; exact Or.inr (Or.inl ⟨rfl, cmpN_eq _⟩)
  · exact Or.inr (Or.inr ⟨h, cmpN_gt h⟩)
theorem cmp_okB (a b : ByteArray) (A B : Nat) (w : World) (hA : nv a = A) (hB : nv b = B) :
    Calls Tryz.prog 32 #[.string a, .string b] w fun e w' => e = .returned (.int .i64 (cmpN A B)) ∧ Below w.heap.size w w' :=
  (cmp_ok a b A B w hA hB).mono fun _ _ ⟨he, q, hq⟩ => ⟨he, by rw [hq]; exact below_drawn (Below.refl _ _) q⟩
end Go.Proofs.YtjkjlbchbbpmaaaGreatDoor
/- RSA's keys: plain. -/
namespace Go.Proofs.YtjkjlbchbbpmaaaGreatDoor
open Go.RowKit

/-- Bytes of an odd number, without noughts ahead. -/
def oddS (s : ByteArray) : Prop := fm (nv s) = s.data.toList ∧ nv s % 2 = 1
instance (s : ByteArray) : Decidable (oddS s) := by unfold oddS; exact inferInstance
def bitsS (s : ByteArray) : Nat := Dg.len 2 (nv s)
/-- May a key be? -/
def KeyOk (n e : ByteArray) : Prop := oddS n ∧ oddS e ∧ 512 ≤ bitsS n ∧ bitsS n ≤ 2048 ∧ 2 ≤ bitsS e ∧ bitsS e ≤ 32
instance (n e : ByteArray) : Decidable (KeyOk n e) := by unfold KeyOk; exact inferInstance

theorem list_size (s : ByteArray) : s.data.toList.length = s.size := by simp
theorem bv_concat (l : List UInt8) (c : UInt8) : bv (l ++ [c]) = bv l * 256 + c.toNat := by
  rw [bv_append, bv_cons, bv_nil]; simp
theorem bv_mod2 (l : List UInt8) (c : UInt8) : bv (l ++ [c]) % 2 = c.toNat % 2 := by
  rw [bv_concat]; omega

theorem oddS_empty {s : ByteArray} (h : s.size = 0) : ¬ oddS s := by
  rintro ⟨_, h2⟩
  have e : s.data.toList = [] := List.eq_nil_of_length_eq_zero (by rw [list_size]; exact h)
  unfold nv at h2
  rw [e, bv_nil] at h2
  omega
theorem oddS_zero {s : ByteArray} (h0 : 0 < s.size) (h : (s[0]'h0).toNat = 0) : ¬ oddS s := by
  rintro ⟨h1, _⟩
  have hl := fm_lead (nv s)
  rw [h1] at hl
  have hh : s.data.toList.head? = some (s[0]'h0) := by
    rw [List.head?_eq_getElem?]
    show s.data.toList[0]? = _
    rw [Array.getElem?_toList]
    exact getElem?_pos s.data 0 h0
  have hz : s[0]'h0 = 0 := by
    apply UInt8.toNat_inj.1
    rw [h]; rfl
  rcases hl with hl | hl
  · rw [hl] at hh; simp at hh
  · rw [hh, hz] at hl; exact hl rfl
theorem last_split {s : ByteArray} (h0 : 0 < s.size) : ∃ l, s.data.toList = l ++ [s[s.size - 1]'(by omega)] := by
  refine ⟨s.data.toList.dropLast, ?_⟩
  have hne : s.data.toList ≠ [] := fun e => by
    have := list_size s
    rw [e] at this
    simp at this; omega
  have h1 := (List.dropLast_concat_getLast hne).symm
  have h2 : s.data.toList.getLast hne = s[s.size - 1]'(by omega) := by
    rw [List.getLast_eq_getElem]
    simp only [Array.getElem_toList, list_size]
    rfl
  rw [h2] at h1
  exact h1
theorem oddS_last {s : ByteArray} (h0 : 0 < s.size) (h : ¬ (s[0]'h0).toNat = 0) : oddS s ↔ (s[s.size - 1]'(by omega)).toNat % 2 = 1 := by
  obtain ⟨l, hl⟩ := last_split h0
  have hm : nv s % 2 = (s[s.size - 1]'(by omega)).toNat % 2 := by
    unfold nv
    rw [hl]; exact bv_mod2 _ _
  have hc : fm (nv s) = s.data.toList := by
    refine fm_bv _ (Or.inr ?_)
    rw [List.head?_eq_getElem?, Array.getElem?_toList]
    rw [show s.data[0]? = some (s[0]'h0) from getElem?_pos s.data 0 h0]
    intro e
    have e := Option.some.inj e
    rw [e] at h
    exact h rfl
  unfold oddS
  rw [hm]
  exact ⟨fun h => h.2, fun h => ⟨hc, h⟩⟩
end Go.Proofs.YtjkjlbchbbpmaaaGreatDoor
