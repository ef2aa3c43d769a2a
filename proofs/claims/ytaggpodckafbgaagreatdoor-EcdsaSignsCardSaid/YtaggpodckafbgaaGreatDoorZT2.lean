/- Pub2E LawKit5 ELawKit, in one text. -/
import Derived.Test.YtaggpodckafbgaaGreatDoorZT
import Derived.Test.YtaggpodckafbgaaGreatDoorZEF
import Derived.Test.YtaggpodckafbgaaGreatDoorZM
/- Sub and Div: the walks. (Printed by gen_pub.py.) -/
namespace Go.Proofs.YtaggpodckafbgaaGreatDoor
open Go.RowKit
/-- Three results: two texts and an error's number. -/
def ret3 (l m : List UInt8) (n : Int) : Ending := .returned (.tuple #[.string ⟨l.toArray⟩, .string ⟨m.toArray⟩, .int .i64 n])

/-- What Sub answers. -/
def subR (a b : ByteArray) : List UInt8 × Int := if 512 < a.size ∨ 512 < b.size then ([], 30) else if nv a < nv b then ([], 32) else (fm (nv a - nv b), 0)

set_option maxRecDepth 100000 in
set_option maxHeartbeats 1600000 in
theorem Sub_any (a b : ByteArray) (w : World) (ha : a.size ≤ 9223372036854775807) (hb : b.size ≤ 9223372036854775807) :
    Calls Tryz.prog 22 #[.string a, .string b] w fun e w' => e = ret2 (subR a b).1 (subR a b).2 ∧ Below w.heap.size w w' := by
  obtain ⟨sf, hsf⟩ : ∃ sf : Nat → ByteArray, sf = fun i => if i = 0 then a else b := ⟨_, rfl⟩
  have h0 : sf 0 = a := by rw [hsf]; rfl
  have h1 : sf 1 = b := by rw [hsf]; rfl
  have H0 := Lib.hid h0; have H1 := Lib.hid h1
  obtain ⟨c0, c1⟩ := two_cells w (.string a) (.string b) 9 w.heap.size rfl
  have hc : ∀ i, i < 2 → (w.alloc (.cells #[.string a, .string b] 9)).cell? ⟨w.heap.size, i, none⟩ = some (.string (sf i)) := fun i hi => by
    match i, hi with
    | 0, _ => rw [h0]; exact c0
    | 1, _ => rw [h1]; exact c1
  have hs : ∀ i, i < 2 → (sf i).size ≤ 9223372036854775807 := fun i hi => by
    match i, hi with
    | 0, _ => rw [h0]; exact ha
    | 1, _ => rw [h1]; exact hb
  have HC := Lib.hid hc; have HS := Lib.hid hs
  clear hsf h0 h1 c0 c1 hc hs
  go_enter Tryz.func22, Tryz.ntmps22
  go_wp2_with fail
  refine (taken_any false _ 2 sf _ (by omega) (by omega) HC.out HS.out).mono ?_
  rintro e w1 ⟨hb1, h⟩
  have hbel : Below w.heap.size w w1 := ((Below.refl _ _).alloc (Nat.le_refl _) _).trans (hb1.mono (by simp))
  rcases h with ⟨⟨i, hi, hlong⟩, rfl⟩ | ⟨h512, hf, hz, rfl⟩ | ⟨h512, hnz, g, cap, vals, rfl, hnums, hcell⟩
  · have hor : 512 < a.size ∨ 512 < b.size := by
      match i, hi with
      | 0, _ => left; rw [← H0.out]; exact hlong
      | 1, _ => right; rw [← H1.out]; exact hlong
    have hR : subR a b = ([], 30) := by unfold subR; rw [if_pos hor]
    have HR := Lib.hid hR
    clear hor hR hlong
    unfold errLong
    go_wp2_with (go_at_call 59; refine (answeredLong _).mono ?_; rintro e w2 ⟨rfl, rfl⟩)
    go_ret2
    exact ⟨by rw [HR.out]; rfl, hbel⟩
  · simp at hf
  · have hno : ¬ (512 < a.size ∨ 512 < b.size) := by
      have g0 := h512 0 (by omega); have g1 := h512 1 (by omega)
      rw [H0.out] at g0; rw [H1.out] at g1
      omega
    have HN := Lib.hid hno
    clear hno
    obtain ⟨s0, hs0⟩ : ∃ s, vals[0]? = some s := ⟨_, List.getElem?_eq_getElem (by rw [hnums.len]; omega)⟩
    obtain ⟨s1, hs1⟩ : ∃ s, vals[1]? = some s := ⟨_, List.getElem?_eq_getElem (by rw [hnums.len]; omega)⟩
    have hn0 : Num w1 s0.a s0.n s0.c (nv a) := by have h := hnums.num 0 s0 hs0; rw [H0.out] at h; exact h
    have hn1 : Num w1 s1.a s1.n s1.c (nv b) := by have h := hnums.num 1 s1 hs1; rw [H1.out] at h; exact h
    have hl0 : s0.n ≤ 128 := num_size hn0 (by have := HN.out; omega)
    have hl1 : s1.n ≤ 128 := num_size hn1 (by have := HN.out; omega)
    have hv0 : nv a < LB ^ 128 := nv_lt a 128 (by have := HN.out; omega)
    have hv1 : nv b < LB ^ 128 := nv_lt b 128 (by have := HN.out; omega)
    have HV0 := Lib.hid hv0; have HV1 := Lib.hid hv1
    have c0 : w1.cell? ⟨g, 0, none⟩ = some (.slice s0.a s0.n s0.c) := hcell 0 s0 hs0
    have c1 : w1.cell? ⟨g, 1, none⟩ = some (.slice s1.a s1.n s1.c) := hcell 1 s1 hs1
    clear hcell hnums h512 hv0 hv1
    by_cases hlt : nv a < nv b
    · have hR : subR a b = ([], 32) := by unfold subR; rw [if_neg HN.out, if_pos hlt]
      have HR := Lib.hid hR; have HLT := Lib.hid hlt
      clear hR hlt
      go_wp2_with fail
      go_region_with (first
        | (go_at_call 60; refine (sub_lt s0.a s1.a s0.n s0.c s1.n s1.c (nv a) (nv b) _ (hn0.drewN 1) (hn1.drewN 1) HLT.out).mono ?_; rintro e w2 ⟨rfl, hb2⟩)
        | (go_at_call 59; refine (answeredBelow _).mono ?_; rintro e w3 ⟨rfl, rfl⟩))
      all_goals
        go_wp2_with fail
        go_ret2
        exact ⟨by rw [HR.out]; rfl, ((hbel.trans ((below_drawn (Below.refl _ _) 1).mono hbel.size)).trans (hb2.mono hbel.size))⟩
    · have hR : subR a b = (fm (nv a - nv b), 0) := by unfold subR; rw [if_neg HN.out, if_neg hlt]
      have HR := Lib.hid hR; have HLT := Lib.hid hlt
      clear hR hlt
      go_wp2_with fail
      go_region_with (first
        | (go_at_call 60; refine (sub_any s0.a s1.a s0.n s0.c s1.n s1.c (nv a) (nv b) _ (hn0.drewN 1) (hn1.drewN 1) (by omega) (Nat.not_lt.1 HLT.out)).mono ?_; rintro e w2 ⟨ro, rn, rc, rfl, hnum, hb2⟩)
        | (go_at_call 59; refine (answered_ok ro rn rc _ _ hnum ?_).mono ?_; exact Nat.le_trans (num_len_le hnum (Nat.lt_of_le_of_lt (Nat.sub_le _ _) HV0.out)) (by omega); rintro e w3 ⟨rfl, hb3⟩))
      all_goals
        go_wp2_with fail
        go_ret2
        exact ⟨by rw [HR.out]; rfl, ((hbel.trans ((below_drawn (Below.refl _ _) 1).mono hbel.size)).trans (hb2.mono hbel.size)).trans (hb3.mono (Nat.le_trans hbel.size hb2.size))⟩


/-- What Div answers. -/
def divR (a b : ByteArray) : List UInt8 × List UInt8 × Int := if 512 < a.size ∨ 512 < b.size then ([], [], 30) else if nv b = 0 then ([], [], 31) else (fm (nv a / nv b), fm (nv a % nv b), 0)

set_option maxRecDepth 100000 in
set_option maxHeartbeats 1600000 in
theorem Div_any (a b : ByteArray) (w : World) (ha : a.size ≤ 9223372036854775807) (hb : b.size ≤ 9223372036854775807) :
    Calls Tryz.prog 25 #[.string a, .string b] w fun e w' => e = ret3 (divR a b).1 (divR a b).2.1 (divR a b).2.2 ∧ Below w.heap.size w w' := by
  obtain ⟨sf, hsf⟩ : ∃ sf : Nat → ByteArray, sf = fun i => if i = 0 then a else b := ⟨_, rfl⟩
  have h0 : sf 0 = a := by rw [hsf]; rfl
  have h1 : sf 1 = b := by rw [hsf]; rfl
  have H0 := Lib.hid h0; have H1 := Lib.hid h1
  obtain ⟨c0, c1⟩ := two_cells w (.string a) (.string b) 9 w.heap.size rfl
  have hc : ∀ i, i < 2 → (w.alloc (.cells #[.string a, .string b] 9)).cell? ⟨w.heap.size, i, none⟩ = some (.string (sf i)) := fun i hi => by
    match i, hi with
    | 0, _ => rw [h0]; exact c0
    | 1, _ => rw [h1]; exact c1
  have hs : ∀ i, i < 2 → (sf i).size ≤ 9223372036854775807 := fun i hi => by
    match i, hi with
    | 0, _ => rw [h0]; exact ha
    | 1, _ => rw [h1]; exact hb
  have HC := Lib.hid hc; have HS := Lib.hid hs
  clear hsf h0 h1 c0 c1 hc hs
  go_enter Tryz.func25, Tryz.ntmps25
  go_wp2_with fail
  refine (taken_any true _ 2 sf _ (by omega) (by omega) HC.out HS.out).mono ?_
  rintro e w1 ⟨hb1, h⟩
  have hbel : Below w.heap.size w w1 := ((Below.refl _ _).alloc (Nat.le_refl _) _).trans (hb1.mono (by simp))
  rcases h with ⟨⟨i, hi, hlong⟩, rfl⟩ | ⟨h512, hf, hz, rfl⟩ | ⟨h512, hnz, g, cap, vals, rfl, hnums, hcell⟩
  · have hor : 512 < a.size ∨ 512 < b.size := by
      match i, hi with
      | 0, _ => left; rw [← H0.out]; exact hlong
      | 1, _ => right; rw [← H1.out]; exact hlong
    have hR : divR a b = ([], [], 30) := by unfold divR; rw [if_pos hor]
    have HR := Lib.hid hR
    clear hor hR hlong
    unfold errLong
    have ht := toldLong
    unfold errLong at ht
    have HT := Lib.hid ht; clear ht
    go_wp2_with (go_at_call 63; refine (HT.out _).mono ?_; rintro e w2 ⟨rfl, rfl⟩)
    go_ret3
    exact ⟨by rw [HR.out]; rfl, hbel⟩
  · have hno : ¬ (512 < a.size ∨ 512 < b.size) := by
      have g0 := h512 0 (by omega); have g1 := h512 1 (by omega)
      rw [H0.out] at g0; rw [H1.out] at g1
      omega
    have hb0 : nv b = 0 := by rw [← H1.out]; exact hz
    have hR : divR a b = ([], [], 31) := by unfold divR; rw [if_neg hno, if_pos hb0]
    have HR := Lib.hid hR
    clear hno hb0 hR hz h512
    unfold errZero
    have ht := toldZero
    unfold errZero at ht
    have HT := Lib.hid ht; clear ht
    go_wp2_with (go_at_call 63; refine (HT.out _).mono ?_; rintro e w2 ⟨rfl, rfl⟩)
    go_ret3
    exact ⟨by rw [HR.out]; rfl, hbel⟩
  · have hno : ¬ (512 < a.size ∨ 512 < b.size) := by
      have g0 := h512 0 (by omega); have g1 := h512 1 (by omega)
      rw [H0.out] at g0; rw [H1.out] at g1
      omega
    have HN := Lib.hid hno
    clear hno
    obtain ⟨s0, hs0⟩ : ∃ s, vals[0]? = some s := ⟨_, List.getElem?_eq_getElem (by rw [hnums.len]; omega)⟩
    obtain ⟨s1, hs1⟩ : ∃ s, vals[1]? = some s := ⟨_, List.getElem?_eq_getElem (by rw [hnums.len]; omega)⟩
    have hn0 : Num w1 s0.a s0.n s0.c (nv a) := by have h := hnums.num 0 s0 hs0; rw [H0.out] at h; exact h
    have hn1 : Num w1 s1.a s1.n s1.c (nv b) := by have h := hnums.num 1 s1 hs1; rw [H1.out] at h; exact h
    have hl0 : s0.n ≤ 128 := num_size hn0 (by have := HN.out; omega)
    have hl1 : s1.n ≤ 128 := num_size hn1 (by have := HN.out; omega)
    have hv0 : nv a < LB ^ 128 := nv_lt a 128 (by have := HN.out; omega)
    have hv1 : nv b < LB ^ 128 := nv_lt b 128 (by have := HN.out; omega)
    have HV0 := Lib.hid hv0; have HV1 := Lib.hid hv1
    have c0 : w1.cell? ⟨g, 0, none⟩ = some (.slice s0.a s0.n s0.c) := hcell 0 s0 hs0
    have c1 : w1.cell? ⟨g, 1, none⟩ = some (.slice s1.a s1.n s1.c) := hcell 1 s1 hs1
    clear hcell hnums h512 hv0 hv1
    have hb0 : 0 < nv b := by rw [← H1.out]; exact hnz rfl
    have hR : divR a b = (fm (nv a / nv b), fm (nv a % nv b), 0) := by unfold divR; rw [if_neg HN.out, if_neg (by omega)]
    have HR := Lib.hid hR; have HB0 := Lib.hid hb0
    clear hR hb0 hnz
    go_wp2_with fail
    go_region_with (go_at_call 64; refine (div_any s0.a s1.a s0.n s0.c s1.n s1.c (nv a) (nv b) _ (hn0.drewN 1) (hn1.drewN 1) HB0.out (by omega)).mono ?_; rintro e w2 ⟨qo, qn, qc, ro, rn, rc, rfl, hq, hr, hb2⟩)
    all_goals
      have hqn : qn ≤ 10000000 := Nat.le_trans (num_len_le hq (Nat.lt_of_le_of_lt (Nat.div_le_self _ _) HV0.out)) (by omega)
      have hrn : rn ≤ 10000000 := Nat.le_trans (num_len_le hr (Nat.lt_of_le_of_lt (Nat.mod_le _ _) HV0.out)) (by omega)
      go_wp2_with fail
      refine (form_any qo qn qc _ _ hq hqn).mono ?_
      rintro e w3 ⟨rfl, hb3⟩
      go_wp2_with fail
      refine (form_any ro rn rc _ _ (hr.below hb3 (Nat.le_refl _)) hrn).mono ?_
      rintro e w4 ⟨rfl, hb4⟩
      go_wp2_with fail
      go_ret3
      exact ⟨by rw [HR.out]; rfl, ((((hbel.trans ((below_drawn (Below.refl _ _) 1).mono hbel.size)).trans (hb2.mono hbel.size)).trans (hb3.mono (Nat.le_trans hbel.size hb2.size))).trans (hb4.mono (Nat.le_trans hbel.size (Nat.le_trans hb2.size hb3.size))))⟩

end Go.Proofs.YtaggpodckafbgaaGreatDoor
/- What the laws take of nat: the exported functions at numbers that are not too long. -/
namespace Go.Proofs.YtaggpodckafbgaaGreatDoor
open Go.RowKit

/-- A number's text. -/
def tx (v : Nat) : ByteArray := ⟨(fm v).toArray⟩
theorem nv_tx (v : Nat) : nv (tx v) = v := bv_fm v
theorem tx_size (v : Nat) : (tx v).size = Dg.len 256 v := by unfold tx; rw [str_size, fm_length]
theorem tx_le {v k : Nat} (h : v < 256 ^ k) : (tx v).size ≤ k := by rw [tx_size]; exact (Dg.len_le_iff (by omega) v k).2 h
theorem nv_size (a : ByteArray) : nv a < 256 ^ a.size := by
  have h := bv_lt a.data.toList
  have e : a.data.toList.length = a.size := by simp
  rw [e] at h; exact h
theorem tx_inj {u v : Nat} (h : tx u = tx v) : u = v := by rw [← nv_tx u, h, nv_tx]

theorem add_ok (a b : ByteArray) (A B : Nat) (w : World) (ha : a.size ≤ 512) (hb : b.size ≤ 512) (hA : nv a = A) (hB : nv b = B) :
    Calls Tryz.prog 26 #[.string a, .string b] w fun e w' => e = .returned (.tuple #[.string (tx (A + B)), .int .i64 0]) ∧ Below w.heap.size w w' := by
  refine (Add_any a b w (by omega) (by omega)).mono ?_
  rintro e w' ⟨rfl, hb⟩
  refine ⟨?_, hb⟩
  have : naddR a b = (fm (A + B), 0) := by unfold naddR; rw [if_neg (by omega), hA, hB]
  rw [this]; rfl
theorem mul_ok (a b : ByteArray) (A B : Nat) (w : World) (ha : a.size ≤ 512) (hb : b.size ≤ 512) (hA : nv a = A) (hB : nv b = B) :
    Calls Tryz.prog 27 #[.string a, .string b] w fun e w' => e = .returned (.tuple #[.string (tx (A * B)), .int .i64 0]) ∧ Below w.heap.size w w' := by
  refine (Mul_any a b w (by omega) (by omega)).mono ?_
  rintro e w' ⟨rfl, hb⟩
  refine ⟨?_, hb⟩
  have : mulR a b = (fm (A * B), 0) := by unfold mulR; rw [if_neg (by omega), hA, hB]
  rw [this]; rfl
theorem sub_ok (a b : ByteArray) (A B : Nat) (w : World) (ha : a.size ≤ 512) (hb : b.size ≤ 512) (hA : nv a = A) (hB : nv b = B) (h : B ≤ A) :
    Calls Tryz.prog 22 #[.string a, .string b] w fun e w' => e = .returned (.tuple #[.string (tx (A - B)), .int .i64 0]) ∧ Below w.heap.size w w' := by
  refine (Sub_any a b w (by omega) (by omega)).mono ?_
  rintro e w' ⟨rfl, hb⟩
  refine ⟨?_, hb⟩
  have : subR a b = (fm (A - B), 0) := by unfold subR; rw [if_neg (by omega), hA, hB, if_neg (by omega)]
  rw [this]; rfl
theorem sub_no (a b : ByteArray) (A B : Nat) (w : World) (ha : a.size ≤ 512) (hb : b.size ≤ 512) (hA : nv a = A) (hB : nv b = B) (h : A < B) :
    Calls Tryz.prog 22 #[.string a, .string b] w fun e w' => e = .returned (.tuple #[.string ⟨#[]⟩, .int .i64 32]) ∧ Below w.heap.size w w' := by
  refine (Sub_any a b w (by omega) (by omega)).mono ?_
  rintro e w' ⟨rfl, hb⟩
  refine ⟨?_, hb⟩
  have : subR a b = ([], 32) := by unfold subR; rw [if_neg (by omega), hA, hB, if_pos h]
  rw [this]; rfl
theorem div_ok (a b : ByteArray) (A B : Nat) (w : World) (ha : a.size ≤ 512) (hb : b.size ≤ 512) (hA : nv a = A) (hB : nv b = B) (h : 0 < B) :
    Calls Tryz.prog 25 #[.string a, .string b] w fun e w' => e = .returned (.tuple #[.string (tx (A / B)), .string (tx (A % B)), .int .i64 0]) ∧ Below w.heap.size w w' := by
  refine (Div_any a b w (by omega) (by omega)).mono ?_
  rintro e w' ⟨rfl, hb⟩
  refine ⟨?_, hb⟩
  have : divR a b = (fm (A / B), fm (A % B), 0) := by unfold divR; rw [if_neg (by omega), hA, hB, if_neg (by omega)]
  rw [this]; rfl
end Go.Proofs.YtaggpodckafbgaaGreatDoor
/- What the laws take: multiple. -/
namespace Go.Proofs.YtaggpodckafbgaaGreatDoor
open Go.RowKit

set_option maxRecDepth 100000 in
theorem multiple_core (s left on bx b_y r1 r2 : ByteArray) (qt : ByteArray) (w : World)
    (h1 : (∀ w : World, Calls Tryz.prog 21 #[] w fun e w' => e = .returned (.string on) ∧ Below w.heap.size w w'))
    (h2 : (∀ w : World, Calls Tryz.prog 25 #[.string s, .string on] w fun e w' => e = .returned (.tuple #[.string qt, .string left, .int .i64 0]) ∧ Below w.heap.size w w'))
    (h3 : (∀ w : World, Calls Tryz.prog 41 #[] w fun e w' => e = .returned (.agg (kvc bx b_y)) ∧ Below w.heap.size w w'))
    (h4 : (∀ w : World, Calls Tryz.prog 17 #[.string left, .agg (kvc bx b_y)] w fun e w' => e = .returned (.tuple #[.agg (kvc r1 r2), .int .i64 0]) ∧ Below w.heap.size w w'))
    : Calls Tryz.prog 28 #[.string s] w fun e w' => e = .returned (.tuple #[.agg (kvc r1 r2), .bool true]) ∧ Below w.heap.size w w' := by
  have H1 := Lib.hid h1; have H2 := Lib.hid h2; have H3 := Lib.hid h3; have H4 := Lib.hid h4
  clear h1 h2 h3 h4
  have hR0 := Rws.start w
  go_enter Tryz.func28, Tryz.ntmps28
  go_wp2_with (first | (refine wK_box rfl (by rfl) (by assumption) rfl ?_; intro gk w1 hR) | (refine wK_alloc rfl (by rfl) (by assumption) ?_; intro gr w1 hR) | (refine wK_load rfl (by rfl) (by assumption) rfl (by repeat (first | exact List.Mem.head _ | refine List.Mem.tail _ ?_)) rfl ?_) | (refine wK_store rfl (by rfl) (by assumption) rfl rfl (by repeat (first | exact Pick.here | apply Pick.there)) (by rfl) (by rfl) (by exact kvc_cells _ _) ?_; intro w1 hR))
  refine (H1.out _).mono ?_
  rintro e w1 ⟨rfl, hb1⟩
  have hR := Rws.call (by assumption) hb1
  clear hb1
  go_wp2_with (first | (refine wK_box rfl (by rfl) (by assumption) rfl ?_; intro gk w1 hR) | (refine wK_alloc rfl (by rfl) (by assumption) ?_; intro gr w1 hR) | (refine wK_load rfl (by rfl) (by assumption) rfl (by repeat (first | exact List.Mem.head _ | refine List.Mem.tail _ ?_)) rfl ?_) | (refine wK_store rfl (by rfl) (by assumption) rfl rfl (by repeat (first | exact Pick.here | apply Pick.there)) (by rfl) (by rfl) (by exact kvc_cells _ _) ?_; intro w1 hR))
  refine (H2.out _).mono ?_
  rintro e w1 ⟨rfl, hb1⟩
  have hR := Rws.call (by assumption) hb1
  clear hb1
  go_wp2_with (first | (refine wK_box rfl (by rfl) (by assumption) rfl ?_; intro gk w1 hR) | (refine wK_alloc rfl (by rfl) (by assumption) ?_; intro gr w1 hR) | (refine wK_load rfl (by rfl) (by assumption) rfl (by repeat (first | exact List.Mem.head _ | refine List.Mem.tail _ ?_)) rfl ?_) | (refine wK_store rfl (by rfl) (by assumption) rfl rfl (by repeat (first | exact Pick.here | apply Pick.there)) (by rfl) (by rfl) (by exact kvc_cells _ _) ?_; intro w1 hR))
  refine (H3.out _).mono ?_
  rintro e w1 ⟨rfl, hb1⟩
  have hR := Rws.call (by assumption) hb1
  clear hb1
  go_wp2_with (first | (refine wK_box rfl (by rfl) (by assumption) rfl ?_; intro gk w1 hR) | (refine wK_alloc rfl (by rfl) (by assumption) ?_; intro gr w1 hR) | (refine wK_load rfl (by rfl) (by assumption) rfl (by repeat (first | exact List.Mem.head _ | refine List.Mem.tail _ ?_)) rfl ?_) | (refine wK_store rfl (by rfl) (by assumption) rfl rfl (by repeat (first | exact Pick.here | apply Pick.there)) (by rfl) (by rfl) (by exact kvc_cells _ _) ?_; intro w1 hR))
  refine (H4.out _).mono ?_
  rintro e w1 ⟨rfl, hb1⟩
  have hR := Rws.call (by assumption) hb1
  clear hb1
  go_wp2_with (first | (refine wK_box rfl (by rfl) (by assumption) rfl ?_; intro gk w1 hR) | (refine wK_alloc rfl (by rfl) (by assumption) ?_; intro gr w1 hR) | (refine wK_load rfl (by rfl) (by assumption) rfl (by repeat (first | exact List.Mem.head _ | refine List.Mem.tail _ ?_)) rfl ?_) | (refine wK_store rfl (by rfl) (by assumption) rfl rfl (by repeat (first | exact Pick.here | apply Pick.there)) (by rfl) (by rfl) (by exact kvc_cells _ _) ?_; intro w1 hR))
  exact bodyPost_rws2 Tryz.results28 (by assumption) _ rfl (kvc r1 r2) _ (List.Mem.head _) _ Tryz.underlying23 rfl (key_info rfl) _ rfl rfl fun hb => ⟨rfl, hb⟩
end Go.Proofs.YtaggpodckafbgaaGreatDoor
