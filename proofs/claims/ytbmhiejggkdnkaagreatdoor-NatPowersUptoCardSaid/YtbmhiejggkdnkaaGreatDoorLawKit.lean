/- What the laws take: the exported functions at numbers that are not too long. -/
import Derived.Test.YtbmhiejggkdnkaaGreatDoorFixed
namespace Go.Proofs.YtbmhiejggkdnkaaGreatDoor
open Go.RowKit

/-- A number's text. -/
def tx (v : Nat) : ByteArray := ⟨(fm v).toArray⟩
theorem nv_tx (v : Nat) : nv (tx v) = v := bv_fm v
theorem tx_size (v : Nat) : (tx v).size = Dg.len 256 v := by unfold tx; rw [str_size, fm_length]
theorem tx_le {v k : Nat} (h : v < 256 ^ k) : (tx v).size ≤ k := by rw [tx_size]; exact (Dg.len_le_iff (by omega) v k).2 h
theorem nv_size (a : ByteArray) : nv a < 256 ^ a.size := by
  have h := bv_lt a.data.toList
  have e : a.data.toList.length = a.size := by simp
  rw [e] at h; exact h
theorem tx_inj {u v : Nat} (h : tx u = tx v) : u = v := by rw [← nv_tx u, h, nv_tx]

/-- A text and OK. -/
def okT (v : Nat) : Ending := .returned (.tuple #[.string (tx v), .int .i64 0])
/-- No text, and an error's number. -/
def noT (n : Int) : Ending := .returned (.tuple #[.string ⟨#[]⟩, .int .i64 n])

theorem add_ok (a b : ByteArray) (A B : Nat) (w : World) (ha : a.size ≤ 512) (hb : b.size ≤ 512) (hA : nv a = A) (hB : nv b = B) :
    Calls Tryz.prog 16 #[.string a, .string b] w fun e w' => e = okT (A + B) ∧ Below w.heap.size w w' := by
  refine (Add_any a b w (by omega) (by omega)).mono ?_
  rintro e w' ⟨rfl, hb⟩
  refine ⟨?_, hb⟩
  have : addR a b = (fm (A + B), 0) := by unfold addR; rw [if_neg (by omega), hA, hB]
  rw [this]; rfl
theorem mul_ok (a b : ByteArray) (A B : Nat) (w : World) (ha : a.size ≤ 512) (hb : b.size ≤ 512) (hA : nv a = A) (hB : nv b = B) :
    Calls Tryz.prog 18 #[.string a, .string b] w fun e w' => e = okT (A * B) ∧ Below w.heap.size w w' := by
  refine (Mul_any a b w (by omega) (by omega)).mono ?_
  rintro e w' ⟨rfl, hb⟩
  refine ⟨?_, hb⟩
  have : mulR a b = (fm (A * B), 0) := by unfold mulR; rw [if_neg (by omega), hA, hB]
  rw [this]; rfl
theorem sub_ok (a b : ByteArray) (A B : Nat) (w : World) (ha : a.size ≤ 512) (hb : b.size ≤ 512) (hA : nv a = A) (hB : nv b = B) (h : B ≤ A) :
    Calls Tryz.prog 17 #[.string a, .string b] w fun e w' => e = okT (A - B) ∧ Below w.heap.size w w' := by
  refine (Sub_any a b w (by omega) (by omega)).mono ?_
  rintro e w' ⟨rfl, hb⟩
  refine ⟨?_, hb⟩
  have : subR a b = (fm (A - B), 0) := by unfold subR; rw [if_neg (by omega), hA, hB, if_neg (by omega)]
  rw [this]; rfl
theorem sub_no (a b : ByteArray) (A B : Nat) (w : World) (ha : a.size ≤ 512) (hb : b.size ≤ 512) (hA : nv a = A) (hB : nv b = B) (h : A < B) :
    Calls Tryz.prog 17 #[.string a, .string b] w fun e w' => e = noT 32 ∧ Below w.heap.size w w' := by
  refine (Sub_any a b w (by omega) (by omega)).mono ?_
  rintro e w' ⟨rfl, hb⟩
  refine ⟨?_, hb⟩
  have : subR a b = ([], 32) := by unfold subR; rw [if_neg (by omega), hA, hB, if_pos h]
  rw [this]; rfl
theorem div_ok (a b : ByteArray) (A B : Nat) (w : World) (ha : a.size ≤ 512) (hb : b.size ≤ 512) (hA : nv a = A) (hB : nv b = B) (h : 0 < B) :
    Calls Tryz.prog 19 #[.string a, .string b] w fun e w' => e = .returned (.tuple #[.string (tx (A / B)), .string (tx (A % B)), .int .i64 0]) ∧ Below w.heap.size w w' := by
  refine (Div_any a b w (by omega) (by omega)).mono ?_
  rintro e w' ⟨rfl, hb⟩
  refine ⟨?_, hb⟩
  have : divR a b = (fm (A / B), fm (A % B), 0) := by unfold divR; rw [if_neg (by omega), hA, hB, if_neg (by omega)]
  rw [this]; rfl
theorem div_no (a b : ByteArray) (w : World) (ha : a.size ≤ 512) (hb : b.size ≤ 512) (hB : nv b = 0) :
    Calls Tryz.prog 19 #[.string a, .string b] w fun e w' => e = .returned (.tuple #[.string ⟨#[]⟩, .string ⟨#[]⟩, .int .i64 31]) ∧ Below w.heap.size w w' := by
  refine (Div_any a b w (by omega) (by omega)).mono ?_
  rintro e w' ⟨rfl, hb⟩
  refine ⟨?_, hb⟩
  have : divR a b = ([], [], 31) := by unfold divR; rw [if_neg (by omega), if_pos hB]
  rw [this]; rfl
theorem trim_ok (a : ByteArray) (A : Nat) (w : World) (hA : nv a = A) :
    Calls Tryz.prog 22 #[.string a] w fun e w' => e = .returned (.string (tx A)) ∧ w = w' := by
  have h := Trim_any a w
  rw [show bv a.data.toList = A from hA] at h
  exact h
theorem cmp_ok (a b : ByteArray) (A B : Nat) (w : World) (hA : nv a = A) (hB : nv b = B) :
    Calls Tryz.prog 21 #[.string a, .string b] w fun e w' => e = .returned (.int .i64 (cmpN A B)) ∧ ∃ q, w' = w.drewN q := by
  have h := Cmp_any a b w
  rw [hA, hB] at h
  exact h
theorem pow_ok (a p m : ByteArray) (A P M : Nat) (w : World) (ha : a.size ≤ 512) (hp : p.size ≤ 512) (hm : m.size ≤ 512) (hA : nv a = A) (hP : nv p = P) (hM : nv m = M) (h : 0 < M) :
    Calls Tryz.prog 20 #[.string a, .string p, .string m] w fun e w' => e = okT (A ^ P % M) ∧ Below w.heap.size w w' := by
  refine (Pow_any a p m w (by omega) (by omega) (by omega)).mono ?_
  rintro e w' ⟨⟨l, n, rfl, hr⟩, hb⟩
  refine ⟨?_, hb⟩
  unfold PowR at hr
  rw [if_neg (by omega), hA, hP, hM, if_neg (by omega)] at hr
  obtain ⟨rfl, rfl⟩ := hr
  rfl
theorem mont_ok (a b m : ByteArray) (A B M : Nat) (w : World) (ha : a.size ≤ 512) (hb : b.size ≤ 512) (hm : m.size ≤ 512) (hA : nv a = A) (hB : nv b = B) (hM : nv m = M) (h : M % 2 = 1) :
    Calls Tryz.prog 27 #[.string a, .string b, .string m] w fun e w' => ∃ x, e = okT x ∧ x < M ∧ x * 256 ^ Dg.len 256 M % M = A * B % M ∧ Below w.heap.size w w' := by
  refine (Mont_any a b m w (by omega) (by omega) (by omega)).mono ?_
  rintro e w' ⟨⟨l, n, rfl, hr⟩, hb⟩
  unfold MontR at hr
  rw [if_neg (by omega), hA, hB, hM, if_neg (by omega), if_neg (by omega)] at hr
  obtain ⟨rfl, x, hx, hi, rfl⟩ := hr
  exact ⟨x, rfl, hx, hi, hb⟩
end Go.Proofs.YtbmhiejggkdnkaaGreatDoor
