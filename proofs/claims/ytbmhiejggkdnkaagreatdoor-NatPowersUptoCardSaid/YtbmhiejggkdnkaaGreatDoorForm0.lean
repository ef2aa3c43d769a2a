/- Bytes of numbers: plain. -/
import Derived.Test.YtbmhiejggkdnkaaGreatDoorRead
import Derived.Lib.TrimByte
namespace Go.Proofs.YtbmhiejggkdnkaaGreatDoor
open Go.RowKit

/-- A number's bytes, the highest first, without noughts ahead. -/
def fm (v : Nat) : List UInt8 := if _h : v = 0 then [] else fm (v / 256) ++ [UInt8.ofNat (v % 256)]
termination_by v
decreasing_by exact Nat.div_lt_self (by omega) (by omega)

theorem fm_zero : fm 0 = [] := by rw [fm]; simp
theorem fm_pos {v : Nat} (h : 0 < v) : fm v = fm (v / 256) ++ [UInt8.ofNat (v % 256)] := by rw [fm, dif_neg (by omega)]

theorem toNat_ofNat8 (n : Nat) (h : n < 256) : (UInt8.ofNat n).toNat = n := by
  simp [UInt8.toNat_ofNat']; omega

theorem bv_fm (v : Nat) : bv (fm v) = v := by
  induction v using Nat.strongRecOn with
  | _ v ih =>
    by_cases h : v = 0
    · subst h; rw [fm_zero, bv_nil]
    · rw [fm_pos (by omega), bv_append, ih (v / 256) (Nat.div_lt_self (by omega) (by omega)), bv_cons, bv_nil, toNat_ofNat8 _ (Nat.mod_lt _ (by omega))]
      simp
      omega

theorem fm_length (v : Nat) : (fm v).length = Dg.len 256 v := by
  induction v using Nat.strongRecOn with
  | _ v ih =>
    by_cases h : v = 0
    · subst h; rw [fm_zero, Dg.len_zero]; rfl
    · rw [fm_pos (by omega), Dg.len_pos (by omega) (by omega), List.length_append, ih (v / 256) (Nat.div_lt_self (by omega) (by omega))]
      rfl

/-- The first byte is not 0. -/
def Lead (l : List UInt8) : Prop := l = [] ∨ l.head? ≠ some 0

theorem bv_pos_of_lead {c : UInt8} {l : List UInt8} (h : c ≠ 0) : 0 < bv (c :: l) := by
  rw [bv_cons]
  have h1 : 0 < c.toNat := by
    rcases Nat.eq_zero_or_pos c.toNat with h2 | h2
    · exact absurd (UInt8.toNat_inj.1 h2) h
    · exact h2
  have : 0 < c.toNat * 256 ^ l.length := Nat.mul_pos h1 (Nat.pow_pos (by omega))
  omega

theorem fm_bv_rev : ∀ m : List UInt8, Lead m.reverse → fm (bv m.reverse) = m.reverse
  | [], _ => by simp [bv_nil, fm_zero]
  | c :: m, h => by
    have e : (c :: m).reverse = m.reverse ++ [c] := by simp
    rw [e] at h ⊢
    have hb : bv (m.reverse ++ [c]) = bv m.reverse * 256 + c.toNat := by rw [bv_append, bv_cons, bv_nil]; simp
    have hc := c.toNat_lt
    have hd : (bv m.reverse * 256 + c.toNat) / 256 = bv m.reverse := by omega
    have hm : (bv m.reverse * 256 + c.toNat) % 256 = c.toNat := by omega
    have hpos : 0 < bv m.reverse * 256 + c.toNat := by
      rw [← hb]
      cases hr : m.reverse with
      | nil =>
        rw [hr] at h
        rcases h with h | h
        · simp at h
        · refine bv_pos_of_lead (l := []) ?_
          intro h2; subst h2; simp at h
      | cons d r =>
        rw [hr] at h
        rcases h with h | h
        · simp at h
        · refine bv_pos_of_lead (l := r ++ [c]) ?_
          intro h2; subst h2; simp at h
    have hlead : Lead m.reverse := by
      cases hr : m.reverse with
      | nil => exact Or.inl rfl
      | cons d r =>
        rw [hr] at h
        rcases h with h | h
        · simp at h
        · right; simpa using h
    rw [hb, fm_pos hpos, hd, hm, fm_bv_rev m hlead]
    congr 2
    exact UInt8.toNat_inj.1 (toNat_ofNat8 _ hc)

theorem fm_bv (l : List UInt8) (h : Lead l) : fm (bv l) = l := by
  have := fm_bv_rev l.reverse (by simpa using h)
  simpa using this

theorem trim_lead (l : List UInt8) : Lead (Lib.trimLeftB l 0) ∧ bv (Lib.trimLeftB l 0) = bv l := by
  unfold Lib.trimLeftB
  induction l with
  | nil => exact ⟨Or.inl rfl, rfl⟩
  | cons c l ih =>
    by_cases h : c = 0
    · subst h
      simp only [List.dropWhile_cons, beq_self_eq_true, if_true]
      exact ⟨ih.1, by rw [ih.2, bv_cons]; simp⟩
    · simp only [List.dropWhile_cons, beq_iff_eq, h, if_false]
      exact ⟨Or.inr (by simpa using h), trivial⟩

/-- What stands behind the noughts is the number's form. -/
theorem trim_fm (l : List UInt8) : Lib.trimLeftB l 0 = fm (bv l) := by
  have h := trim_lead l
  rw [← h.2, fm_bv _ h.1]

theorem fm_lead (v : Nat) : Lead (fm v) := by
  have h := trim_lead (fm v)
  have e := trim_fm (fm v)
  rw [bv_fm] at e
  rw [← e]; exact h.1

theorem fm_inj {a b : Nat} (h : fm a = fm b) : a = b := by rw [← bv_fm a, h, bv_fm]

/-- The n bytes of v, the highest first. -/
def pb (v n : Nat) : List UInt8 := (List.range n).map fun t => UInt8.ofNat (Dg.dg 256 v (n - 1 - t))

theorem pb_length (v n : Nat) : (pb v n).length = n := by simp [pb]
theorem pb_succ (v n : Nat) : pb v (n + 1) = UInt8.ofNat (Dg.dg 256 v n) :: pb v n := by
  unfold pb
  rw [List.range_succ_eq_map, List.map_cons, List.map_map]
  congr 1
  apply List.map_congr_left
  intro t _
  show UInt8.ofNat (Dg.dg 256 v (n + 1 - 1 - (t + 1))) = _
  congr 2; omega
theorem bv_pb (v : Nat) : ∀ n, bv (pb v n) = v % 256 ^ n
  | 0 => by simp [pb, bv_nil, Nat.mod_one]
  | n + 1 => by
    rw [pb_succ, bv_cons, pb_length, bv_pb v n, Dg.mod_succ, toNat_ofNat8 _ (Dg.dg_lt (by omega) _ _), Nat.mul_comm]
    omega

/-- The first 4 i bytes of 4 n. -/
def pre (v n i : Nat) : List UInt8 := (List.range (4 * i)).map fun t => UInt8.ofNat (Dg.dg 256 v (4 * n - 1 - t))
theorem pre_zero (v n : Nat) : pre v n 0 = [] := rfl
theorem pre_all (v n : Nat) : pre v n n = pb v (4 * n) := rfl
theorem pre_length (v n i : Nat) : (pre v n i).length = 4 * i := by simp [pre]

theorem dg_limb (v m r : Nat) (hr : r < 4) : Dg.dg LB v m / 256 ^ r % 256 = Dg.dg 256 v (4 * m + r) := by
  unfold Dg.dg
  have e1 : LB ^ m = 256 ^ (4 * m) := by rw [show LB = 256 ^ 4 from rfl, ← Nat.pow_mul]
  rw [e1, Nat.pow_add, ← Nat.div_div_eq_div_mul]
  generalize v / 256 ^ (4 * m) = y
  have e2 : LB = 256 ^ r * (256 * 256 ^ (3 - r)) := by
    rw [Nat.mul_comm 256, ← Nat.pow_succ, ← Nat.pow_add, show r + (3 - r + 1) = 4 from by omega]; rfl
  rw [e2, Nat.mod_mul_right_div_self, Nat.mod_mul_right_mod]

theorem pre_succ (v n i : Nat) (h : i < n) (x : Nat) (hx : x = Dg.dg LB v (n - 1 - i)) :
    pre v n (i + 1) = pre v n i ++ [UInt8.ofNat (x / 16777216 % 256), UInt8.ofNat (x / 65536 % 256), UInt8.ofNat (x / 256 % 256), UInt8.ofNat (x % 256)] := by
  unfold pre
  have e : 4 * (i + 1) = 4 * i + 1 + 1 + 1 + 1 := by omega
  rw [e, List.range_succ, List.range_succ, List.range_succ, List.range_succ]
  simp only [List.map_append, List.map_cons, List.map_nil, List.append_assoc, List.cons_append, List.nil_append]
  have h3 := dg_limb v (n - 1 - i) 3 (by omega)
  have h2 := dg_limb v (n - 1 - i) 2 (by omega)
  have h1 := dg_limb v (n - 1 - i) 1 (by omega)
  have h0 := dg_limb v (n - 1 - i) 0 (by omega)
  rw [← hx] at h0 h1 h2 h3
  rw [show 4 * n - 1 - 4 * i = 4 * (n - 1 - i) + 3 from by omega, show 4 * n - 1 - (4 * i + 1) = 4 * (n - 1 - i) + 2 from by omega, show 4 * n - 1 - (4 * i + 1 + 1) = 4 * (n - 1 - i) + 1 from by omega, show 4 * n - 1 - (4 * i + 1 + 1 + 1) = 4 * (n - 1 - i) + 0 from by omega, ← h3, ← h2, ← h1, ← h0]
  simp

end Go.Proofs.YtbmhiejggkdnkaaGreatDoor
