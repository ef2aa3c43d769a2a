/- What fits as PSS: plain. -/
import Derived.Test.YtjkjlbchbbpmaaaGreatDoorZSMask
namespace Go.Proofs.YtjkjlbchbbpmaaaGreatDoor
open Go.RowKit

def byteAt (s : ByteArray) (i : Nat) : Nat := (s.data.toList.getD i 0).toNat
theorem byteAt_lt (s : ByteArray) (i : Nat) : byteAt s i < 256 := UInt8.toNat_lt _
/-- A row of bytes by a function. -/
def rowL (f : Nat → Nat) (n : Nat) : List UInt8 := (List.range n).map fun i => UInt8.ofNat (f i)
theorem rowL_length (f : Nat → Nat) (n : Nat) : (rowL f n).length = n := by simp [rowL]
theorem rowL_at (f : Nat → Nat) (n i : Nat) (h : i < n) : (rowL f n)[i]? = some (UInt8.ofNat (f i)) := by simp [rowL, h]
theorem rowL_getD (f : Nat → Nat) (n i : Nat) (h : i < n) : (rowL f n).getD i 0 = UInt8.ofNat (f i) := by
  rw [List.getD_eq_getElem?_getD, rowL_at f n i h]; rfl
theorem rowL_congr {f g : Nat → Nat} {n : Nat} (h : ∀ i, i < n → f i = g i) : rowL f n = rowL g n := by
  unfold rowL
  exact List.map_congr_left fun i hi => by rw [h i (List.mem_range.1 hi)]
theorem rowL_set (f : Nat → Nat) (n j x : Nat) : (rowL f n).set j (UInt8.ofNat x) = rowL (fun i => if i = j then x else f i) n := by
  apply List.ext_getElem?
  intro i
  rw [List.getElem?_set]
  by_cases hi : i < n
  · rw [rowL_at (fun i => if i = j then x else f i) n i hi]
    by_cases e : j = i
    · subst e
      rw [if_pos rfl, if_pos (by rw [rowL_length]; exact hi), if_pos rfl]
    · rw [if_neg e, rowL_at f n i hi, if_neg (fun h => e h.symm)]
  · rw [List.getElem?_eq_none (by rw [rowL_length]; omega), List.getElem?_eq_none (by rw [rowL_length]; omega)]
    split
    · split
      · rename_i h1 h2; rw [rowL_length] at h2; omega
      · rfl
    · rfl
theorem rowL_inj {f g : Nat → Nat} {n : Nat} (hf : ∀ i, i < n → f i < 256) (hg : ∀ i, i < n → g i < 256) (h : rowL f n = rowL g n) : ∀ i, i < n → f i = g i := fun i hi => by
  have h1 := rowL_at f n i hi
  rw [h, rowL_at g n i hi] at h1
  have h2 := congrArg UInt8.toNat (Option.some.inj h1)
  have h3 := hf i hi
  have h4 := hg i hi
  simp only [UInt8.toNat_ofNat'] at h2
  omega
theorem rowL_list (l : List UInt8) : rowL (fun i => (l.getD i 0).toNat) l.length = l := by
  apply List.ext_getElem?
  intro i
  by_cases hi : i < l.length
  · rw [rowL_at _ _ i hi, List.getElem?_eq_getElem hi]
    simp [List.getD, List.getElem?_eq_getElem hi]
  · rw [List.getElem?_eq_none (by rw [rowL_length]; omega), List.getElem?_eq_none (by omega)]
theorem rowL_drop (f : Nat → Nat) (n k : Nat) : (rowL f n).drop k = rowL (fun i => f (k + i)) (n - k) := by
  apply List.ext_getElem?
  intro i
  rw [List.getElem?_drop]
  by_cases hi : k + i < n
  · rw [rowL_at f n _ hi, rowL_at _ _ i (by omega)]
  · rw [List.getElem?_eq_none (by rw [rowL_length]; omega), List.getElem?_eq_none (by rw [rowL_length]; omega)]
theorem rowL_take (f : Nat → Nat) (n k : Nat) (h : k ≤ n) : (rowL f n).take k = rowL f k := by
  apply List.ext_getElem?
  intro i
  rw [List.getElem?_take]
  by_cases hi : i < k
  · rw [if_pos hi, rowL_at f n i (by omega), rowL_at f k i hi]
  · rw [if_neg hi, List.getElem?_eq_none (by rw [rowL_length]; omega)]

def mskF (h : ByteArray) (i : Nat) : Nat := ((mskL h 16).getD i 0).toNat
theorem mskF_lt (h : ByteArray) (i : Nat) : mskF h i < 256 := UInt8.toNat_lt _
def zero8 : ByteArray := ⟨(List.replicate 8 0).toArray⟩
/-- The sum within. -/
def hashIn (s salt : ByteArray) : ByteArray := sha (zero8 ++ sha s ++ salt)
/-- The sum that a block names. -/
def hOf (block : ByteArray) : ByteArray := block.extract (block.size - 33) (block.size - 1)
/-- What stands in the part that was masked. -/
def inF (block : ByteArray) (T i : Nat) : Nat := if i = 0 then (byteAt block 0 ^^^ mskF (hOf block) 0) % T else byteAt block i ^^^ mskF (hOf block) i
def saltOf (block : ByteArray) (T : Nat) : ByteArray := ⟨(rowL (fun i => inF block T (block.size - 65 + i)) 32).toArray⟩
/-- The block as the document lays it: n bytes, below T in the first. -/
def dF (salt : ByteArray) (n i : Nat) : Nat := if i < n - 66 then 0 else if i = n - 66 then 1 else byteAt salt (i - (n - 65))
def aF (h salt : ByteArray) (n T i : Nat) : Nat := if i = 0 then (dF salt n 0 ^^^ mskF h 0) % T else dF salt n i ^^^ mskF h i
def pssL (h salt : ByteArray) (n T : Nat) : List UInt8 := rowL (aF h salt n T) (n - 33) ++ (h.data.toList ++ [188])

theorem xor_lt {a b : Nat} (ha : a < 256) (hb : b < 256) : a ^^^ b < 256 := Nat.xor_lt_two_pow (n := 8) ha hb
theorem xor_mod {a b k : Nat} : (a ^^^ b) % 2 ^ k = (a % 2 ^ k) ^^^ (b % 2 ^ k) := Nat.xor_mod_two_pow
theorem xor_back (a b : Nat) : (a ^^^ b) ^^^ b = a := by rw [Nat.xor_assoc, Nat.xor_self, Nat.xor_zero]
theorem inF_lt (block : ByteArray) (T i : Nat) : inF block T i < 256 := by
  unfold inF
  split
  · exact Nat.lt_of_le_of_lt (Nat.mod_le _ _) (xor_lt (byteAt_lt _ _) (mskF_lt _ _))
  · exact xor_lt (byteAt_lt _ _) (mskF_lt _ _)
theorem dF_lt (salt : ByteArray) (n i : Nat) : dF salt n i < 256 := by
  unfold dF
  split
  · omega
  · split
    · omega
    · exact byteAt_lt _ _
theorem aF_lt (h salt : ByteArray) (n T i : Nat) : aF h salt n T i < 256 := by
  unfold aF
  split
  · exact Nat.lt_of_le_of_lt (Nat.mod_le _ _) (xor_lt (dF_lt _ _ _) (mskF_lt _ _))
  · exact xor_lt (dF_lt _ _ _) (mskF_lt _ _)

theorem block_split (block : ByteArray) (h : 66 ≤ block.size) : block.data.toList = rowL (byteAt block) (block.size - 33) ++ ((hOf block).data.toList ++ [UInt8.ofNat (byteAt block (block.size - 1))]) := by
  have hl : block.data.toList.length = block.size := by simp
  have e1 := rowL_list block.data.toList
  rw [hl] at e1
  have e2 : block.data.toList = block.data.toList.take (block.size - 33) ++ ((block.data.toList.drop (block.size - 33)).take 32 ++ block.data.toList.drop (block.size - 1)) := by
    have a1 := (List.take_append_drop (block.size - 33) block.data.toList).symm
    have a2 := (List.take_append_drop 32 (block.data.toList.drop (block.size - 33))).symm
    rw [List.drop_drop, show block.size - 33 + 32 = block.size - 1 by omega] at a2
    rw [← a2]; exact a1
  have e3 : block.data.toList.take (block.size - 33) = rowL (byteAt block) (block.size - 33) := by
    conv => lhs; rw [← e1]
    exact rowL_take _ _ _ (by omega)
  have e4 : (block.data.toList.drop (block.size - 33)).take 32 = (hOf block).data.toList := by
    unfold hOf
    simp only [ByteArray.data_extract, Array.toList_extract, List.extract_eq_take_drop]
    rw [show block.size - 1 - (block.size - 33) = 32 by omega]
  have e5 : block.data.toList.drop (block.size - 1) = [UInt8.ofNat (byteAt block (block.size - 1))] := by
    rw [List.drop_eq_getElem_cons (by omega), List.drop_eq_nil_of_le (by omega)]
    congr 1
    unfold byteAt
    rw [List.getD_eq_getElem?_getD, List.getElem?_eq_getElem (by omega)]
    simp
  exact e2.trans (by rw [e3, e4, e5])

theorem byteAt_mk (l : List UInt8) (i : Nat) : byteAt ⟨l.toArray⟩ i = (l.getD i 0).toNat := by simp [byteAt]
theorem saltOf_at (block : ByteArray) (T i : Nat) (hi : i < 32) : byteAt (saltOf block T) i = inF block T (block.size - 65 + i) := by
  unfold saltOf
  rw [byteAt_mk, rowL_getD _ _ _ hi]
  have := inF_lt block T (block.size - 65 + i)
  simp only [UInt8.toNat_ofNat']
  omega

/-- A block is as the document lays it just if it looks so within. -/
theorem fits_iff (hs block : ByteArray) (T k : Nat) (hT : T = 2 ^ k) (hk : 1 ≤ k) (h66 : 66 ≤ block.size) (hsl : hs.data.toList.length = 32) :
    block.data.toList = pssL hs (saltOf block T) block.size T ↔
      byteAt block (block.size - 1) = 188 ∧ byteAt block 0 < T ∧ (∀ i, i < block.size - 66 → inF block T i = 0) ∧ inF block T (block.size - 66) = 1 ∧ hs = hOf block := by
  have hT2 : 2 ≤ T := by
    rw [hT]
    calc 2 = 2 ^ 1 := rfl
      _ ≤ 2 ^ k := Nat.pow_le_pow_right (by omega) hk
  have hhl : (hOf block).data.toList.length = 32 := by
    unfold hOf
    simp only [ByteArray.data_extract, Array.toList_extract, List.extract_eq_take_drop, List.length_take, List.length_drop]
    have : block.data.toList.length = block.size := by simp
    omega
  have hb := block_split block h66
  rw [hb]
  constructor
  · intro h
    unfold pssL at h
    obtain ⟨h1, h2⟩ := List.append_inj h (by rw [rowL_length, rowL_length])
    obtain ⟨h3, h4⟩ := List.append_inj h2 (by rw [hhl, hsl])
    have hh : hs = hOf block := by
      apply ByteArray.ext
      exact Array.toList_inj.1 h3.symm
    have hz : byteAt block (block.size - 1) = 188 := by
      have := byteAt_lt block (block.size - 1)
      injection h4 with h4
      have h5 := congrArg UInt8.toNat h4
      simp only [UInt8.toNat_ofNat'] at h5
      have : (188 : UInt8).toNat = 188 := rfl
      omega
    have hrow := rowL_inj (fun i _ => byteAt_lt block i) (fun i _ => aF_lt _ _ _ _ i) h1
    have hd : ∀ i, i < block.size - 33 → inF block T i = dF (saltOf block T) block.size i := by
      intro i hi
      have h5 := hrow i hi
      unfold aF at h5
      rw [hh] at h5
      unfold inF
      by_cases h0 : i = 0
      · subst h0
        rw [if_pos rfl] at h5 ⊢
        rw [h5, hT, xor_mod, Nat.mod_mod, ← xor_mod, xor_back]
        refine Nat.mod_eq_of_lt ?_
        rw [← hT]
        unfold dF
        split
        · omega
        · rw [if_pos (by omega)]; omega
      · rw [if_neg h0] at h5 ⊢
        rw [h5, xor_back]
    refine ⟨hz, ?_, fun i hi => ?_, ?_, hh⟩
    · have h5 := hrow 0 (by omega)
      unfold aF at h5
      rw [if_pos rfl] at h5
      rw [h5]
      exact Nat.mod_lt _ (by omega)
    · rw [hd i (by omega)]; unfold dF; rw [if_pos hi]
    · rw [hd _ (by omega)]; unfold dF; rw [if_neg (by omega), if_pos rfl]
  · rintro ⟨hz, h0, hzero, hone, hh⟩
    unfold pssL
    rw [hh, hz]
    refine congrArg (fun x => x ++ ((hOf block).data.toList ++ [188])) (rowL_congr fun i hi => ?_)
    have hd : dF (saltOf block T) block.size i = inF block T i := by
      unfold dF
      by_cases h1 : i < block.size - 66
      · rw [if_pos h1, hzero i h1]
      · rw [if_neg h1]
        by_cases h2 : i = block.size - 66
        · rw [if_pos h2, h2, hone]
        · rw [if_neg h2, saltOf_at block T _ (by omega)]
          rw [show block.size - 65 + (i - (block.size - 65)) = i by omega]
    unfold aF
    by_cases h1 : i = 0
    · subst h1
      rw [if_pos rfl, hd]
      unfold inF
      rw [if_pos rfl, hT, xor_mod, Nat.mod_mod, ← xor_mod, xor_back, ← hT, Nat.mod_eq_of_lt h0]
    · rw [if_neg h1, hd]
      unfold inF
      rw [if_neg h1, xor_back]
end Go.Proofs.YtjkjlbchbbpmaaaGreatDoor
