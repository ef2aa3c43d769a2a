/- What a text's next code point is made of: the bytes that it takes, and the model's iterator at any world. -/
import Derived.Laws.RangeAny
import Derived.Lib.IndexAny
import Derived.Below
namespace Go.Proofs.YtebhiplcoioenaaGreatDoor
open Go.RowKit

theorem get_in (s : ByteArray) (k : Nat) (h : k < s.size) : s.get! k = s[k]'h := by
  simp [ByteArray.get!, getElem!_pos, h]
  rfl
theorem list_in (s : ByteArray) (k : Nat) (h : k < s.size) : s.data.toList[k]? = some (s[k]'h) := Lib.data_getElem? s k h
/-- A byte of 128 or more begins a code point of 128 or more; all of its bytes are 128 or more. -/
theorem dec_high (s : ByteArray) (pos : Nat) (h : pos < s.size) (ha : 128 ≤ (s[pos]'h).toNat) : ∃ n, (Utf8.decode s pos).2 = n + 1 ∧ pos + n < s.size ∧ 128 ≤ (Utf8.decode s pos).1 ∧ ∀ j, j ≤ n → ∃ b, s.data.toList[pos + j]? = some b ∧ 128 ≤ b.toNat := by
  have h0 : s.get! pos = s[pos]'h := get_in s pos h
  have hn : ¬ (s.get! pos).toNat < 128 := by rw [h0]; omega
  have hc : ∀ k, (decide (pos + k < s.size) && (s.get! (pos + k)).toNat / 64 == 2) = true → pos + k < s.size ∧ ∃ b, s.data.toList[pos + k]? = some b ∧ 128 ≤ b.toNat := by
    intro k hk
    simp only [Bool.and_eq_true, decide_eq_true_eq, beq_iff_eq] at hk
    refine ⟨hk.1, s[pos + k]'hk.1, list_in s _ hk.1, ?_⟩
    have := hk.2
    rw [get_in s _ hk.1] at this
    omega
  have hz : ∃ b, s.data.toList[pos + 0]? = some b ∧ 128 ≤ b.toNat := ⟨s[pos]'h, list_in s _ h, ha⟩
  have hd := (decode_high s pos h ha).1
  suffices hs : ∃ n, (Utf8.decode s pos).2 = n + 1 ∧ pos + n < s.size ∧ ∀ j, j ≤ n → ∃ b, s.data.toList[pos + j]? = some b ∧ 128 ≤ b.toNat by
    obtain ⟨n, h1, h2, h3⟩ := hs
    exact ⟨n, h1, h2, hd, h3⟩
  have one : ∃ n, 1 = n + 1 ∧ pos + n < s.size ∧ ∀ j, j ≤ n → ∃ b, s.data.toList[pos + j]? = some b ∧ 128 ≤ b.toNat := ⟨0, rfl, h, fun j hj => by
    have e : j = 0 := (by omega)
    subst e
    exact hz⟩
  simp only [Utf8.decode, Nat.add_zero, if_neg hn]
  split
  · next h1 =>
    simp only [Bool.and_eq_true] at h1
    have c1 := hc 1 (by simpa using h1.2)
    split
    · exact ⟨1, rfl, c1.1, fun j hj => by
        rcases Nat.lt_or_ge j 1 with h | h
        · obtain rfl : j = 0 := by omega
          exact hz
        · obtain rfl : j = 1 := by omega
          exact c1.2⟩
    · exact one
  · split
    · next _ h1 =>
      simp only [Bool.and_eq_true] at h1
      have c1 := hc 1 (by simpa using h1.1.2)
      have c2 := hc 2 (by simpa using h1.2)
      split
      · exact ⟨2, rfl, c2.1, fun j hj => by
          rcases Nat.lt_or_ge j 1 with h | h
          · obtain rfl : j = 0 := by omega
            exact hz
          · rcases Nat.lt_or_ge j 2 with h | h
            · obtain rfl : j = 1 := by omega
              exact c1.2
            · obtain rfl : j = 2 := by omega
              exact c2.2⟩
      · exact one
    · split
      · next _ _ h1 =>
        simp only [Bool.and_eq_true] at h1
        have c1 := hc 1 (by simpa using h1.1.1.2)
        have c2 := hc 2 (by simpa using h1.1.2)
        have c3 := hc 3 (by simpa using h1.2)
        split
        · exact ⟨3, rfl, c3.1, fun j hj => by
            rcases Nat.lt_or_ge j 1 with h | h
            · obtain rfl : j = 0 := by omega
              exact hz
            · rcases Nat.lt_or_ge j 2 with h | h
              · obtain rfl : j = 1 := by omega
                exact c1.2
              · rcases Nat.lt_or_ge j 3 with h | h
                · obtain rfl : j = 2 := by omega
                  exact c2.2
                · obtain rfl : j = 3 := by omega
                  exact c3.2⟩
        · exact one
      · exact one

/-- The world behind one step of the iterator at block k. -/
def nxt (W : World) (k : Nat) (o : Obj) : World := { W with heap := W.heap.setIfInBounds k o }
theorem nxt_at (W : World) (k : Nat) (o o' : Obj) (h : W.heap[k]? = some o') : (nxt W k o).heap[k]? = some o := by
  have hk : k < W.heap.size := (Array.getElem?_eq_some_iff.1 h).1
  show (W.heap.setIfInBounds k o)[k]? = _
  simp [hk]
theorem nxt_below {B : Nat} {w W : World} (h : Below B w W) (k : Nat) (o : Obj) (hk : B ≤ k) : Below B w (nxt W k o) :=
  h.trans ⟨rfl, rfl, rfl, by simp [nxt], fun i hi => by
    show (W.heap.setIfInBounds k o)[i]? = _
    rw [Array.getElem?_setIfInBounds_ne (by omega)]⟩
section
variable {P : Program}
theorem next_at (W : World) (k : Nat) (s : ByteArray) (pos : Nat) (hk : W.heap[k]? = some (.stringIter s pos)) (h : pos < s.size) (ty : TypeId) :
    (Instr.next (.pointer (some ⟨k, 0, none⟩)) true ty).run P W = .ok (.tuple #[.bool true, .int .i64 pos, .int .i32 (Utf8.decode s pos).1]) (nxt W k (.stringIter s (pos + (Utf8.decode s pos).2))) := by
  simp only [Instr.next, getObj, setObj, Sem.run_bind, Sem.run, hk, Result.andThen, h, if_true]
  simp [goInt, nxt]
theorem next_end (W : World) (k : Nat) (s : ByteArray) (pos : Nat) (hk : W.heap[k]? = some (.stringIter s pos)) (h : ¬ pos < s.size) (ty : TypeId) :
    (Instr.next (.pointer (some ⟨k, 0, none⟩)) true ty).run P W = .ok (.tuple #[.bool false]) W := by
  simp [Instr.next, getObj, Sem.run, hk, h]
end
end Go.Proofs.YtebhiplcoioenaaGreatDoor
