/- What the laws take of the reference. -/
import Derived.Test.YtbmhiejggkdnkaaGreatDoorLawKit2
import Derived.Test.YtbmhiejggkdnkaaGreatDoorROf
import Derived.Test.YtbmhiejggkdnkaaGreatDoorRForm
import Derived.Test.YtbmhiejggkdnkaaGreatDoorRCmp
namespace Go.Proofs.YtbmhiejggkdnkaaGreatDoor
open Go.RowKit

theorem of_ok (s : ByteArray) (A : Nat) (w : World) (hs : s.size ≤ 10000000) (hA : nv s = A) :
    Calls Tryz.prog 9 #[.string s] w fun e w' => ∃ ao n c, e = .returned (.slice ao n c) ∧ RN w' ao n c A ∧ Below w.heap.size w w' := by
  have h := of_any s w hs
  rw [show bv s.data.toList = A from hA] at h
  exact h
theorem form_ok (ao : Option Addr) (n c v : Nat) (w : World) (ha : RN w ao n c v) (hn : n ≤ 10000000) :
    Calls Tryz.prog 12 #[.slice ao n c] w fun e w' => e = .returned (.string (tx v)) ∧ Below w.heap.size w w' := rform_any ao n c v w ha hn
theorem rcmp_ok (ao bo : Option Addr) (n c m d a b : Nat) (w : World) (ha : RN w ao n c a) (hb : RN w bo m d b) :
    Calls Tryz.prog 10 #[.slice ao n c, .slice bo m d] w fun e w' => e = .returned (.int .i64 (cmpN a b)) ∧ Below w.heap.size w w' :=
  (rcmp_any ao bo n c m d a b w ha hb).mono fun _ _ ⟨he, q, hq⟩ => ⟨he, by rw [hq]; exact below_drawn (Below.refl _ _) q⟩
theorem bits_okB (a : ByteArray) (A : Nat) (w : World) (ha : a.size ≤ 1152921504606846975) (hA : nv a = A) :
    Calls Tryz.prog 29 #[.string a] w fun e w' => e = .returned (.int .i64 (Dg.len 2 A)) ∧ Below w.heap.size w w' := by
  have h := Bits_any a w ha
  rw [hA] at h
  exact h.mono fun _ _ ⟨he, q, hq⟩ => ⟨he, by rw [hq]; exact below_drawn (Below.refl _ _) q⟩
theorem rn_of_lt {w : World} {ao : Option Addr} {n c v k : Nat} (h : RN w ao n c v) (hv : v < 256 ^ (2 * k)) : n ≤ k := h.le (by rwa [show DB = 256 ^ 2 from rfl, ← Nat.pow_mul])
theorem rn_zero {w : World} {ao : Option Addr} {n c v : Nat} (h : RN w ao n c v) : n = 0 ↔ v = 0 := by
  rw [h.len]
  exact ⟨Dg.eq_zero_of_len DB2, fun h => by rw [h, Dg.len_zero]⟩
theorem nv_pre (l : List UInt8) (a : ByteArray) (h : bv l = 0) : nv (⟨l.toArray⟩ ++ a) = nv a := by
  unfold nv
  have e : ((⟨l.toArray⟩ : ByteArray) ++ a).data.toList = l ++ a.data.toList := by simp
  rw [e, bv_append, h]; simp
end Go.Proofs.YtbmhiejggkdnkaaGreatDoor
