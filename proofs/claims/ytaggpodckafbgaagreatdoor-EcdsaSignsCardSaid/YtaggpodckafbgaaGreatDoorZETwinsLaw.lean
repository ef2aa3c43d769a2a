/- EcdsaTwins: for every input true: out of the contracts. -/
import Derived.Test.YtaggpodckafbgaaGreatDoorZETwins
namespace Go.Proofs.YtaggpodckafbgaaGreatDoor
open Go.RowKit

theorem verR_false {kx ky s sig : ByteArray} (h : ∀ x y hv, Ec.verP (.at x y) hv (nv (sig.extract 0 32)) (nv (sig.extract 32 sig.size)) = false) : verR kx ky s sig = false := by
  unfold verR
  cases inK kx ky with
  | none => rfl
  | some A =>
    cases A with
    | inf => rfl
    | «at» x y =>
      show (if sig.size = 64 then _ else false) = false
      split
      · exact h x y _
      · rfl
theorem size_append (a b : ByteArray) : (a ++ b).size = a.size + b.size := by simp
theorem extract_l (a b : ByteArray) (n : Nat) (ha : a.size = n) : (a ++ b).extract 0 n = a := by
  subst ha
  apply ByteArray.ext
  rw [ByteArray.data_extract, ByteArray.data_append]
  apply Array.ext'
  have h : a.data.toList.length = a.size := by simp
  simp only [Array.toList_extract, Array.toList_append, List.extract_eq_take_drop, List.drop_zero, Nat.sub_zero]
  rw [← h, List.take_left]
theorem extract_r (a b : ByteArray) (n : Nat) (ha : a.size = n) : (a ++ b).extract n (a ++ b).size = b := by
  subst ha
  apply ByteArray.ext
  rw [ByteArray.data_extract, ByteArray.data_append, size_append]
  apply Array.ext'
  have h : a.data.toList.length = a.size := by simp
  have h2 : b.data.toList.length = b.size := by simp
  simp only [Array.toList_extract, Array.toList_append, List.extract_eq_take_drop, Nat.add_sub_cancel_left]
  rw [← h, List.drop_left, ← h2, List.take_length]
theorem txs_pos {v : Nat} (h : 0 < v) : (tx v).toList.isEmpty = false := by
  rw [Go.ByteArray.toList_eq]
  cases h2 : (tx v).data.toList with
  | nil =>
    have h3 := nv_tx v
    unfold nv at h3
    rw [h2] at h3
    rw [bv_nil] at h3
    omega
  | cons _ _ => rfl

theorem law_any (kx ky s sig : ByteArray) (w : World) (_h1 : kx.size ≤ 140737488351232) (_h2 : ky.size ≤ 140737488351232) (h3 : s.size ≤ 140737488351232) (_h4 : sig.size ≤ 140737488351232) :
    Calls Tryz.prog 7 #[.agg (kvc kx ky), .string s, .string sig] w fun e w' => e = .returned (.bool true) ∧ Below w.heap.size w w' := by
  have hv := fun w => ecVerify_any kx ky s sig w (by omega)
  by_cases hl' : ¬ sig.size = 64
  · have e : verR kx ky s sig = false := by
      unfold verR
      cases inK kx ky with
      | none => rfl
      | some A => cases A with
        | inf => rfl
        | «at» x y => exact if_neg hl'
    rw [e] at hv
    exact twins_len kx ky s sig w (by omega) fixed_any hv
  have hl : sig.size = 64 := by omega
  have s1 : (sig.extract 0 32).size = 32 := by rw [ByteArray.size_extract]; omega
  have s2 : (sig.extract 32 sig.size).size = 32 := by rw [ByteArray.size_extract, Nat.min_self]; omega
  have tl := nv_lt32 (Nat.le_of_eq s2)
  obtain ⟨t, ht⟩ : ∃ t, t = nv (sig.extract 32 sig.size) := ⟨_, rfl⟩
  by_cases hN : Ec.N < t
  · have e : verR kx ky s sig = false := verR_false fun x y hv => Ec.verP_tN _ _ _ (by rw [← ht]; omega)
    rw [e] at hv
    exact twins_over kx ky s sig _ w (by omega) fixed_any hv order_ok (fun w => sub_no _ _ Ec.N t w (by decide) (by omega) nv_tn ht.symm hN)
  have hsub := fun w => sub_ok ⟨tn.toArray⟩ (sig.extract 32 sig.size) Ec.N t w (by decide) (by omega) nv_tn ht.symm (by omega)
  have htr := fun w => (Trim_any (sig.extract 32 sig.size) w).mono (R' := fun e w' => e = .returned (.string (tx t)) ∧ Below w.heap.size w w') fun e w' h => ⟨by rw [h.1, ht]; rfl, by rw [← h.2]; exact Below.refl _ _⟩
  by_cases ht0 : t = 0
  · have e : verR kx ky s sig = false := verR_false fun x y hv => by rw [← ht, ht0]; exact Ec.verP_t0 _ _ _
    rw [e] at hv
    have e2 : tx t = ⟨#[]⟩ := by
      rw [ht0]
      have h0 := tx_le (v := 0) (k := 0) (by decide)
      exact ByteArray.ext (Array.eq_empty_of_size_eq_zero (show (tx 0).size = 0 by omega))
    rw [e2] at htr
    exact twins_none kx ky s sig _ _ w (by omega) fixed_any hv order_ok hsub htr
  · have hxs : (tx (Ec.N - t)).size ≤ 32 := tx_le (Nat.lt_of_le_of_lt (Nat.sub_le _ _) (by decide))
    obtain ⟨ep, el⟩ := pad_size hxs
    obtain ⟨z, hz⟩ : ∃ z : ByteArray, z = ⟨(List.replicate (32 - Dg.len 256 (nv (tx (Ec.N - t)))) 0 ++ fm (nv (tx (Ec.N - t)))).toArray⟩ := ⟨_, rfl⟩
    have hzs : z.size = 32 := by rw [hz, str_size]; exact el
    have hzv : nv z = Ec.N - t := by
      rw [hz]
      show bv (List.replicate (32 - Dg.len 256 (nv (tx (Ec.N - t)))) 0 ++ fm (nv (tx (Ec.N - t)))) = _
      rw [bv_rep, bv_fm, nv_tx]
    have hpad := fun w => Pad_any (tx (Ec.N - t)) 32 w (by omega)
    rw [ep] at hpad
    unfold ret2 at hpad
    simp only [← hz] at hpad
    have hv2 := fun w => ecVerify_any kx ky s (sig.extract 0 32 ++ z) w (by omega)
    have hsz : (sig.extract 0 32 ++ z).size = 64 := by rw [size_append]; omega
    have e : verR kx ky s (sig.extract 0 32 ++ z) = verR kx ky s sig := by
      unfold verR
      cases hK : inK kx ky with
      | none => rfl
      | some A => cases A with
        | inf => rfl
        | «at» x y =>
          show (if (sig.extract 0 32 ++ z).size = 64 then _ else false) = (if sig.size = 64 then _ else false)
          rw [if_pos hsz, if_pos hl, extract_l _ _ 32 s1, extract_r _ _ 32 s1, hzv, ← ht]
          rcases Nat.lt_or_ge t Ec.N with h | h
          · exact (Ec.verP_twin (inK_on hK) _ _ _ (by omega) h).symm
          · have : t = Ec.N := by omega
            rw [this, Nat.sub_self, Ec.verP_t0, Ec.verP_tN _ _ _ (Nat.le_refl _)]
    rw [e] at hv2
    exact twins_two kx ky s sig _ _ _ z w _ (by omega) hzs (txs_pos (by omega)) fixed_any hv order_ok hsub htr hpad hv2
end Go.Proofs.YtaggpodckafbgaaGreatDoor
