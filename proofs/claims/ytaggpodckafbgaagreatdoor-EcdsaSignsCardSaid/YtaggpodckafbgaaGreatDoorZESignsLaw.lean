/- EcdsaSigns: for every input true: out of the contracts. -/
import Derived.Test.YtaggpodckafbgaaGreatDoorZESigns
import Derived.Test.YtaggpodckafbgaaGreatDoorZETwinsLaw
import Derived.Test.YtaggpodckafbgaaGreatDoorZInvPubE
namespace Go.Proofs.YtaggpodckafbgaaGreatDoor.ecdsaSigns
open Go.RowKit Go.Proofs.YtaggpodckafbgaaGreatDoor

theorem tx_zero : tx 0 = ⟨#[]⟩ := by unfold tx; rw [fm_zero]
theorem pad_tx (v : Nat) (hv : v < 256 ^ 32) : ∃ z : ByteArray, z.size = 32 ∧ nv z = v ∧ ∀ w : World, Calls Tryz.prog 24 #[.string (tx v), .int .i64 32] w fun e w' => e = .returned (.tuple #[.string z, .int .i64 0]) ∧ Below w.heap.size w w' := by
  have hxs := tx_le hv
  obtain ⟨ep, el⟩ := pad_size hxs
  refine ⟨⟨(List.replicate (32 - Dg.len 256 (nv (tx v))) 0 ++ fm (nv (tx v))).toArray⟩, by rw [str_size]; exact el, ?_, fun w => ?_⟩
  · show bv (List.replicate (32 - Dg.len 256 (nv (tx v))) 0 ++ fm (nv (tx v))) = _
    rw [bv_rep, bv_fm, nv_tx]
  · have hpad := Pad_any (tx v) 32 w (by omega)
    rw [ep] at hpad
    exact hpad
theorem verR_ab {kx ky s a b : ByteArray} {X Y : Ec.F} (hK : inK kx ky = some (.at X Y)) (ha : a.size = 32) (hb : b.size = 32) : verR kx ky s (a ++ b) = Ec.verP (.at X Y) (nv (sha s)) (nv a) (nv b) := by
  unfold verR
  rw [hK]
  show (if (a ++ b).size = 64 then _ else false) = _
  rw [if_pos (by rw [size_append]; omega), extract_l _ _ 32 ha, extract_r _ _ 32 ha]
theorem verR_len {kx ky s x : ByteArray} (h : ¬ x.size = 64) : verR kx ky s x = false := by
  unfold verR
  cases inK kx ky with
  | none => rfl
  | some A => cases A with
    | inf => rfl
    | «at» X Y => exact if_neg h
theorem nG_at {k : Nat} (h0 : 0 < k) (hk : k < Ec.N) : ∃ X Y, Ec.nA Ec.G k = .at X Y := by
  cases h : Ec.nA Ec.G k with
  | inf => exact (Ec.nG_zero Ec.ordN h0 hk h).elim
  | «at» X Y => exact ⟨X, Y, rfl⟩
theorem zs_nv (n : Nat) : nv (zs n) = 0 := by
  show bv (List.replicate n 0) = 0
  have h := bv_rep n []
  rw [List.append_nil] at h
  rw [h, bv_nil]

theorem law_any (d k s : ByteArray) (w : World) (_h1 : d.size ≤ 140737488351232) (_h2 : k.size ≤ 140737488351232) (h3 : s.size ≤ 140737488351232) :
    Calls Tryz.prog 10 #[.string d, .string k, .string s] w fun e w' => e = .returned (.bool true) ∧ Below w.heap.size w w' := by
  by_cases hd : ¬ (d.size : Int) ≤ 100
  · exact signs_long1 d k s w hd fixed_any
  by_cases hk : ¬ (k.size : Int) ≤ 100
  · exact signs_long2 d k s w (by omega) hk fixed_any
  have hd' : (d.size : Int) ≤ 100 := by omega
  have hk' : (k.size : Int) ≤ 100 := by omega
  clear hd hk
  have g2 := fun w => div_ok d ⟨tn.toArray⟩ (nv d) Ec.N w (by omega) (by decide) rfl nv_tn N_pos
  have g3 := fun w => div_ok k ⟨tn.toArray⟩ (nv k) Ec.N w (by omega) (by decide) rfl nv_tn N_pos
  have hDl : nv d % Ec.N < Ec.N := Nat.mod_lt _ N_pos
  have hKl : nv k % Ec.N < Ec.N := Nat.mod_lt _ N_pos
  generalize nv d % Ec.N = D at *
  generalize nv k % Ec.N = K at *
  by_cases hD0 : D = 0
  · exact signs_d0 d k s _ _ _ _ _ w hd' hk' (by rw [hD0, tx_zero]; exact (nil_iff _).2 rfl) fixed_any order_ok g2 g3
  by_cases hK0 : K = 0
  · exact signs_k0 d k s _ _ _ _ _ w hd' hk' (txs_pos (by omega)) (by rw [hK0, tx_zero]; exact (nil_iff _).2 rfl) fixed_any order_ok g2 g3
  obtain ⟨X, Y, hQ⟩ := nG_at (k := D) (by omega) hDl
  obtain ⟨X1, Y1, hP⟩ := nG_at (k := K) (by omega) hKl
  have hD32 : D < 256 ^ 32 := Nat.lt_trans hDl (by decide)
  have hK32 : K < 256 ^ 32 := Nat.lt_trans hKl (by decide)
  have tD := tx_le hD32
  have tK := tx_le hK32
  have g4 := fun w => multiple_ok (tx D) (by omega) w
  have g5 := fun w => multiple_ok (tx K) (by omega) w
  rw [nv_tx, hQ] at g4
  rw [nv_tx, hP] at g5
  have hin : inK (outK (.at X Y)).1 (outK (.at X Y)).2 = some (.at X Y) := inK_out (by rw [← hQ]; exact Ec.On.nA Ec.G_on D)
  have sx : (outK (.at X1 Y1)).1.size = 32 := pb_size _ _
  have vx : nv (outK (.at X1 Y1)).1 = X1.val := nv_pb (F_lt X1)
  have g6 := fun w => div_ok (outK (.at X1 Y1)).1 ⟨tn.toArray⟩ X1.val Ec.N w (by omega) (by decide) vx nv_tn N_pos
  obtain ⟨r, hr⟩ : ∃ r, r = X1.val % Ec.N := ⟨_, rfl⟩
  have hrl : r < Ec.N := by rw [hr]; exact Nat.mod_lt _ N_pos
  rw [← hr] at g6
  have hr32 : r < 256 ^ 32 := Nat.lt_trans hrl (by decide)
  have tr := tx_le hr32
  have g7 := fun w => mul_ok (tx r) (tx D) r D w (by omega) (by omega) (nv_tx r) (nv_tx D)
  have hrd : r * D < 256 ^ 64 := Nat.lt_of_lt_of_le (Nat.mul_lt_mul_of_lt_of_lt hr32 hD32) (by decide)
  have trd := tx_le hrd
  have g8 := fun w => sum256_any s (by omega) w
  have hhs := sha_size s
  obtain ⟨h, hh⟩ : ∃ h, h = nv (sha s) := ⟨_, rfl⟩
  have hh32 : h < 256 ^ 32 := by rw [hh]; exact Nat.lt_of_lt_of_le (nv_size (sha s)) (by rw [hhs]; exact Nat.le_refl _)
  have g9 := fun w => add_ok (sha s) (tx (r * D)) h (r * D) w (by omega) (by omega) hh.symm (nv_tx _)
  have hsm : h + r * D < 256 ^ 65 := sum_size (Nat.lt_of_lt_of_le hh32 (Nat.pow_le_pow_right (by omega) (by omega))) hrd
  have tsm := tx_le hsm
  have hgcd : Nat.gcd Ec.N K = 1 := by
    have hnd : ¬ Ec.N ∣ K := fun h => by have := Nat.le_of_dvd (by omega) h; omega
    exact (Ec.hN.coprime hnd).symm
  have hinv : ∃ i, i < Ec.N ∧ i * K % Ec.N = 1 ∧ ∀ w : World, Calls Tryz.prog 30 #[.string (tx K), .string ⟨tn.toArray⟩] w fun e w' => e = .returned (.tuple #[.string (tx i), .int .i64 0]) ∧ Below w.heap.size w w' := by
    refine ⟨K ^ (Ec.N - 2) % Ec.N, Nat.mod_lt _ N_pos, ?_, fun w => (Inv_any (tx K) ⟨tn.toArray⟩ w (by omega) (by decide)).mono ?_⟩
    · have := Ec.ivN_ok Ec.hN (a := K) (by rw [Nat.mod_eq_of_lt hKl]; exact hK0)
      rw [Nat.mul_comm] at this
      exact this
    · rintro e w' ⟨⟨l, n, rfl, hR⟩, hb⟩
      unfold InvR at hR
      rw [if_neg (by have : (⟨tn.toArray⟩ : ByteArray).size = 32 := rfl; omega), nv_tn, if_neg (by have := N_pos; omega), nv_tx, if_neg (by rw [hgcd]; exact fun h => h rfl)] at hR
      obtain ⟨rfl, x, hx, hxe, rfl⟩ := hR
      refine ⟨?_, hb⟩
      have e1 : x = K ^ (Ec.N - 2) % Ec.N := by
        have a1 := Ec.ivN_ok Ec.hN (a := K) (by rw [Nat.mod_eq_of_lt hKl]; exact hK0)
        have hnd : ¬ Ec.N ∣ K := fun h => by have := Nat.le_of_dvd (by omega) h; omega
        have a2 := Ec.cancel_mod (x := x) (y := Ec.ivN Ec.N K) (Ec.hN.coprime hnd) (by rw [a1, Nat.mul_comm, hxe, Nat.mod_eq_of_lt (by decide)])
        rw [Nat.mod_eq_of_lt hx, Nat.mod_eq_of_lt (Ec.ivN_lt Ec.hN K)] at a2
        exact a2
      rw [e1]; rfl
  obtain ⟨i, hil, hik, g10⟩ := hinv
  have hi32 : i < 256 ^ 32 := Nat.lt_trans hil (by decide)
  have ti := tx_le hi32
  have g11 := fun w => mul_ok (tx (h + r * D)) (tx i) (h + r * D) i w (by omega) (by omega) (nv_tx _) (nv_tx _)
  have hsi : (h + r * D) * i < 256 ^ 97 := Nat.lt_of_lt_of_le (Nat.mul_lt_mul_of_lt_of_lt hsm hi32) (by decide)
  have tsi := tx_le hsi
  have g12 := fun w => div_ok (tx ((h + r * D) * i)) ⟨tn.toArray⟩ ((h + r * D) * i) Ec.N w (by omega) (by decide) (nv_tx _) nv_tn N_pos
  obtain ⟨t, ht⟩ : ∃ t, t = (h + r * D) * i % Ec.N := ⟨_, rfl⟩
  have htl : t < Ec.N := by rw [ht]; exact Nat.mod_lt _ N_pos
  rw [← ht] at g12
  have hchk : checkR (outK (.at X Y)).1 (outK (.at X Y)).2 = 0 := by unfold checkR; rw [hin]
  have g13 := fun w => Check_any (outK (.at X Y)).1 (outK (.at X Y)).2 w
  rw [hchk] at g13
  by_cases hr0 : r = 0
  · exact signs_r0 d k s _ _ _ _ _ _ _ _ _ _ _ _ _ _ _ _ _ _ w hd' hk' (txs_pos (by omega)) (txs_pos (by omega)) (by rw [hr0, tx_zero]; exact (nil_iff _).2 rfl) fixed_any order_ok g2 g3 g4 g5 g6 g7 g8 g9 g10 g11 g12 g13
  by_cases ht0 : t = 0
  · exact signs_t0 d k s _ _ _ _ _ _ _ _ _ _ _ _ _ _ _ _ _ _ w hd' hk' (txs_pos (by omega)) (txs_pos (by omega)) (txs_pos (by omega)) (by rw [ht0, tx_zero]; exact (nil_iff _).2 rfl) fixed_any order_ok g2 g3 g4 g5 g6 g7 g8 g9 g10 g11 g12 g13
  have ht32 : t < 256 ^ 32 := Nat.lt_trans htl (by decide)
  have tt := tx_le ht32
  obtain ⟨a, ha, hav, g14⟩ := pad_tx r hr32
  obtain ⟨b, hb, hbv, g15⟩ := pad_tx t ht32
  have g16 := fun w => sub_ok ⟨tn.toArray⟩ (tx t) Ec.N t w (by decide) (by omega) nv_tn (nv_tx t) (by omega)
  obtain ⟨c, hc, hcv, g17⟩ := pad_tx (Ec.N - t) (Nat.lt_of_le_of_lt (Nat.sub_le _ _) (by decide))
  have hns : (⟨tn.toArray⟩ : ByteArray).size = 32 := rfl
  have hver := Ec.verP_sign hKl hP hr hr0 hik ht.symm ht0
  rw [hQ] at hver
  have htw := Ec.verP_twin (A := .at X Y) (inK_on hin) h r t (by omega) htl
  have v18 := verR_ab (s := s) hin ha hb
  rw [hav, hbv, ← hh, hver] at v18
  have v19 := verR_ab (s := s) hin ha hc
  rw [hav, hcv, ← hh, ← htw, hver] at v19
  have v20 : verR (outK (.at X Y)).1 (outK (.at X Y)).2 s (a ++ b ++ ⟨#[0]⟩) = false := verR_len (by rw [size_append, size_append]; show ¬ a.size + b.size + 1 = 64; omega)
  have v21 : verR (outK (.at X Y)).1 (outK (.at X Y)).2 s (a ++ b.extract 1 b.size) = false := verR_len (by rw [size_append, ByteArray.size_extract, Nat.min_self]; omega)
  have v22 := verR_ab (s := s) hin ha (zs_size 32)
  rw [zs_nv, Ec.verP_t0] at v22
  have v23 := verR_ab (s := s) hin (zs_size 32) hb
  rw [zs_nv, Ec.verP_r0] at v23
  have v24 := verR_ab (s := s) hin ha hns
  rw [nv_tn, Ec.verP_tN _ _ _ (Nat.le_refl _)] at v24
  have v25 := verR_ab (s := s) hin hns hb
  rw [nv_tn, Ec.verP_rN _ _ _ (Nat.le_refl _)] at v25
  have v26 : verR ⟨#[]⟩ ⟨#[]⟩ s (a ++ b) = false := by
    unfold verR
    rw [show inK ⟨#[]⟩ ⟨#[]⟩ = some .inf from if_pos ⟨rfl, rfl⟩]
  have gv := fun (kx ky x : ByteArray) (v : Bool) (hv : verR kx ky s x = v) (w : World) => (ecVerify_any kx ky s x w (by omega)).mono (R' := fun e w' => e = .returned (.bool v) ∧ Below w.heap.size w w') fun e w' hh => ⟨by rw [hh.1, hv], hh.2⟩
  exact signs_main d k s _ _ _ _ _ _ _ _ _ _ _ _ _ _ _ _ _ _ a b _ c w hd' hk' (txs_pos (by omega)) (txs_pos (by omega)) (txs_pos (by omega)) (txs_pos (by omega)) ha hb hc hns fixed_any order_ok g2 g3 g4 g5 g6 g7 g8 g9 g10 g11 g12 g13 g14 g15 g16 g17
    (gv _ _ _ _ v18) (gv _ _ _ _ v19) (gv _ _ _ _ v20) (gv _ _ _ _ v21) (gv _ _ _ _ v22) (gv _ _ _ _ v23) (gv _ _ _ _ v24) (gv _ _ _ _ v25) (gv _ _ _ _ v26)
end Go.Proofs.YtaggpodckafbgaaGreatDoor.ecdsaSigns
