/- PAdd Mult, in one text. -/
import Derived.Test.YtaggpodckafbgaaGreatDoorZPAddT
import Derived.Test.YtaggpodckafbgaaGreatDoorZPAddO
import Derived.Test.YtaggpodckafbgaaGreatDoorZPAddM
import Derived.Test.YtaggpodckafbgaaGreatDoorZA0
/- add: the sum of two points under way, part. -/
namespace Go.Proofs.YtaggpodckafbgaaGreatDoor
open Go.RowKit
theorem padd_any (j k : Ec.Jac Ec.P) (w : World) :
    Calls Tryz.prog 32 #[.agg (jv j), .agg (jv k)] w fun e w' => e = .returned (.agg (jv (j.add k))) ∧ Below w.heap.size w w' := by
  by_cases hj : j.z = 0
  · rw [show j.add k = k by simp only [Ec.Jac.add, hj, if_true]]
    exact padd_p j k w hj
  · by_cases hk : k.z = 0
    · rw [show j.add k = j by simp only [Ec.Jac.add, hj, hk, if_true, if_false]]
      exact padd_q j k w hj hk
    · by_cases hh0 : k.x * (j.z * j.z) - j.x * (k.z * k.z) = 0
      · by_cases hr0 : k.y * (j.z * j.z * j.z) - j.y * (k.z * k.z * k.z) = 0
        · rw [show j.add k = j.twice by simp only [Ec.Jac.add, hj, hk, hh0, hr0, if_true, if_false]]
          exact padd_t j k w hj hk hh0 hr0
        · rw [show j.add k = ⟨0, 0, 0⟩ by simp only [Ec.Jac.add, hj, hk, hh0, hr0, if_true, if_false]]
          exact padd_o j k w hj hk hh0 hr0
      · exact padd_m j k w hj hk hh0
end Go.Proofs.YtaggpodckafbgaaGreatDoor
/- multiple: n times a point under way. -/
namespace Go.Proofs.YtaggpodckafbgaaGreatDoor
open Go.RowKit
def mst (q : Ec.Jac Ec.P) (n t : Nat) : Ec.Jac Ec.P := Ec.mulJ q (256 - t) (n / 2 ^ t)
theorem mst_256 (q : Ec.Jac Ec.P) (n : Nat) : mst q n 256 = ⟨0, 0, 0⟩ := rfl
theorem mst_0 (q : Ec.Jac Ec.P) (n : Nat) : mst q n 0 = Ec.mulJ q 256 n := by unfold mst; rw [Nat.pow_zero, Nat.div_one]
theorem mst_step (q : Ec.Jac Ec.P) (n s : Nat) (hs : s < 256) : mst q n s = if n / 2 ^ s % 2 = 1 then (mst q n (s + 1)).twice.add q else (mst q n (s + 1)).twice := by
  unfold mst
  rw [show 256 - s = (256 - (s + 1)) + 1 by omega]
  have e : n / 2 ^ s / 2 = n / 2 ^ (s + 1) := by rw [Nat.pow_succ, Nat.div_div_eq_div_mul]
  show (bif n / 2 ^ s % 2 == 1 then (Ec.mulJ q (256 - (s + 1)) (n / 2 ^ s / 2)).twice.add q else (Ec.mulJ q (256 - (s + 1)) (n / 2 ^ s / 2)).twice) = _
  rw [e]
  by_cases h : n / 2 ^ s % 2 = 1
  · rw [if_pos h, h]; rfl
  · rw [if_neg h, beq_false_of_ne h]; rfl
set_option maxRecDepth 100000 in
set_option maxHeartbeats 800000 in
theorem multiple_any (q : Ec.Jac Ec.P) (n : Nat) (w : World) (hn : n < 115792089237316195423570985008687907853269984665640564039457584007913129639936) :
    Calls Tryz.prog 44 #[.agg (jv q), .agg (nmc n)] w fun e w' => e = .returned (.agg (jv (Ec.mulJ q 256 n))) ∧ Below w.heap.size w w' := by
  have hmf : ∀ (fn : Fn) (first cap : Array Value) (w : World), (Instr.makeFunc fn first cap).run Tryz.prog w = .ok (.func fn first cap) w := fun _ _ _ _ => rfl
  have HN := Lib.hid hn
  have HZ := Lib.hid (mst_256 q n)
  clear hn
  have hR0 := Rws.start w
  go_enter Tryz.func44, Tryz.ntmps44
  go_upto_region 1 with (first
    | (refine wP_box rfl (by rfl) (by assumption) rfl ?_; intro gq w1 hR)
    | (refine wN_box rfl (by rfl) (by assumption) rfl ?_; intro gn w1 hR)
    | (refine wP_alloc rfl (by rfl) (by assumption) ?_; intro gr w1 hR))
  go_upto_region 2 with (refine wP_alloc rfl (by rfl) (by assumption) ?_; intro go w1 hR)
  have hR3 : Rws w.heap.size w w1 [(go, jv (mst q n 256), 55), (gr, z12, 55), (gn, nmc n, 53), (gq, jv q, 55)] := by rw [HZ.out, jv_zero]; exact hR
  clear hR
  go_wp2_with fail
  go_loopw [6] (fun i wr => ∃ t : Nat, t ≤ 256 ∧ i = .int .i64 ((t : Int) - 1) ∧ Rws w.heap.size w wr [(go, jv (mst q n t), 55), (gr, z12, 55), (gn, nmc n, 53), (gq, jv q, 55)]) (fun i _ => (intOf i + 1).toNat)
  case atStart => exact ⟨256, Nat.le_refl _, rfl, hR3⟩
  case round =>
    clear hR3
    obtain ⟨t, ht, rfl, hR⟩ := hrel
    by_cases h0 : t = 0
    · subst h0
      go_wp2_with (first | (refine wP_box rfl (by rfl) (by assumption) rfl ?_; intro g w1 hR) | (refine wP_alloc rfl (by rfl) (by assumption) ?_; intro gr w1 hR) | (refine wP_lx rfl (by rfl) (by assumption) rfl (by repeat (first | exact pzH | refine pzM ?_)) ?_) | (refine wP_ly rfl (by rfl) (by assumption) rfl (by repeat (first | exact pzH | refine pzM ?_)) ?_) | (refine wP_lz rfl (by rfl) (by assumption) rfl (by repeat (first | exact pzH | refine pzM ?_)) ?_) | (refine wP_loadAll rfl (by rfl) (by assumption) rfl (by repeat (first | exact pzH | refine pzM ?_)) (by exact jv_size _) ?_) | (refine wP_store rfl (by rfl) (by assumption) rfl rfl (by repeat (first | exact Pick.here | apply Pick.there)) (by first | exact jv_size _ | rfl) (by exact jv_size _) (by exact jv_cells _) ?_; intro w1 hR))
      refine wP_end Tryz.results44 (by assumption) rfl (List.Mem.head _) (jv_size _) rfl fun hb => ⟨?_, hb⟩
      rw [mst_0]
    · obtain ⟨s, rfl⟩ : ∃ s, t = s + 1 := ⟨t - 1, by omega⟩
      have es : ((s + 1 : Nat) : Int) - 1 = (s : Int) := by omega
      rw [es]
      obtain ⟨v, hv⟩ : ∃ v, v = mst q n (s + 1) := ⟨_, rfl⟩
      have h1 := fun w => twice_any v w
      obtain ⟨u, hu⟩ : ∃ u, u = v.twice := ⟨_, rfl⟩
      have h2 := fun w => padd_any u q w
      obtain ⟨x, hx⟩ : ∃ x, x = u.add q := ⟨_, rfl⟩
      have hst := mst_step q n s (by omega)
      rw [← hv] at hR
      rw [← hu] at h1; rw [← hx] at h2
      rw [← hv, ← hu, ← hx] at hst
      have hidx : s / 64 < 4 := by omega
      obtain ⟨d, hd⟩ : ∃ d, d = Dg.dg WD n (s / 64) := ⟨_, rfl⟩
      have hce : ∀ (w1 : World) (v' : Ec.Jac Ec.P), Rws w.heap.size w w1 [(go, jv v', 55), (gr, z12, 55), (gn, nmc n, 53), (gq, jv q, 55)] → w1.cell? ⟨gn, s / 64, none⟩ = some (.int .u64 (d : Nat)) := fun w1 v' h => by
        rw [hd]
        exact (cell_of_row w1 gn (s / 64) _ _ _ (h.row _ (List.Mem.tail _ (List.Mem.tail _ (List.Mem.head _)))).2).trans (nmc_dg n HN.out _ hidx)
      have HCE := Lib.hid hce
      have hbit := bit_word n s
      rw [← hd] at hbit
      have HD := Lib.hid hd
      clear hd
      have H1 := Lib.hid h1; have H2 := Lib.hid h2; have HST := Lib.hid hst
      clear h1 h2 hst hu hx hv es hce
      go_upto_region 6 with (first
        | (refine wP_loadAll rfl (by rfl) (by assumption) rfl (by repeat (first | exact pzH | refine pzM ?_)) (by exact jv_size _) ?_)
        | (refine wP_store rfl (by rfl) (by assumption) rfl rfl (by repeat (first | exact Pick.here | apply Pick.there)) (by exact jv_size _) (by exact jv_size _) (by exact jv_cells _) ?_; intro w1 hR; have hce := HCE.out _ _ hR)
        | (go_at_call 73; refine (H1.out _).mono ?_; rintro e w1 ⟨rfl, hb1⟩; have hR := Rws.call (by assumption) hb1))
      rcases Nat.mod_two_eq_zero_or_one (n / 2 ^ s) with h0 | h0
      · rw [h0, Int.natCast_zero] at hbit
        have hx : u = mst q n s := by rw [HST.out, if_neg (by omega)]
        have HX := Lib.hid hx
        clear h0 hx
        go_wp2_with fail
        go_roundw
        case rel => exact ⟨s, by omega, rfl, by rw [← HX.out]; assumption⟩
        case measure => simp [intOf]
      · rw [h0] at hbit
        have hbit1 : bits .and .u64 ((d : Int) / 2 ^ (s % 64)) 1 = 1 := hbit
        have hx : x = mst q n s := by rw [HST.out, if_pos h0]
        have HX := Lib.hid hx
        clear h0 hx hbit
        go_wp2_with (first
          | (refine wP_loadAll rfl (by rfl) (by assumption) rfl (by repeat (first | exact pzH | refine pzM ?_)) (by exact jv_size _) ?_)
          | (refine wP_store rfl (by rfl) (by assumption) rfl rfl (by repeat (first | exact Pick.here | apply Pick.there)) (by exact jv_size _) (by exact jv_size _) (by exact jv_cells _) ?_; intro w1 hR)
          | (go_at_call 32; refine (H2.out _).mono ?_; rintro e w1 ⟨rfl, hb1⟩; have hR := Rws.call (by assumption) hb1))
        go_roundw
        case rel => exact ⟨s, by omega, rfl, by rw [← HX.out]; assumption⟩
        case measure => simp [intOf]
end Go.Proofs.YtaggpodckafbgaaGreatDoor
