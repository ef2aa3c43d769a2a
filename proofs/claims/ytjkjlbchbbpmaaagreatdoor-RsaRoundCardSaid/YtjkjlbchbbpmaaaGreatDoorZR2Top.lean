/- The reference of hash (layer 2): Sum of 256 bits: the walk. -/
import Derived.Test.YtjkjlbchbbpmaaaGreatDoorZR2Sum
namespace Go.Proofs.YtjkjlbchbbpmaaaGreatDoor
open Go.RowKit

set_option maxRecDepth 100000 in
set_option maxHeartbeats 1600000 in
theorem r2sum_any (s : ByteArray) (w : World) (hs : s.size + 80 ≤ 140737488355328) :
    Calls Tryz.prog 66 #[.int .i64 0, .string s] w fun e w' => e = .returned (.tuple #[.string (sha s), .int .i64 0]) ∧ Below w.heap.size w w' := by
  go_enter Tryz.func66, Tryz.ntmps66
  go_wp2_with fail
  refine (r2of_any _).mono ?_
  rintro e w1 ⟨gk, ck, gf, cf, rfl, hrk, hrf, hb1⟩
  have hR0 := Rws.start w1
  obtain ⟨kd, hkd⟩ : ∃ kd, kd = kdc (.slice (some ⟨gk, 0, none⟩) 64 ck) (.slice (some ⟨gf, 0, none⟩) 8 cf) := ⟨_, rfl⟩
  have hkds : kd.size = 17 := by rw [hkd]; rfl
  have hkdc : kd.all (·.oneCell') = true := by rw [hkd]; simp [kdc, Value.oneCell']
  have hsum : ∀ w, Rd w .u64 (some ⟨gk, 0, none⟩) 64 ck kF → Rd w .u64 (some ⟨gf, 0, none⟩) 8 cf firstF → Calls Tryz.prog 68 #[.agg kd, .string s] w fun e w' => e = .returned (.string (sha s)) ∧ Below w.heap.size w w' := fun w h1 h2 => by rw [hkd]; exact r2ksum_any s gk ck gf cf w hs h1 h2
  rw [← hkd]
  have HSUM := Lib.hid hsum; have HS := Lib.hid hkds; have HC := Lib.hid hkdc
  clear hkd hkds hkdc hsum
  go_wp2_with (first
    | (refine wpList_alloc_rws (cs := zkd) rfl _ (by rfl) (by assumption) zero_kd ?_; intro g6 w2 hR)
    | (refine wpList_store_rws rfl _ _ _ (by rfl) (by assumption) _ rfl kd rfl _ _ _ (by repeat (first | exact Pick.here | apply Pick.there)) (by rw [HS.out]; exact kd_info) (by rw [HS.out]; rfl) HC.out ?_; intro w3 hR3)
    | (refine wpList_load_rws rfl _ _ (by rfl) (by assumption) _ rfl kd _ (by repeat (first | exact List.Mem.head _ | refine List.Mem.tail _ ?_)) _ Tryz.underlying99 rfl (by rw [HS.out]; exact kd_info) ?_))
  have hb3 := hR3.below
  have hsz := hb1.size
  refine (HSUM.out _ (hrk.below hb3 (Nat.le_refl _)) (hrf.below hb3 (Nat.le_refl _))).mono ?_
  rintro e w4 ⟨rfl, hb4⟩
  have hres := (hb1.trans (hb3.mono hsz)).trans (hb4.mono (Nat.le_trans hsz hb3.size))
  go_wp2_with fail
  go_ret2
  exact ⟨rfl, hres⟩
end Go.Proofs.YtjkjlbchbbpmaaaGreatDoor
