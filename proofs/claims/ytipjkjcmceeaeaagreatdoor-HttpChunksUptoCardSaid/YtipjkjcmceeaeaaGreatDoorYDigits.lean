/- ostiarylaw15.digits: the walk. HttpChunks: plain. -/
import Derived.Test.YtipjkjcmceeaeaaGreatDoorYRef1
import Derived.Test.YtipjkjcmceeaeaaGreatDoorYMore
import Derived.Test.YtipjkjcmceeaeaaGreatDoorYReq
namespace Go.Proofs.YtipjkjcmceeaeaaGreatDoor
open Go.RowKit

/-- A slice of numbers. -/
def SlI (w : World) (l : List Int) (ad : Option Addr) (c : Nat) : Prop := SlC w l.length (l.map fun z => Value.int .i64 z) ad c
theorem dig_fin : ∀ k : Fin 16, ((([48, 49, 50, 51, 52, 53, 54, 55, 56, 57, 65, 66, 67, 68, 69, 70] : Bs).take (k.val + 1)).drop k.val) = [hxC k.val] := by decide +kernel
theorem dig_cut (k k1 : Nat) (h : k < 16) (h1 : k1 = k + 1) : (⟨#[48, 49, 50, 51, 52, 53, 54, 55, 56, 57, 65, 66, 67, 68, 69, 70]⟩ : ByteArray).extract k k1 = bs [hxC k] := by
  subst h1
  have := bs_cut [48, 49, 50, 51, 52, 53, 54, 55, 56, 57, 65, 66, 67, 68, 69, 70] k (k + 1)
  rw [dig_fin ⟨k, h⟩] at this
  exact this
set_option maxRecDepth 100000 in
set_option maxHeartbeats 2000000 in
theorem digits_any (n : Nat) (w : World) (hn : n ≤ 16384) : Calls Tryz.prog 25 #[.int .i64 (n : Nat)] w (RetS (bs (hexS n)) w) := by
  have hMX := MX_eq
  go_enter Tryz.func25, Tryz.ntmps25
  go_upto_region 2 with fail
  go_loopg [0, 3] n (fun gg s0 s3 wr => ∃ (m : Nat) (acc : Bs), m ≤ n ∧ gg = m ∧ s0 = .int .i64 (m : Nat) ∧ s3 = .string (bs acc) ∧ Aside (acc.length + m ≤ n) ∧ Aside (hexS n = hexS m ++ acc) ∧ Aside (Below w.heap.size w wr))
  case atStart => exact ⟨n, [], Nat.le_refl _, rfl, rfl, rfl, by show 0 + n ≤ n; omega, by show hexS n = hexS n ++ []; rw [List.append_nil], Below.refl _ _⟩
  case round =>
    obtain ⟨m, acc, hmn, rfl, rfl, rfl, HL, HX, HB⟩ := hrel
    have hal : acc.length ≤ 16384 := by have := HL.out; omega
    have za := bs_size acc
    by_cases h0 : gk = 0
    · have hm0 : ¬ (0 : Int) < (gk : Int) := by omega
      have HXE : Hid (bs acc = bs (hexS n)) := Lib.hid (by rw [HX.out, h0, hexS_zero]; rfl)
      clear h0
      go_wp2_with fail
      go_ret
      exact ⟨by rw [HXE.out]; rfl, HB.out⟩
    · have hmp : (0 : Int) < (gk : Int) := by omega
      obtain ⟨k, hk⟩ : ∃ k, k = gk % 16 := ⟨_, rfl⟩
      obtain ⟨k1, hk1⟩ : ∃ k1, k1 = k + 1 := ⟨_, rfl⟩
      obtain ⟨m2, hm2⟩ : ∃ m2, m2 = gk / 16 := ⟨_, rfl⟩
      have hk16 : k < 16 := by rw [hk]; exact Nat.mod_lt _ (by decide)
      have xk := dig_cut k k1 hk16 hk1
      have htm : Int.tmod (gk : Int) 16 = (k : Int) := by rw [hk]; rfl
      have htd : Int.tdiv (gk : Int) 16 = (m2 : Int) := by rw [hm2]; rfl
      have hkz : (k : Int) + 1 = (k1 : Int) := by omega
      have hkk : (k : Int) ≤ (k1 : Int) := by omega
      have hk116 : (k1 : Int) ≤ 16 := by omega
      have hkk' : k ≤ k1 := by omega
      have hk116' : k1 ≤ 16 := by omega
      have hlt : m2 < gk := by omega
      have hap : bs [hxC k] ++ bs acc = bs (hxC k :: acc) := bs_app2 [hxC k] acc
      have HX2 : Hid (hexS n = hexS m2 ++ (hxC k :: acc)) := Lib.hid (by rw [HX.out, hexS_pos h0, hk, hm2]; simp)
      have HL2 : Hid ((hxC k :: acc).length + m2 ≤ n) := Lib.hid (by have := HL.out; rw [List.length_cons]; omega)
      have zk : (bs [hxC k]).size = 1 := bs_size _
      clear hk hk1 hm2 h0
      go_wp2_with fail
      go_roundg m2
      case measure => exact hlt
      case rel => exact ⟨m2, hxC k :: acc, by omega, rfl, by go_num, by first | rfl | rw [hap], HL2.out, HX2.out, HB.out⟩
theorem check_nob {q : Rq} (h : checkS q = 0) : checkS ⟨q.m, q.t, q.hs, []⟩ = 0 ∧ 2 ≤ (headS ⟨q.m, q.t, q.hs, []⟩).length ∧ (headS ⟨q.m, q.t, q.hs, []⟩).length ≤ 8192 := by
  obtain ⟨h1, h2, _, h4⟩ := check_parts h
  have hle : (headS ⟨q.m, q.t, q.hs, []⟩).length ≤ (headS q).length := by
    unfold headS
    simp only [List.length_append, if_true, List.length_nil]
    omega
  refine ⟨?_, ?_, by omega⟩
  · unfold checkS
    rw [if_neg (by show ¬ 31 < q.hs.length; omega), if_neg (by rw [show formB ⟨q.m, q.t, q.hs, []⟩ = formB q from rfl, h2]; decide), if_neg (by simp only [List.length_nil]; omega)]
  · unfold headS
    simp only [List.length_append, CRLF, List.length_cons, List.length_nil]; omega
end Go.Proofs.YtipjkjcmceeaeaaGreatDoor
