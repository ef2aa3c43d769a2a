/- ostiaryref15.hex, begins, find: the walks. -/
import Derived.Test.YtipjkjcmceeaeaaGreatDoorYHex
import Derived.Test.YtipjkjcmceeaeaaGreatDoorYGrow
namespace Go.Proofs.YtipjkjcmceeaeaaGreatDoor
open Go.RowKit

def hexTab2 : List UInt8 := [48, 49, 50, 51, 52, 53, 54, 55, 56, 57, 65, 66, 67, 68, 69, 70]
def hexR (x : UInt8) : Int := if heC x = true then (hexV x : Nat) else -1
theorem hexR_at : ∀ i : Fin 16, hexR (hexTab.getD i.val 0) = i.val ∧ hexR (hexTab2.getD i.val 0) = i.val := by decide +kernel
theorem hexR_fin : ∀ k : Fin 256, (∀ i : Fin 16, hexTab.getD i.val 0 ≠ UInt8.ofNat k.val ∧ hexTab2.getD i.val 0 ≠ UInt8.ofNat k.val) → hexR (UInt8.ofNat k.val) = -1 := by decide +kernel
set_option maxRecDepth 100000 in
set_option maxHeartbeats 2000000 in
theorem hexR_any (x : UInt8) (w : World) : Calls Tryz.prog 63 #[.int .u8 (x.toNat : Nat)] w fun e w' => e = .returned (.int .i64 (hexR x)) ∧ w' = w := by
  go_enter Tryz.func63, Tryz.ntmps63
  go_upto_region 2 with fail
  go_loopg [3] 16 (fun gg s3 wr => ∃ (i : Nat), i ≤ 16 ∧ gg = 16 - i ∧ s3 = .int .i64 i ∧ wr = w ∧ Aside (∀ j, j < i → hexTab.getD j 0 ≠ x ∧ hexTab2.getD j 0 ≠ x))
  case atStart => exact ⟨0, Nat.zero_le _, rfl, rfl, rfl, fun j hj => absurd hj (Nat.not_lt_zero _)⟩
  case round =>
    obtain ⟨i, hil, rfl, rfl, rfl, HA⟩ := hrel
    by_cases hlt : i < 16
    · have hltz : (i : Int) < 16 := by omega
      have h1l : i < hexTab.length := hlt
      have h2l : i < hexTab2.length := hlt
      obtain ⟨a, ha⟩ : ∃ a, hexTab[i]? = some a := ⟨hexTab[i], List.getElem?_eq_getElem h1l⟩
      obtain ⟨b, hb⟩ : ∃ b, hexTab2[i]? = some b := ⟨hexTab2[i], List.getElem?_eq_getElem h2l⟩
      have ga : ∀ h : i < (⟨#[48, 49, 50, 51, 52, 53, 54, 55, 56, 57, 97, 98, 99, 100, 101, 102]⟩ : ByteArray).size, (⟨#[48, 49, 50, 51, 52, 53, 54, 55, 56, 57, 97, 98, 99, 100, 101, 102]⟩ : ByteArray)[i]'h = a := bs_get hexTab i a ha
      have gb : ∀ h : i < (⟨#[48, 49, 50, 51, 52, 53, 54, 55, 56, 57, 65, 66, 67, 68, 69, 70]⟩ : ByteArray).size, (⟨#[48, 49, 50, 51, 52, 53, 54, 55, 56, 57, 65, 66, 67, 68, 69, 70]⟩ : ByteArray)[i]'h = b := bs_get hexTab2 i b hb
      have da : hexTab.getD i 0 = a := by rw [List.getD, ha]; rfl
      have db : hexTab2.getD i 0 = b := by rw [List.getD, hb]; rfl
      obtain ⟨r1, r2⟩ := hexR_at ⟨i, hlt⟩
      simp only at r1 r2
      rw [da] at r1
      rw [db] at r2
      have sz1 : (⟨#[48, 49, 50, 51, 52, 53, 54, 55, 56, 57, 97, 98, 99, 100, 101, 102]⟩ : ByteArray).size = 16 := rfl
      have sz2 : (⟨#[48, 49, 50, 51, 52, 53, 54, 55, 56, 57, 65, 66, 67, 68, 69, 70]⟩ : ByteArray).size = 16 := rfl
      have R1 := Lib.hid r1; have R2 := Lib.hid r2; have DA := Lib.hid da; have DB := Lib.hid db
      clear ha hb r1 r2 da db h1l h2l
      by_cases hax : a = x
      · have he : ((a.toNat : Int) == (x.toNat : Int)) = true := by rw [hax]; simp
        have HR : Hid (hexR x = i) := Lib.hid (by rw [← hax]; exact R1.out)
        clear hax
        go_wp2_with fail
        go_ret
        rw [HR.out]
        exact ⟨rfl, rfl⟩
      · have he : ((a.toNat : Int) == (x.toNat : Int)) = false := by
          have : a.toNat ≠ x.toNat := fun h => hax (UInt8.toNat_inj.1 h)
          simp; omega
        by_cases hbx : b = x
        · have he2 : ((b.toNat : Int) == (x.toNat : Int)) = true := by rw [hbx]; simp
          have HR : Hid (hexR x = i) := Lib.hid (by rw [← hbx]; exact R2.out)
          clear hax hbx
          go_wp2_with fail
          go_ret
          rw [HR.out]
          exact ⟨rfl, rfl⟩
        · have he2 : ((b.toNat : Int) == (x.toNat : Int)) = false := by
            have : b.toNat ≠ x.toNat := fun h => hbx (UInt8.toNat_inj.1 h)
            simp; omega
          have HA2 : Hid (∀ j, j < i + 1 → hexTab.getD j 0 ≠ x ∧ hexTab2.getD j 0 ≠ x) := Lib.hid fun j hj => by
            rcases Nat.lt_or_ge j i with h | h
            · exact HA.out j h
            · obtain rfl : j = i := by omega
              rw [DA.out, DB.out]; exact ⟨hax, hbx⟩
          clear hax hbx
          go_wp2_with fail
          go_roundg (16 - (i + 1))
          case measure => omega
          case rel => exact ⟨i + 1, by omega, rfl, by go_num, rfl, HA2.out⟩
    · have hltz : ¬ (i : Int) < 16 := by omega
      have HR : Hid (hexR x = -1) := Lib.hid (every_byte (P := fun x => (∀ i : Fin 16, hexTab.getD i.val 0 ≠ x ∧ hexTab2.getD i.val 0 ≠ x) → hexR x = -1) hexR_fin x (fun j => HA.out j.val (by have := j.isLt; omega)))
      go_wp2_with fail
      go_ret
      rw [HR.out]
      exact ⟨rfl, rfl⟩
theorem begCR_min (s : Bs) : decide (s.take (min s.length 2) = CRLF.take (min s.length 2)) = begCR s := by
  match s with
  | [] => rfl
  | [a] => rfl
  | a :: b :: r => simp [begCR, CRLF]
set_option maxRecDepth 100000 in
set_option maxHeartbeats 2000000 in
theorem begins_any (l : List UInt8) (w : World) (hl : l.length ≤ SB) : Calls Tryz.prog 64 #[.string (bs l), .string ⟨#[13, 10]⟩] w fun e w' => e = .returned (.bool (begCR l)) ∧ (∃ n, w' = w.drewN n) := by
  have hSB := SB_eq
  have hsz := bs_size l
  have hs2 : (⟨#[13, 10]⟩ : ByteArray).size = 2 := rfl
  obtain ⟨n, hn⟩ : ∃ n, n = min l.length 2 := ⟨_, rfl⟩
  have hnz : min (l.length : Int) 2 = (n : Int) := by omega
  have hnl : (n : Int) ≤ (l.length : Int) := by omega
  have hn2 : (n : Int) ≤ 2 := by omega
  have hx1 : (bs l).extract 0 n = bs (l.take n) := by rw [bs_cut, List.drop_zero]
  have hx2 : (⟨#[13, 10]⟩ : ByteArray).extract 0 n = bs (CRLF.take n) := by
    have := bs_cut CRLF 0 n
    rw [List.drop_zero] at this
    exact this
  obtain ⟨R, hR⟩ : ∃ R, R = begCR l := ⟨_, rfl⟩
  have hq : ((bs (l.take n)).toList == (bs (CRLF.take n)).toList) = R := by rw [bs_list, bs_list, beqL, hn, begCR_min, hR]
  rw [← hR]
  clear hR hn
  go_enter Tryz.func64, Tryz.ntmps64
  go_upto_region 2 with fail
  go_quiet (fail)
  go_wp2_with fail
  go_ret
  exact ⟨rfl, _, rfl⟩
theorem occ_take {s sep : Bs} {i : Nat} : Lib.occAt s sep i = decide ((s.take (i + sep.length)).drop i = sep) := by
  unfold Lib.occAt
  rw [List.drop_take, Nat.add_sub_cancel_left, Bool.eq_iff_iff, List.isPrefixOf_iff_prefix, decide_eq_true_eq]
  constructor
  · rintro ⟨t, ht⟩
    rw [← ht, List.take_left]
  · intro h
    rw [← h]; exact List.take_prefix _ _
set_option maxRecDepth 100000 in
set_option maxHeartbeats 2000000 in
theorem find_any (s t : List UInt8) (ht : t ≠ []) (w : World) (hs : s.length ≤ SB) (ht2 : t.length ≤ 1024) : Calls Tryz.prog 33 #[.string (bs s), .string (bs t)] w fun e w' => e = .returned (.int .i64 (Lib.index s t)) ∧ w' = w := by
  have hSB := SB_eq
  have hsz := bs_size s
  have htz := bs_size t
  have HT := Lib.hid ht
  clear ht
  go_enter Tryz.func33, Tryz.ntmps33
  go_upto_region 2 with fail
  go_loopg [5] (s.length + 1) (fun gg s5 wr => ∃ (i : Nat), i ≤ s.length + 1 ∧ gg = s.length + 1 - i ∧ s5 = .int .i64 i ∧ wr = w ∧ Aside (Lib.NoOcc s t i))
  case atStart => exact ⟨0, Nat.zero_le _, rfl, rfl, rfl, Lib.NoOcc.zero s t⟩
  case round =>
    obtain ⟨i, hil, rfl, rfl, rfl, HA⟩ := hrel
    by_cases hlt : i + t.length ≤ s.length
    · have hltz : (i : Int) + (t.length : Int) ≤ (s.length : Int) := by omega
      have hx : (bs s).extract i (i + t.length) = bs ((s.take (i + t.length)).drop i) := bs_cut s i (i + t.length)
      cases ho : Lib.occAt s t i with
      | true =>
        have hq : ((bs ((s.take (i + t.length)).drop i)).toList == (bs t).toList) = true := by rw [bs_list, bs_list, beqL, ← occ_take, ho]
        have HR : Hid (Lib.index s t = i) := Lib.hid (Lib.index_hit HA.out (by omega) ho)
        clear ho
        go_wp2_with fail
        go_ret
        rw [HR.out]
        exact ⟨rfl, rfl⟩
      | false =>
        have hq : ((bs ((s.take (i + t.length)).drop i)).toList == (bs t).toList) = false := by rw [bs_list, bs_list, beqL, ← occ_take, ho]
        have HA2 : Hid (Lib.NoOcc s t (i + 1)) := Lib.hid (HA.out.succ ho)
        clear ho
        go_wp2_with fail
        go_roundg (s.length + 1 - (i + 1))
        case measure => omega
        case rel => exact ⟨i + 1, by omega, rfl, by go_num, rfl, HA2.out⟩
    · have hltz : ¬ (i : Int) + (t.length : Int) ≤ (s.length : Int) := by omega
      have HR : Hid (Lib.index s t = -1) := Lib.hid (Lib.index_past HT.out HA.out (by omega))
      go_wp2_with fail
      go_ret
      rw [HR.out]
      exact ⟨rfl, rfl⟩
end Go.Proofs.YtipjkjcmceeaeaaGreatDoor
