/- ostiaryref15.span, trimmed, Num, cut: the walks. -/
import Derived.Test.YtipjkjcmceeaeaaGreatDoorYRef2
import Derived.Test.YtipjkjcmceeaeaaGreatDoorYOwn
import Derived.Test.YtipjkjcmceeaeaaGreatDoorYTrim
namespace Go.Proofs.YtipjkjcmceeaeaaGreatDoor
open Go.RowKit

set_option maxRecDepth 100000 in
set_option maxHeartbeats 2000000 in
theorem span_any (lo but n : Nat) (hn : lo + n = 127) (w : World) : Calls Tryz.prog 77 #[.int .u8 (lo : Nat), .int .u8 126, .int .u8 (but : Nat)] w (RetS (bs (spanA lo but n)) w) := by
  have hlen := spanA_len lo but
  go_enter Tryz.func77, Tryz.ntmps77
  go_upto_region 3 with fail
  go_loopg [7, 8] n (fun gg s7 s8 wr => ∃ (k : Nat) (v : Value), k ≤ n ∧ gg = n - k ∧ s7 = v ∧ s8 = .int .u8 ((lo + k : Nat) : Int) ∧ Aside (OwnB w.heap.size wr v (spanA lo but k)) ∧ Aside (Below w.heap.size w wr))
  case atStart => exact ⟨0, _, Nat.zero_le _, rfl, rfl, rfl, own_empty (Nat.le_refl _), b_alloc w _⟩
  case round =>
    obtain ⟨k, v, hk, rfl, rfl, rfl, HO, HB⟩ := hrel
    have hl := hlen k
    obtain ⟨c, hc⟩ : ∃ c, c = lo + k := ⟨_, rfl⟩
    rw [← hc]
    have hwr : ((c : Int) + 1) % 256 = ((c + 1 : Nat) : Int) := by omega
    by_cases hlt : k < n
    · have hltz : (c : Int) ≤ 126 := by omega
      by_cases hcb : c = but
      · have hne : ((c : Int) != (but : Int)) = false := by rw [hcb]; simp
        have HO2 : Hid (OwnB w.heap.size wr _ (spanA lo but (k + 1))) := Lib.hid (by rw [spanA, if_pos (by omega), List.append_nil]; exact HO.out)
        have HC := Lib.hid hc
        clear hcb hc
        go_wp2_with fail
        go_roundg (n - (k + 1))
        case measure => omega
        case rel => exact ⟨k + 1, _, by omega, rfl, rfl, by rw [← Nat.add_assoc, ← HC.out]; first | rfl | go_num | (rw [hwr]), HO2.out, HB.out⟩
      · have hne : ((c : Int) != (but : Int)) = true := by simp; omega
        have hcn : ((UInt8.ofNat c).toNat : Int) = (c : Int) := by rw [UInt8.toNat_ofNat']; omega
        have HE : Hid (spanA lo but (k + 1) = spanA lo but k ++ [UInt8.ofNat c]) := Lib.hid (by rw [spanA, if_neg (by omega), hc])
        have HC := Lib.hid hc
        have hkl : (spanA lo but k).length + 1 ≤ 3000000 := by omega
        rw [← hcn]
        clear hcb hc
        go_wp2_with (at_builtin; refine wp_snocB rfl _ _ (by rfl) (UInt8.ofNat c) (by rfl) (by rfl) HO.out (Nat.le_refl _) HB.out hkl ?_; intro v' w2 hO2 hB2)
        go_roundg (n - (k + 1))
        case measure => omega
        case rel => exact ⟨k + 1, v', by omega, rfl, rfl, by rw [← Nat.add_assoc, ← HC.out]; first | rfl | go_num | (rw [hcn, hwr]), by rw [HE.out]; exact hO2, hB2⟩
    · have hltz : ¬ (c : Int) ≤ 126 := by omega
      obtain rfl : k = n := by omega
      have htx := own_text HO.out
      go_wp2_with fail
      go_ret
      exact ⟨rfl, HB.out⟩
theorem get_neg {l : List UInt8} (h : l ≠ []) : ∃ x, l[l.length - 1]? = some x ∧ l = l.take (l.length - 1) ++ [x] := by
  have hp : 0 < l.length := List.length_pos_iff.2 h
  refine ⟨l[l.length - 1], List.getElem?_eq_getElem (by omega), ?_⟩
  have := List.take_succ_eq_append_getElem (l := l) (i := l.length - 1) (by omega)
  rw [show l.length - 1 + 1 = l.length by omega, List.take_length] at this
  exact this
theorem trimR_snoc (m : List UInt8) (x : UInt8) : Lib.trimRightB (m ++ [x]) 32 = if x = 32 then Lib.trimRightB m 32 else m ++ [x] := by
  unfold Lib.trimRightB
  rw [List.reverse_append]
  show (List.dropWhile _ (x :: m.reverse)).reverse = _
  rw [List.dropWhile_cons]
  by_cases h : x = 32
  · rw [if_pos (by simp [h]), if_pos h]
  · rw [if_neg (by simp [h]), if_neg h]; simp
theorem trimL_cons (m : List UInt8) (x : UInt8) : Lib.trimLeftB (x :: m) 32 = if x = 32 then Lib.trimLeftB m 32 else x :: m := by
  unfold Lib.trimLeftB
  rw [List.dropWhile_cons]
  by_cases h : x = 32
  · rw [if_pos (by simp [h]), if_pos h]
  · rw [if_neg (by simp [h]), if_neg h]
set_option maxRecDepth 100000 in
set_option maxHeartbeats 4000000 in
theorem trimmed_any (l : List UInt8) (w : World) (hl : l.length ≤ SB) : Calls Tryz.prog 62 #[.string (bs l)] w fun e w' => e = .returned (.string (bs (trimS l))) ∧ w' = w := by
  have hSB := SB_eq
  obtain ⟨T, hT⟩ : ∃ T, T = Lib.trimLeftB l 32 := ⟨_, rfl⟩
  have hTT : Lib.trimRightB T 32 = trimS l := by rw [hT]; exact trim_swap l
  rw [← hTT]
  have HT := Lib.hid hT
  clear hT hTT
  go_enter Tryz.func62, Tryz.ntmps62
  go_upto_region 1 with fail
  go_loopg [0] l.length (fun gg s0 wr => ∃ (t : List UInt8), t.length ≤ l.length ∧ gg = t.length ∧ s0 = .string (bs t) ∧ wr = w ∧ Aside (T = Lib.trimLeftB t 32))
  case atStart => exact ⟨l, Nat.le_refl _, rfl, rfl, rfl, HT.out⟩
  case round =>
    obtain ⟨t, htl, rfl, rfl, rfl, HA⟩ := hrel
    have hsz := bs_size t
    cases t with
    | nil =>
      have hltz : ¬ (0 : Int) < (([] : List UInt8).length : Int) := by simp
      have HR : Hid (Lib.trimRightB T 32 = []) := Lib.hid (by rw [HA.out]; rfl)
      have hTe : T = [] := HA.out
      subst hTe
      clear HA HT
      go_upto_region 3 with fail
      go_loopg [0] 1 (fun gg s0 wr2 => gg = 1 ∧ s0 = .string (bs []) ∧ wr2 = wr)
      case atStart => exact ⟨rfl, rfl, rfl⟩
      case round =>
        obtain ⟨_, rfl, rfl⟩ := hrel
        go_wp2_with fail
        go_ret
        exact ⟨rfl, rfl⟩
    | cons x r =>
      have hltz : (0 : Int) < ((x :: r : List UInt8).length : Int) := by simp only [List.length_cons]; omega
      have hgi := bs_get (x :: r) 0 x rfl
      have hx := trimL_cons r x
      by_cases h32 : x = 32
      · have he : ((x.toNat : Int) == 32) = true := by rw [h32]; rfl
        have hcut : (bs (x :: r)).extract 1 (x :: r).length = bs r := by rw [bs_cut, List.take_of_length_le (Nat.le_refl _)]; rfl
        have HA2 : Hid (T = Lib.trimLeftB r 32) := Lib.hid (by rw [HA.out, hx, if_pos h32])
        have hlz : (1 : Int) ≤ ((x :: r : List UInt8).length : Int) := by simp only [List.length_cons]; omega
        have hrl : r.length < (x :: r : List UInt8).length := by simp
        clear h32 hx HA
        generalize (x :: r : List UInt8).length = L at *
        go_wp2_with fail
        go_roundg r.length
        case measure => exact hrl
        case rel => exact ⟨r, by omega, rfl, rfl, rfl, HA2.out⟩
      · have he : ((x.toNat : Int) == 32) = false := by
          have : x.toNat ≠ 32 := fun h => h32 (UInt8.toNat_inj.1 (by simpa using h))
          simp; omega
        have hTe : T = x :: r := by rw [HA.out, hx, if_neg h32]
        clear HA HT hx
        generalize (x :: r : List UInt8) = t at *
        subst hTe
        go_upto_region 3 with fail
        clear hgi he hltz h32
        go_loopg [0] T.length (fun gg s0 wr2 => ∃ (u : List UInt8), u.length ≤ T.length ∧ gg = u.length ∧ s0 = .string (bs u) ∧ wr2 = wr ∧ Aside (Lib.trimRightB T 32 = Lib.trimRightB u 32))
        case atStart => exact ⟨T, Nat.le_refl _, rfl, rfl, rfl, rfl⟩
        case round =>
          obtain ⟨u, hul, rfl, rfl, rfl, HB⟩ := hrel
          have hsu := bs_size u
          by_cases hu : u = []
          · subst hu
            have hltz : ¬ (0 : Int) < (([] : List UInt8).length : Int) := by simp
            have HR : Hid (Lib.trimRightB T 32 = []) := Lib.hid (by rw [HB.out]; rfl)
            go_wp2_with fail
            go_ret
            rw [HR.out]
            exact ⟨rfl, rfl⟩
          · obtain ⟨y, hy, hue⟩ := get_neg hu
            have hp : 0 < u.length := List.length_pos_iff.2 hu
            obtain ⟨m, hm⟩ : ∃ m, m = u.length - 1 := ⟨_, rfl⟩
            rw [← hm] at hy hue
            have hltz : (0 : Int) < (u.length : Int) := by omega
            have hmz : (u.length : Int) - 1 = (m : Int) := by omega
            have hmz2 : (m : Int) < (u.length : Int) := by omega
            have hgy := bs_get u m y hy
            have hst := trimR_snoc (u.take m) y
            rw [← hue] at hst
            by_cases h32 : y = 32
            · have he : ((y.toNat : Int) == 32) = true := by rw [h32]; rfl
              have hcut : (bs u).extract 0 m = bs (u.take m) := by rw [bs_cut, List.drop_zero]
              have HB2 : Hid (Lib.trimRightB T 32 = Lib.trimRightB (u.take m) 32) := Lib.hid (by rw [HB.out, hst, if_pos h32])
              have hml : (u.take m).length = m := by rw [List.length_take]; omega
              have HML := Lib.hid hml
              have HM : Hid (m < u.length) := Lib.hid (by omega)
              clear h32 hst hue hy HB hml hm
              go_wp2_with fail
              go_roundg m
              case measure => exact HM.out
              case rel => exact ⟨u.take m, by rw [HML.out]; omega, HML.out.symm, rfl, rfl, HB2.out⟩
            · have he : ((y.toNat : Int) == 32) = false := by
                have : y.toNat ≠ 32 := fun h => h32 (UInt8.toNat_inj.1 (by simpa using h))
                simp; omega
              have HR : Hid (Lib.trimRightB T 32 = u) := Lib.hid (by rw [HB.out, hst, if_neg h32])
              clear h32 hst hue hy HB hm
              go_wp2_with fail
              go_ret
              rw [HR.out]
              exact ⟨rfl, rfl⟩
end Go.Proofs.YtipjkjcmceeaeaaGreatDoor
