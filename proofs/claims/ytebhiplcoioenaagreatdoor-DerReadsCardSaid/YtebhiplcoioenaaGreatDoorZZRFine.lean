/- ostiaryref06.Fine: the walks, tag by tag. -/
import Derived.Test.YtebhiplcoioenaaGreatDoorZDE
import Derived.Test.YtebhiplcoioenaaGreatDoorZZGS
import Derived.Deep.LoopGhost
namespace Go.Proofs.YtebhiplcoioenaaGreatDoor
open Go.RowKit

set_option maxRecDepth 100000 in
set_option maxHeartbeats 4000000 in
theorem rfine_2 (s : Bs) (w : World) (hs : s.length ≤ SB) : Calls Tryz.prog 72 #[.int .i64 2, .string (bs s)] w (RetB (intB s) w) := by
  have hSB := SB_eq
  cases s with
  | nil =>
    have zs := bs_size ([] : Bs)
    go_enter Tryz.func72, Tryz.ntmps72
    go_wp2_with fail
    go_ret
    exact ⟨rfl, Below.refl _ _⟩
  | cons a r =>
    cases r with
    | nil =>
      have zs := bs_size [a]
      go_enter Tryz.func72, Tryz.ntmps72
      go_wp2_with fail
      go_ret
      exact ⟨rfl, Below.refl _ _⟩
    | cons b r =>
      have zs := bs_size (a :: b :: r)
      have hlen : (a :: b :: r).length = r.length + 2 := rfl
      have hg0 : ∀ h, (bs (a :: b :: r))[0]'h = a := fun h => bs_get (a :: b :: r) 0 a rfl h
      have hg1 : ∀ h, (bs (a :: b :: r))[1]'h = b := fun h => bs_get (a :: b :: r) 1 b rfl h
      have hn1 : (((r.length : Nat) : Int) + 2 == 1) = false := by simp; omega
      have HI : Hid (intB (a :: b :: r) = !((a == 0 && decide (b.toNat < 128)) || (a == 255 && decide (128 ≤ b.toNat)))) := Lib.hid rfl
      rw [HI.out]
      have e0 : (a == 0) = decide (a.toNat = 0) := by
        have : ∀ x : UInt8, (x == 0) = decide (x.toNat = 0) := every_byte (by decide +kernel)
        exact this a
      have e1 : (a == 255) = decide (a.toNat = 255) := by
        have : ∀ x : UInt8, (x == 255) = decide (x.toNat = 255) := every_byte (by decide +kernel)
        exact this a
      rw [e0, e1]
      clear e0 e1 HI
      by_cases h0 : a.toNat = 0
      · have h0z : ((a.toNat : Int) == 0) = true := by simp; omega
        have h5z : ((a.toNat : Int) == 255) = false := by simp; omega
        have h5 : ¬ a.toNat = 255 := by omega
        by_cases hb : b.toNat < 128
        · have hbz : (b.toNat : Int) < 128 := by omega
          rw [decide_eq_true h0, decide_eq_true hb]
          clear h0 h5
          go_enter Tryz.func72, Tryz.ntmps72
          go_wp2_with fail
          go_ret
          exact ⟨rfl, Below.refl _ _⟩
        · have hbz : ¬ (b.toNat : Int) < 128 := by omega
          rw [decide_eq_true h0, decide_eq_false hb, decide_eq_false h5]
          clear h0 h5
          go_enter Tryz.func72, Tryz.ntmps72
          go_wp2_with fail
          go_ret
          exact ⟨rfl, Below.refl _ _⟩
      · have h0z : ((a.toNat : Int) == 0) = false := by simp; omega
        rw [decide_eq_false h0]
        clear h0
        by_cases h5 : a.toNat = 255
        · have h5z : ((a.toNat : Int) == 255) = true := by simp; omega
          rw [decide_eq_true h5]
          clear h5
          by_cases hb : b.toNat < 128
          · have hby : ¬ (128 : Int) ≤ (b.toNat : Int) := by omega
            have hb2 : ¬ 128 ≤ b.toNat := by omega
            rw [decide_eq_false hb2]
            clear hb2
            go_enter Tryz.func72, Tryz.ntmps72
            go_wp2_with fail
            go_ret
            exact ⟨rfl, Below.refl _ _⟩
          · have hbz : ¬ (b.toNat : Int) < 128 := by omega
            have hb2 : 128 ≤ b.toNat := by omega
            rw [decide_eq_true hb2]
            clear hb2
            go_enter Tryz.func72, Tryz.ntmps72
            go_wp2_with fail
            go_ret
            exact ⟨rfl, Below.refl _ _⟩
        · have h5z : ((a.toNat : Int) == 255) = false := by simp; omega
          rw [decide_eq_false h5]
          clear h5
          go_enter Tryz.func72, Tryz.ntmps72
          go_wp2_with fail
          go_ret
          exact ⟨rfl, Below.refl _ _⟩
theorem u8_bit (x k : Nat) (hx : x < 256) (hk : k < 8) : (bits BinOp.and IntKind.u8 ((x : Int) / 2 ^ k) 1 == 1) = decide (x / 2 ^ k % 2 = 1) := by
  have key : ∀ (x : Fin 256) (k : Fin 8), (bits BinOp.and IntKind.u8 ((x.val : Int) / 2 ^ k.val) 1 == 1) = decide (x.val / 2 ^ k.val % 2 = 1) := by decide +kernel
  exact key ⟨x, hx⟩ ⟨k, hk⟩
theorem bit_no (x k a : Nat) (hx : x < 256) (hk : k < a) (ha : a < 8) (h : x / 2 ^ k % 2 = 1) : x % 2 ^ a ≠ 0 := by
  have key : ∀ (x : Fin 256) (k a : Fin 8), k.val < a.val → x.val / 2 ^ k.val % 2 = 1 → x.val % 2 ^ a.val ≠ 0 := by decide +kernel
  exact key ⟨x, hx⟩ ⟨k, by omega⟩ ⟨a, ha⟩ hk h
theorem bit_next (x k : Nat) (hx : x < 256) (hk : k < 8) (h : x % 2 ^ k = 0) (h2 : ¬ x / 2 ^ k % 2 = 1) : x % 2 ^ (k + 1) = 0 := by
  have key : ∀ (x : Fin 256) (k : Fin 8), x.val % 2 ^ k.val = 0 → ¬ x.val / 2 ^ k.val % 2 = 1 → x.val % 2 ^ (k.val + 1) = 0 := by decide +kernel
  exact key ⟨x, hx⟩ ⟨k, hk⟩ h h2
set_option maxRecDepth 100000 in
set_option maxHeartbeats 4000000 in
theorem rfine_3 (s : Bs) (w : World) (hs : s.length ≤ SB) : Calls Tryz.prog 72 #[.int .i64 3, .string (bs s)] w (RetB (bitsB s) w) := by
  have hSB := SB_eq
  cases s with
  | nil =>
    have zs := bs_size ([] : Bs)
    go_enter Tryz.func72, Tryz.ntmps72
    go_wp2_with fail
    go_ret
    exact ⟨rfl, Below.refl _ _⟩
  | cons a r =>
    have zs := bs_size (a :: r)
    have hlen : (a :: r).length = r.length + 1 := rfl
    have hg0 : ∀ h, (bs (a :: r))[0]'h = a := fun h => bs_get (a :: r) 0 a rfl h
    have HB : Hid (bitsB (a :: r) = (decide (a.toNat < 8) && (a == 0 || match r.getLast? with
      | none => false
      | some x => x.toNat % 2 ^ a.toNat == 0))) := Lib.hid rfl
    by_cases h7 : 7 < a.toNat
    · have h7z : (7 : Int) < (a.toNat : Int) := by omega
      have hx : bitsB (a :: r) = false := by rw [HB.out, decide_eq_false (by omega)]; rfl
      rw [hx]
      clear hx HB
      go_enter Tryz.func72, Tryz.ntmps72
      have hn0 : (((r.length : Nat) : Int) + 1 == 0) = false := by simp; omega
      go_wp2_with fail
      go_ret
      exact ⟨rfl, Below.refl _ _⟩
    · have h7z : ¬ (7 : Int) < (a.toNat : Int) := by omega
      have hn0 : (((r.length : Nat) : Int) + 1 == 0) = false := by simp; omega
      cases hr : r.getLast? with
      | none =>
        have hrn : r = [] := List.getLast?_eq_none_iff.1 hr
        subst hrn
        have hx : bitsB [a] = decide (a.toNat = 0) := by
          have : ∀ x : UInt8, bitsB [x] = decide (x.toNat = 0) := every_byte (by decide +kernel)
          exact this a
        rw [hx]
        clear hx HB
        by_cases h0 : a.toNat = 0
        · have h0z : ¬ (0 : Int) < (a.toNat : Int) := by omega
          rw [decide_eq_true h0]
          have h0y : (a.toNat : Int) = 0 := by omega
          clear h0
          go_enter Tryz.func72, Tryz.ntmps72
          go_upto_region 11 with fail
          refine wp_loop_rounds 1 ?_
          rw [rounds_succ]
          go_wp2_with fail
          go_ret
          exact ⟨rfl, Below.refl _ _⟩
        · have h0z : (0 : Int) < (a.toNat : Int) := by omega
          rw [decide_eq_false h0]
          go_enter Tryz.func72, Tryz.ntmps72
          go_wp2_with fail
          go_ret
          exact ⟨rfl, Below.refl _ _⟩
      | some x =>
        have hrl : 0 < r.length := by cases r with
          | nil => cases hr
          | cons y r => simp
        have hn1 : (((r.length : Nat) : Int) + 1 == 1) = false := by simp; omega
        have hgl : ∀ h, (bs (a :: r))[r.length]'h = x := fun h => bs_get (a :: r) r.length x (by
          rw [List.getLast?_eq_getElem?] at hr
          obtain ⟨m, hm⟩ : ∃ m, r.length = m + 1 := ⟨r.length - 1, by omega⟩
          rw [hm] at hr ⊢
          exact hr) h
        have HX : Hid (bitsB (a :: r) = decide (x.toNat % 2 ^ a.toNat = 0)) := Lib.hid (by
          rw [HB.out, decide_eq_true (by omega : a.toNat < 8), hr]
          have : ∀ c : UInt8, (c == 0) = decide (c.toNat = 0) := every_byte (by decide +kernel)
          rw [this a]
          by_cases h0 : a.toNat = 0
          · rw [h0]
            simp [Nat.mod_one]
          · rw [decide_eq_false h0]
            simp only [Bool.true_and, Bool.false_or]
            rfl)
        rw [HX.out]
        have hxl := x.toNat_lt
        clear hr HB HX
        go_enter Tryz.func72, Tryz.ntmps72
        go_upto_region 11 with fail
        go_loopg [6] a.toNat (fun gg s6 wr => ∃ k : Nat, k + gg = a.toNat ∧ s6 = .int .i64 k ∧ Aside (x.toNat % 2 ^ k = 0) ∧ wr = w)
        case atStart => exact ⟨0, by omega, rfl, by show x.toNat % 2 ^ 0 = 0; omega, rfl⟩
        case round =>
          obtain ⟨k, hk, rfl, HM, rfl⟩ := hrel
          cases gk with
          | zero =>
            have hkz : ¬ (k : Int) < (a.toNat : Int) := by omega
            have HK : Hid (x.toNat % 2 ^ a.toNat = 0) := Lib.hid (by rw [← (by omega : k = a.toNat)]; exact HM.out)
            go_wp2_with fail
            go_ret
            rw [decide_eq_true HK.out]
            exact ⟨rfl, Below.refl _ _⟩
          | succ gk =>
            have hkz : (k : Int) < (a.toNat : Int) := by omega
            have hb := u8_bit x.toNat k (by omega) (by omega)
            by_cases hx : x.toNat / 2 ^ k % 2 = 1
            · rw [decide_eq_true hx] at hb
              have HN := Lib.hid (bit_no x.toNat k a.toNat (by omega) (by omega) (by omega) hx)
              clear hx HM
              go_wp2_with fail
              go_ret
              rw [decide_eq_false HN.out]
              exact ⟨rfl, Below.refl _ _⟩
            · rw [decide_eq_false hx] at hb
              have HN := Lib.hid (bit_next x.toNat k (by omega) (by omega) HM.out hx)
              clear hx HM
              go_wp2_with fail
              go_roundg gk
              case measure => omega
              case rel => exact ⟨k + 1, by omega, by go_num, HN.out, rfl⟩
set_option maxRecDepth 100000 in
set_option maxHeartbeats 4000000 in
theorem rfine_6 (s : Bs) (w : World) (r : Bool) (hgr : ∀ u, Below w.heap.size w u → Calls Tryz.prog 43 #[.string (bs s)] u fun e w' => (∃ V, e = .returned (.tuple #[V, .bool r])) ∧ Below u.heap.size u w') : Calls Tryz.prog 72 #[.int .i64 6, .string (bs s)] w (RetB r w) := by
  have HGR := Lib.hid hgr
  clear hgr
  have zs := bs_size s
  go_enter Tryz.func72, Tryz.ntmps72
  go_wp2_with (go_at_call 43; refine (HGR.out _ (Below.refl _ _)).mono ?_; rintro e w3 ⟨⟨V, rfl⟩, hb3⟩)
  go_ret
  exact ⟨rfl, hb3⟩
set_option maxRecDepth 100000 in
set_option maxHeartbeats 4000000 in
theorem rfine_t (t : Int) (ht : t = 23 ∨ t = 24) (s : Bs) (w : World) (r : Bool) (hmo : ∀ u, Below w.heap.size w u → Calls Tryz.prog 52 #[.int .i64 t, .string (bs s)] u fun e w' => (∃ V, e = .returned (.tuple #[V, .bool r])) ∧ Below u.heap.size u w') : Calls Tryz.prog 72 #[.int .i64 t, .string (bs s)] w (RetB r w) := by
  have HMO := Lib.hid hmo
  clear hmo
  have zs := bs_size s
  rcases ht with rfl | rfl
  all_goals
    go_enter Tryz.func72, Tryz.ntmps72
    go_wp2_with (go_at_call 52; refine (HMO.out _ (Below.refl _ _)).mono ?_; rintro e w3 ⟨⟨V, rfl⟩, hb3⟩)
    go_ret
    exact ⟨rfl, hb3⟩
end Go.Proofs.YtebhiplcoioenaaGreatDoor
