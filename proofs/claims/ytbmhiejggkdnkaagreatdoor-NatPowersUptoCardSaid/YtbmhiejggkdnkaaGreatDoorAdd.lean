/- limbs.add: the walk. -/
import Derived.Test.YtbmhiejggkdnkaaGreatDoorBits
import Derived.Test.YtbmhiejggkdnkaaGreatDoorDigOps
namespace Go.Proofs.YtbmhiejggkdnkaaGreatDoor
open Go.RowKit

theorem info32 : (Tryz.prog.info? 74).map (fun i => (i.zero, i.size, i.bytes)) = some (some (.int .u32 0), 1, 4) := by kernel_rfl
theorem size32 : (Tryz.prog.info? 74).map (·.size) = some 1 := by kernel_rfl

/-- trim, at numbers. -/
theorem tl_dg (v : Nat) : ∀ n, v < LB ^ n → tl (Dg.dg LB v) n = Dg.len LB v
  | 0, h => by
    have : v = 0 := by simpa using h
    subst this
    rw [Dg.len_zero]; rfl
  | n + 1, h => by
    unfold tl
    by_cases h0 : Dg.dg LB v n = 0
    · rw [if_pos h0]
      refine tl_dg v n ?_
      have e := Dg.mod_succ LB v n
      rw [Nat.mod_eq_of_lt h, h0] at e
      rw [e]
      simpa using Nat.mod_lt v (Nat.pow_pos (n := n) (show 0 < LB by rw [LB_eq]; omega))
    · rw [if_neg h0]
      exact (Dg.len_unique LB2 h (Or.inr (by simp; omega))).symm

theorem trim_num (ao : Option Addr) (n cap v : Nat) (w : World) (hr : Rd w .u32 ao n cap (Dg.dg LB v)) (hv : v < LB ^ n) :
    Calls Tryz.prog 54 #[.slice ao n cap] w fun e w' => ∃ k, e = .returned (.slice ao k cap) ∧ Num w ao k cap v ∧ w = w' :=
  (trim_any ao n cap _ w hr).mono fun _ _ ⟨he, hw⟩ => ⟨_, he, ⟨tl_dg v n hv, hr.take (tl_le _ _)⟩, hw⟩

/-- The call answers a new slice (or an old one) that reads as v; nothing that was there has changed. -/
def RetNum (w : World) (v : Nat) (e : Ending) (w' : World) : Prop :=
  ∃ ro k cap, e = .returned (.slice ro k cap) ∧ Num w' ro k cap v ∧ Below w.heap.size w w'

/-- One round of a sum. -/
theorem add_step {x y k cr s k' : Nat} (hs : Hid (s = (Dg.dg LB x k + Dg.dg LB y k + cr) % LB)) (hk' : Hid (k' = (Dg.dg LB x k + Dg.dg LB y k + cr) / LB)) (hcr : Hid (cr = Dg.cy LB x y k)) :
    s = Dg.dg LB (x + y) k ∧ k' = Dg.cy LB x y (k + 1) := by
  have h := Dg.cy_step LB x y k (by rw [LB_eq]; omega)
  exact ⟨by rw [hs.out, hcr.out, h.1], by rw [hk'.out, hcr.out, h.2]⟩
theorem own_step {wr : World} {kd : IntKind} {e g n k s : Nat} {f h : Nat → Nat} (hown : Own wr kd e g n (fun j => if j < k then f j else h j)) (hs : s = f k) :
    Own (wr.setCell ⟨g, k, none⟩ (.int kd (s : Nat))) kd e g n (fun j => if j < k + 1 then f j else h j) :=
  (hown.set k s).congr fun j _ => by
    by_cases h1 : j = k
    · subst h1; simp [hs]
    · by_cases h2 : j < k
      · have : j < k + 1 := by omega
        simp [h1, h2, this]
      · have : ¬ j < k + 1 := by omega
        simp [h1, h2, this]

/-- The same where the stored number is told as an integer. -/
theorem own_step_int {wr : World} {kd : IntKind} {e g n k s : Nat} {v : Int} {f h : Nat → Nat} (hown : Own wr kd e g n (fun j => if j < k then f j else h j)) (hv : v = (s : Nat)) (hs : s = f k) :
    Own (wr.setCell ⟨g, k, none⟩ (.int kd v)) kd e g n (fun j => if j < k + 1 then f j else h j) := by
  rw [hv]; exact own_step hown hs

/-- A cell set anew, the row told by another function. -/
theorem own_set_int {wr : World} {kd : IntKind} {e g n k s : Nat} {v : Int} {f h : Nat → Nat} (hown : Own wr kd e g n f) (hv : v = (s : Nat)) (hs : s = h k) (he : ∀ j, j < n → j ≠ k → f j = h j) :
    Own (wr.setCell ⟨g, k, none⟩ (.int kd v)) kd e g n h := by
  rw [hv]
  refine (hown.set k s).congr fun j hj => ?_
  by_cases h1 : j = k
  · subst h1; simp [hs]
  · simp [h1, he j hj h1]

set_option maxRecDepth 100000 in
theorem add_any (ao bo : Option Addr) (n c m d a b : Nat) (w : World) (ha : Num w ao n c a) (hb : Num w bo m d b) (hn : n ≤ 100000000) (hm : m ≤ 100000000) :
    Calls Tryz.prog 35 #[.slice ao n c, .slice bo m d] w (RetNum w (a + b)) := by
  go_enter Tryz.func35, Tryz.ntmps35
  go_upto_if 13 with (fail)
  go_cut [0, 1] (fun s0 s1 wx => ∃ xo n c x yo m d y, s0 = .slice xo n c ∧ s1 = .slice yo m d ∧ m ≤ n ∧ n ≤ 100000000 ∧ Num w xo n c x ∧ Num w yo m d y ∧ x + y = a + b ∧ w = wx)
  case first =>
    by_cases hnm : n < m
    · go_wp2
      go_meet
      exact ⟨bo, m, d, b, ao, n, c, a, rfl, rfl, by omega, by omega, hb, ha, by omega, rfl⟩
    · go_wp2
      go_meet
      exact ⟨ao, n, c, a, bo, m, d, b, rfl, rfl, by omega, by omega, ha, hb, by omega, rfl⟩
  case rest =>
    obtain ⟨xo, n, c, x, yo, m, d, y, rfl, rfl, hmn, hn, hx, hy, hxy, rfl⟩ := hcut
    have HXY := Lib.hid hxy; clear hxy ha hb
    go_wp2_with (first
      | (refine wpList_make_row _ rfl (.tmp 18) (.tmp 18) _ rfl 74 .u32 4 Tryz.underlying52 info32 .i64 .i64 _ _ (n + 1) rfl rfl (by omega) (by omega) (by omega) (by omega) ?_; intro g w1 hg hown1 hb1)
      | (refine wpList_copy_row _ rfl (.tmp 20) (.tmp 21) _ _ rfl 74 Tryz.underlying52 size32 .u32 _ (n + 1) (n + 1) _ _ n _ _ rfl rfl hown1 (hx.rd.below hb1 (Nat.le_refl _)) (by omega) _ _ hb1 hg ?_; intro w2 hown2 hb2))
    have hx0 : x < LB ^ n := hx.lt
    have hy0 : y < LB ^ m := hy.lt
    have hdx : ∀ j, Dg.dg LB x j < LB := Dg.dg_lt (by rw [LB_eq]; omega) x
    have hdy : ∀ j, Dg.dg LB y j < LB := Dg.dg_lt (by rw [LB_eq]; omega) y
    have hown3 : Own w2 .u32 74 g (n + 1) (fun j => if j < 0 then Dg.dg LB (x + y) j else Dg.dg LB x j) := hown2.congr fun j hj => by
      by_cases h : j < n
      · simp [h]
      · simp [h]; exact (Dg.dg_of_lt_le (by rw [LB_eq]; omega) hx0 (by omega)).symm
    have HX0 := Lib.hid hx0; have HY0 := Lib.hid hy0; have HDX := Lib.hid hdx; have HDY := Lib.hid hdy
    clear hx0 hy0 hdx hdy hown2
    go_loopw [6, 25] (fun cv i wr => ∃ k cr : Nat, k ≤ n + 1 ∧ i = .int .i64 k ∧ cv = .int .u32 cr ∧ Hid (cr = Dg.cy LB x y k) ∧ Own wr .u32 74 g (n + 1) (fun j => if j < k then Dg.dg LB (x + y) j else Dg.dg LB x j) ∧ Below w.heap.size w wr) (fun _ i _ => n + 1 - (intOf i).toNat)
    case atStart => exact ⟨0, 0, Nat.zero_le _, rfl, rfl, (Dg.cy_zero _ _ _).symm, hown3, hb2⟩
    case round =>
      obtain ⟨k, cr, hk, rfl, rfl, hcr, hown, hbel⟩ := hrel
      clear hown3
      have hcr1 : cr ≤ 1 := by rw [hcr.out]; exact Dg.cy_le (by rw [LB_eq]; omega) _ _ _
      by_cases hkn : k < n + 1
      · have hcell : wr.cell? ⟨g, k, none⟩ = some (.int .u32 (Dg.dg LB x k : Nat)) := by simpa using hown.cell k hkn
        have hfr := hown.frozen k
        have hsy := hy.rd.sh
        obtain ⟨xk, hxk⟩ : ∃ xk, xk = Dg.dg LB x k := ⟨_, rfl⟩
        rw [← hxk] at hcell
        have hxl : xk < 4294967296 := by rw [hxk]; exact HDX.out k
        have HXK := Lib.hid hxk; clear hxk
        by_cases hkm : k < m
        · have hcy : wr.cell? ⟨blk yo, off yo + k, none⟩ = some (.int .u32 (Dg.dg LB y k : Nat)) := (hy.rd.below hbel (Nat.le_refl _)).cell k hkm
          obtain ⟨yk, hyk⟩ : ∃ yk, yk = Dg.dg LB y k := ⟨_, rfl⟩
          rw [← hyk] at hcy
          have hyl : yk < 4294967296 := by rw [hyk]; exact HDY.out k
          have HYK := Lib.hid hyk; clear hyk
          go_wp2_with (go_at_call 53; refine (add32_any xk yk cr _ hxl hyl hcr1).mono ?_; rintro e w' ⟨s, k', rfl, hs, hk', rfl⟩)
          have h1 := hs.out; rw [HXK.out, HYK.out] at h1
          have h2 := hk'.out; rw [HXK.out, HYK.out] at h2
          have R := add_step h1 h2 hcr
          go_roundw
          case rel => exact ⟨k + 1, k', by omega, by go_num, rfl, R.2, own_step hown R.1, hbel.setCell hg _⟩
          case measure => simp [intOf]; omega
        · have hyk : 0 = Dg.dg LB y k := (Dg.dg_of_lt_le (by rw [LB_eq]; omega) HY0.out (by omega)).symm
          have HYK := Lib.hid hyk; clear hyk
          go_wp2_with (go_at_call 53; refine (add32_any xk 0 cr _ hxl (by omega) hcr1).mono ?_; rintro e w' ⟨s, k', rfl, hs, hk', rfl⟩)
          have h1 := hs.out; rw [HXK.out, HYK.out] at h1
          have h2 := hk'.out; rw [HXK.out, HYK.out] at h2
          have R := add_step h1 h2 hcr
          go_roundw
          case rel => exact ⟨k + 1, k', by omega, by go_num, rfl, R.2, own_step hown R.1, hbel.setCell hg _⟩
          case measure => simp [intOf]; omega
      · obtain rfl : k = n + 1 := by omega
        have hlt : x + y < LB ^ (n + 1) := by
          have h1 := HX0.out
          have h2 : y < LB ^ n := Nat.lt_of_lt_of_le HY0.out (Nat.pow_le_pow_right (by rw [LB_eq]; omega) hmn)
          have h3 : LB ^ n * 2 ≤ LB ^ (n + 1) := by rw [Nat.pow_succ]; exact Nat.mul_le_mul_left _ LB2
          omega
        have hrd : Rd wr .u32 (some ⟨g, 0, none⟩) (n + 1) (n + 1) (Dg.dg LB (x + y)) := (hown.congr fun j hj => by simp [hj]).rd
        have HLT := Lib.hid hlt; clear hlt
        go_wp2_with (go_at_call 54; refine (trim_num _ _ _ _ _ hrd HLT.out).mono ?_; rintro e w' ⟨k, rfl, hnum, rfl⟩)
        go_ret
        exact ⟨_, _, _, rfl, by rw [← HXY.out]; exact hnum, hbel⟩
end Go.Proofs.YtbmhiejggkdnkaaGreatDoor
