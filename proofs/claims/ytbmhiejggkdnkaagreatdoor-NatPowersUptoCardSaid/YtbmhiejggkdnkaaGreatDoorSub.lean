/- limbs.sub: the walk. -/
import Derived.Test.YtbmhiejggkdnkaaGreatDoorAdd
namespace Go.Proofs.YtbmhiejggkdnkaaGreatDoor
open Go.RowKit

/-- The errors of the package. -/
def errLong : Value := .iface 72 (.string ⟨#[116, 111, 111, 32, 108, 111, 110, 103]⟩)
def errZero : Value := .iface 72 (.string ⟨#[122, 101, 114, 111]⟩)
def errBelow : Value := .iface 72 (.string ⟨#[98, 101, 108, 111, 119, 32, 122, 101, 114, 111]⟩)
def errNone : Value := .iface 72 (.string ⟨#[110, 111, 32, 105, 110, 118, 101, 114, 115, 101]⟩)
def errEven : Value := .iface 72 (.string ⟨#[101, 118, 101, 110]⟩)

/-- A number and no error. -/
def RetNumE (w : World) (v : Nat) (e : Ending) (w' : World) : Prop :=
  ∃ ro k cap, e = .returned (.tuple #[.slice ro k cap, .nilIface]) ∧ Num w' ro k cap v ∧ Below w.heap.size w w'
/-- No number, and an error. -/
def RetErrE (w : World) (er : Value) (e : Ending) (w' : World) : Prop :=
  e = .returned (.tuple #[.slice none 0 0, er]) ∧ Below w.heap.size w w'

theorem below_drawn {B : Nat} {a w : World} (h : Below B a w) (q : Nat) : Below B a (w.drewN q) := ⟨h.os, h.tape, h.output, h.size, h.block⟩

set_option maxRecDepth 100000 in
theorem sub_lt (ao bo : Option Addr) (n c m d a b : Nat) (w : World) (ha : Num w ao n c a) (hb : Num w bo m d b) (hab : a < b) :
    Calls Tryz.prog 36 #[.slice ao n c, .slice bo m d] w (RetErrE w errBelow) := by
  have hcm : cmpN a b = -1 := cmpN_lt hab
  have HCM := Lib.hid hcm; clear hcm
  go_enter Tryz.func36, Tryz.ntmps36
  go_wp2_with (go_at_call 48; refine (cmp_any _ _ _ _ _ _ a b _ ha hb).mono ?_; rintro e w' ⟨rfl, q, rfl⟩; rw [HCM.out])
  go_ret2
  exact ⟨rfl, below_drawn (Below.refl _ _) q⟩

/-- One round of a difference. -/
theorem sub_step' {x y k cr s k' : Nat} (hyx : y ≤ x) (hs : Hid (s = (Dg.dg LB x k + LB - Dg.dg LB y k - cr) % LB)) (hk' : Hid (k' = bor (Dg.dg LB x k) (Dg.dg LB y k) cr)) (hcr : Hid (cr = Dg.bw LB x y k)) :
    s = Dg.dg LB (x - y) k ∧ k' = Dg.bw LB x y (k + 1) :=
  ⟨by rw [hs.out, hcr.out, Dg.dg_sub LB x y k (by rw [LB_eq]; omega) hyx], by rw [hk'.out, hcr.out, Dg.sub_step LB x y k (by rw [LB_eq]; omega)]; rfl⟩

set_option maxRecDepth 100000 in
theorem sub_any (xo yo : Option Addr) (n c m d x y : Nat) (w : World) (hx : Num w xo n c x) (hy : Num w yo m d y) (hn : n ≤ 100000000) (hyx : y ≤ x) :
    Calls Tryz.prog 36 #[.slice xo n c, .slice yo m d] w (RetNumE w (x - y)) := by
  have hcm : 0 ≤ cmpN x y := by unfold cmpN; rw [if_neg (by omega)]; split <;> omega
  obtain ⟨cm, hcmd⟩ : ∃ cm, cm = cmpN x y := ⟨_, rfl⟩
  rw [← hcmd] at hcm
  have HCM := Lib.hid hcmd; clear hcmd
  have HYX := Lib.hid hyx; clear hyx
  have hmn : m ≤ n := by rw [hx.len, hy.len]; exact Dg.len_mono LB2 HYX.out
  go_enter Tryz.func36, Tryz.ntmps36
  go_wp2_with (first
    | (go_at_call 48; refine (cmp_any _ _ _ _ _ _ x y _ hx hy).mono ?_; rintro e w' ⟨rfl, q, rfl⟩; rw [← HCM.out]; have hx' := hx.drewN q; have hbq := below_drawn (Below.refl w.heap.size w) q)
    | (refine wpList_make_row _ rfl (.tmp 16) (.tmp 16) _ rfl 74 .u32 4 Tryz.underlying52 info32 .i64 .i64 _ _ n rfl rfl (by omega) (by omega) (by omega) (by omega) ?_; intro g w1 hg hown1 hb1; have hg' : w.heap.size ≤ g := hg; have hb1' : Below w.heap.size w w1 := hbq.trans hb1)
    | (refine wpList_copy_row _ rfl (.tmp 18) (.tmp 19) _ _ rfl 74 Tryz.underlying52 size32 .u32 _ n n _ _ n _ _ rfl rfl hown1 (hx.rd.below hb1' (Nat.le_refl _)) (by omega) _ _ hb1' hg' ?_; intro w2 hown2 hb2))
  have hx0 : x < LB ^ n := hx.lt
  have hy0 : y < LB ^ m := hy.lt
  have hdx : ∀ j, Dg.dg LB x j < LB := Dg.dg_lt (by rw [LB_eq]; omega) x
  have hdy : ∀ j, Dg.dg LB y j < LB := Dg.dg_lt (by rw [LB_eq]; omega) y
  have hown3 : Own w2 .u32 74 g n (fun j => if j < 0 then Dg.dg LB (x - y) j else Dg.dg LB x j) := hown2.congr fun j hj => by simp [hj]
  have HX0 := Lib.hid hx0; have HY0 := Lib.hid hy0; have HDX := Lib.hid hdx; have HDY := Lib.hid hdy
  clear hx0 hy0 hdx hdy hown2
  go_loopw [7, 23] (fun cv i wr => ∃ k cr : Nat, k ≤ n ∧ i = .int .i64 k ∧ cv = .int .u32 cr ∧ Hid (cr = Dg.bw LB x y k) ∧ Own wr .u32 74 g n (fun j => if j < k then Dg.dg LB (x - y) j else Dg.dg LB x j) ∧ Below w.heap.size w wr) (fun _ i _ => n - (intOf i).toNat)
  case atStart => exact ⟨0, 0, Nat.zero_le _, rfl, rfl, (Dg.bw_zero _ _ _).symm, hown3, hb2⟩
  case round =>
    obtain ⟨k, cr, hk, rfl, rfl, hcr, hown, hbel⟩ := hrel
    clear hown3
    have hcr1 : cr ≤ 1 := by rw [hcr.out]; exact Dg.bw_le _ _ _ _
    by_cases hkn : k < n
    · have hcell : wr.cell? ⟨g, k, none⟩ = some (.int .u32 (Dg.dg LB x k : Nat)) := by simpa using hown.cell k hkn
      have hfr := hown.frozen k
      have hsy := hy.rd.sh
      obtain ⟨xk, hxk⟩ : ∃ xk, xk = Dg.dg LB x k := ⟨_, rfl⟩
      rw [← hxk] at hcell
      have hxl : xk < 4294967296 := by rw [hxk]; exact HDX.out k
      have HXK := Lib.hid hxk; clear hxk
      by_cases hkm : k < m
      · have hcy : wr.cell? ⟨blk yo, off yo + k, none⟩ = some (.int .u32 (Dg.dg LB y k : Nat)) := (hy.rd.below hbel (Nat.le_refl _)).cell k hkm
        obtain ⟨yk, hyk⟩ : ∃ yk, yk = Dg.dg LB y k := ⟨_, rfl⟩
        rw [← hyk] at hcy
        have hyl : yk < 4294967296 := by rw [hyk]; exact HDY.out k
        have HYK := Lib.hid hyk; clear hyk
        go_wp2_with (go_at_call 55; refine (sub32_any xk yk cr _ hxl hyl hcr1).mono ?_; rintro e w' ⟨s, k', rfl, hs, hk', rfl⟩)
        have h1 := hs.out; rw [HXK.out, HYK.out] at h1
        have h2 := hk'.out; rw [HXK.out, HYK.out] at h2
        have R := sub_step' HYX.out h1 h2 hcr
        go_roundw
        case rel => exact ⟨k + 1, k', by omega, by go_num, rfl, R.2, own_step hown R.1, hbel.setCell hg' _⟩
        case measure => simp [intOf]; omega
      · have hyk : 0 = Dg.dg LB y k := (Dg.dg_of_lt_le (by rw [LB_eq]; omega) HY0.out (by omega)).symm
        have HYK := Lib.hid hyk; clear hyk
        go_wp2_with (go_at_call 55; refine (sub32_any xk 0 cr _ hxl (by omega) hcr1).mono ?_; rintro e w' ⟨s, k', rfl, hs, hk', rfl⟩)
        have h1 := hs.out; rw [HXK.out, HYK.out] at h1
        have h2 := hk'.out; rw [HXK.out, HYK.out] at h2
        have R := sub_step' HYX.out h1 h2 hcr
        go_roundw
        case rel => exact ⟨k + 1, k', by omega, by go_num, rfl, R.2, own_step hown R.1, hbel.setCell hg' _⟩
        case measure => simp [intOf]; omega
    · obtain rfl : k = n := by omega
      have hlt : x - y < LB ^ k := Nat.lt_of_le_of_lt (Nat.sub_le _ _) HX0.out
      have hrd : Rd wr .u32 (some ⟨g, 0, none⟩) k k (Dg.dg LB (x - y)) := (hown.congr fun j hj => by simp [hj]).rd
      have HLT := Lib.hid hlt; clear hlt
      go_wp2_with (go_at_call 54; refine (trim_num _ _ _ _ _ hrd HLT.out).mono ?_; rintro e w' ⟨k, rfl, hnum, rfl⟩)
      go_ret2
      exact ⟨_, _, _, rfl, hnum, hbel⟩
end Go.Proofs.YtbmhiejggkdnkaaGreatDoor
