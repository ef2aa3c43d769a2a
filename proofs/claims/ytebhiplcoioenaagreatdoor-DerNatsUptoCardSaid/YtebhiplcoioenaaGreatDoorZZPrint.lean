/- der.Print, der.Check: the walks. -/
import Derived.Test.YtebhiplcoioenaaGreatDoorZZForm
namespace Go.Proofs.YtebhiplcoioenaaGreatDoor
open Go.RowKit

set_option maxRecDepth 100000 in
set_option maxHeartbeats 4000000 in
theorem Print_any (v : Dv) (ad : Option Addr) (cp : Nat) (w : World) (hw : v.b.length + 4 + v.l.wt ≤ 1048576) (hs : SlD w v.l ad cp) (hg : Gd w) : Calls Tryz.prog 14 #[dvv v ad cp] w fun e w' => e = .returned (.tuple #[.string (bs v.print.1), .int .i64 v.print.2]) ∧ Below w.heap.size w w' := by
  have hR := Rws.start w
  have hfl : v.form.length ≤ 1048576 := by
    have h1 := whole_len v.c v.t v.k (if v.k then (formsS v.l).flatten else v.b)
    have h2 := forms_len v.l
    have h4 : (if v.k then (formsS v.l).flatten else v.b).length ≤ v.l.wt + v.b.length := by
      cases v.k
      · simp
      · rw [if_pos rfl]; omega
    unfold Dv.form
    omega
  have HFO : Hid (∀ u, Below w.heap.size w u → Calls Tryz.prog 38 #[dvv v ad cp, .int .i64 0] u (FormQ u v 0)) := Lib.hid fun u hu => form_any v ad cp 0 u hw (by decide) (hs.grown hu) (hg.below hu)
  have HTO : Hid (∀ e x u, ErrA e x → Below w.heap.size w u → Calls Tryz.prog 36 #[x] u (RetI e u)) := Lib.hid fun e x u hx hu => told_any e x hx u (hg.below hu).ty
  have HIT : Hid (∀ u, Calls Tryz.prog 34 #[.bool true, .int .i64 64] u fun e w' => e = .returned (wrV 64) ∧ w' = u) := Lib.hid fun u => is_any true 64 u
  have HIF : Hid (∀ u, Calls Tryz.prog 34 #[.bool false, .int .i64 64] u fun e w' => e = .returned .nilIface ∧ w' = u) := Lib.hid fun u => is_any false 64 u
  have HP : Hid (v.print = if v.err 0 ≠ 0 then ([], v.err 0) else if 16384 < v.form.length then ([], 64) else (v.form, 0)) := Lib.hid (by
    unfold Dv.print Dv.check
    by_cases h1 : v.err 0 ≠ 0
    · rw [if_pos h1, if_pos h1, if_neg h1]
    · rw [if_neg h1, if_neg h1]
      by_cases h2 : 16384 < v.form.length
      · rw [if_pos h2, if_pos h2, if_neg (by decide)]
      · rw [if_neg h2, if_neg h2, if_pos rfl])
  obtain ⟨cs, hcs⟩ : ∃ cs, cs = dvC v ad cp := ⟨_, rfl⟩
  unfold dvv at HFO ⊢
  rw [← hcs] at HFO ⊢
  have hz : cs.size = 5 := by rw [hcs]; rfl
  have hi : (Tryz.prog.info? 24).map (·.size) = some cs.size := by rw [hz]; kernel_rfl
  clear hcs hs hg hw
  by_cases he : v.err 0 = 0
  · have HF2 : Hid (∀ u, Below w.heap.size w u → Calls Tryz.prog 38 #[.agg cs, .int .i64 0] u fun e w' => e = .returned (.tuple #[.string (bs v.form), .nilIface]) ∧ Below u.heap.size u w') := Lib.hid fun u hu => (HFO.out u hu).mono fun e w' hh => by
      obtain ⟨⟨er, rfl, hA⟩, hb⟩ := hh
      rcases hA with ⟨_, rfl⟩ | ⟨h, _⟩
      · unfold Dv.formP
        rw [if_pos he]
        exact ⟨rfl, hb⟩
      · exact absurd he h
    have zf := bs_size v.form
    by_cases hl : 16384 < v.form.length
    · have hlz : (16384 : Int) < (v.form.length : Int) := by omega
      have HP2 : Hid (v.print = ([], 64)) := Lib.hid (by rw [HP.out, if_neg (by rw [he]; simp), if_pos hl])
      have HT2 : Hid (∀ u, Below w.heap.size w u → Calls Tryz.prog 36 #[wrV 64] u (RetI 64 u)) := Lib.hid fun u hu => HTO.out 64 _ u (Or.inr ⟨by decide, 0, .wrong⟩) hu
      clear he hl HP HFO HTO
      generalize v.form = F at *
      go_enter Tryz.func14, Tryz.ntmps14
      go_upto_region 2 with (first
        | (refine wpList_box_rws rfl _ _ (by rfl) (by exact hR) cs rfl ?_; intro gb w1 hR)
        | (refine wpList_load_rws rfl _ _ (by rfl) (by exact hR) gb rfl cs _ (List.Mem.head _) _ Tryz.underlying24 rfl hi ?_)
        | (go_at_call 38; refine (HF2.out _ hR.below).mono ?_; rintro e w2 ⟨rfl, hb2⟩))
      have HB := Lib.hid (hR.call hb2).below
      clear hR hb2
      go_wp2_with (first
        | (go_at_call 34; refine (HIT.out _).mono ?_; rintro e w3 ⟨rfl, rfl⟩)
        | (go_at_call 36; refine (HT2.out _ HB.out).mono ?_; rintro e w3 ⟨rfl, hb3⟩))
      go_ret2
      rw [HP2.out]
      exact ⟨rfl, HB.out.trans (hb3.mono HB.out.size)⟩
    · have hlz : ¬ (16384 : Int) < (v.form.length : Int) := by omega
      have HP2 : Hid (v.print = (v.form, 0)) := Lib.hid (by rw [HP.out, if_neg (by rw [he]; simp), if_neg hl])
      have HIZ : Hid (∀ u, Calls Tryz.prog 34 #[.bool (decide ((16384 : Int) < (v.form.length : Int))), .int .i64 64] u fun e w' => e = .returned .nilIface ∧ w' = u) := Lib.hid fun u => by rw [decide_eq_false hlz]; exact HIF.out u
      clear he hl HP HFO HTO hlz
      generalize v.form = F at *
      go_enter Tryz.func14, Tryz.ntmps14
      go_upto_region 2 with (first
        | (refine wpList_box_rws rfl _ _ (by rfl) (by exact hR) cs rfl ?_; intro gb w1 hR)
        | (refine wpList_load_rws rfl _ _ (by rfl) (by exact hR) gb rfl cs _ (List.Mem.head _) _ Tryz.underlying24 rfl hi ?_)
        | (go_at_call 38; refine (HF2.out _ hR.below).mono ?_; rintro e w2 ⟨rfl, hb2⟩))
      have HB := Lib.hid (hR.call hb2).below
      clear hR hb2
      go_wp2_with (go_at_call 34; refine (HIZ.out _).mono ?_; rintro e w3 ⟨rfl, rfl⟩)
      go_ret2
      rw [HP2.out]
      exact ⟨rfl, HB.out⟩
  · have HP2 : Hid (v.print = ([], v.err 0)) := Lib.hid (by rw [HP.out, if_pos he])
    have HF2 : Hid (∀ u, Below w.heap.size w u → Calls Tryz.prog 38 #[.agg cs, .int .i64 0] u fun e w' => (∃ T x, e = .returned (.tuple #[.string (bs []), .iface T x]) ∧ Hid (ErrA (v.err 0) (.iface T x))) ∧ Below u.heap.size u w') := Lib.hid fun u hu => (HFO.out u hu).mono fun e w' hh => by
      obtain ⟨⟨er, rfl, hA⟩, hb⟩ := hh
      rcases hA with ⟨h, _⟩ | ⟨_, m, hV⟩
      · exact absurd h he
      · unfold Dv.formP
        rw [if_neg he]
        refine ⟨?_, hb⟩
        cases hV with
        | wrong => exact ⟨_, _, rfl, Lib.hid (Or.inr ⟨he, 0, .wrong⟩)⟩
        | part m p v hv => exact ⟨_, _, rfl, Lib.hid (Or.inr ⟨he, _, .part m p v hv⟩)⟩
    clear he HP HFO
    go_enter Tryz.func14, Tryz.ntmps14
    go_upto_region 2 with (first
      | (refine wpList_box_rws rfl _ _ (by rfl) (by exact hR) cs rfl ?_; intro gb w1 hR)
      | (refine wpList_load_rws rfl _ _ (by rfl) (by exact hR) gb rfl cs _ (List.Mem.head _) _ Tryz.underlying24 rfl hi ?_)
      | (go_at_call 38; refine (HF2.out _ hR.below).mono ?_; rintro e w2 ⟨⟨T, x, rfl, hV⟩, hb2⟩))
    have HB := Lib.hid (hR.call hb2).below
    clear hR hb2
    go_wp2_with (go_at_call 36; refine (HTO.out _ _ _ hV.out HB.out).mono ?_; rintro e w3 ⟨rfl, hb3⟩)
    go_ret2
    rw [HP2.out]
    exact ⟨rfl, HB.out.trans (hb3.mono HB.out.size)⟩
theorem print_2 (v : Dv) : v.print.2 = v.check := by
  unfold Dv.print
  by_cases h : v.check = 0
  · rw [if_pos h, h]
  · rw [if_neg h]
set_option maxRecDepth 100000 in
set_option maxHeartbeats 4000000 in
theorem Check_any (v : Dv) (ad : Option Addr) (cp : Nat) (w : World) (hw : v.b.length + 4 + v.l.wt ≤ 1048576) (hs : SlD w v.l ad cp) (hg : Gd w) : Calls Tryz.prog 15 #[dvv v ad cp] w (RetI v.check w) := by
  have hR := Rws.start w
  have HPR : Hid (∀ u, Below w.heap.size w u → Calls Tryz.prog 14 #[dvv v ad cp] u fun e w' => e = .returned (.tuple #[.string (bs v.print.1), .int .i64 v.print.2]) ∧ Below u.heap.size u w') := Lib.hid fun u hu => Print_any v ad cp u hw (hs.grown hu) (hg.below hu)
  obtain ⟨cs, hcs⟩ : ∃ cs, cs = dvC v ad cp := ⟨_, rfl⟩
  unfold dvv at HPR ⊢
  rw [← hcs] at HPR ⊢
  have hz : cs.size = 5 := by rw [hcs]; rfl
  have hi : (Tryz.prog.info? 24).map (·.size) = some cs.size := by rw [hz]; kernel_rfl
  clear hcs hs hg hw
  go_enter Tryz.func15, Tryz.ntmps15
  go_wp2_with (first
    | (refine wpList_box_rws rfl _ _ (by rfl) (by exact hR) cs rfl ?_; intro gb w1 hR)
    | (refine wpList_load_rws rfl _ _ (by rfl) (by exact hR) gb rfl cs _ (List.Mem.head _) _ Tryz.underlying24 rfl hi ?_)
    | (go_at_call 14; refine (HPR.out _ hR.below).mono ?_; rintro e w2 ⟨rfl, hb2⟩))
  go_ret
  rw [print_2]
  exact ⟨rfl, (hR.call hb2).below⟩
end Go.Proofs.YtebhiplcoioenaaGreatDoor
