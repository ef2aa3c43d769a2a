/- ostiaryref06.split, group: the walks. -/
import Derived.Test.YtebhiplcoioenaaGreatDoorZDQ
import Derived.Test.YtebhiplcoioenaaGreatDoorZZSplit
import Derived.Deep.LoopGhost
namespace Go.Proofs.YtebhiplcoioenaaGreatDoor
open Go.RowKit

theorem splitW_dot : ∀ s : Bs, splitW (s ++ [46]) = splitW s ++ [[]]
  | [] => rfl
  | c :: r => by
    have ih := splitW_dot r
    rw [List.cons_append, splitW, splitW]
    by_cases h : c = 46
    · rw [if_pos h, if_pos h, ih]; rfl
    · rw [if_neg h, if_neg h, ih]
      have hne := split_ne r
      cases hs : splitW r with
      | nil => exact absurd hs hne
      | cons w l => rfl
theorem splitW_snoc {c : UInt8} (hc : c ≠ 46) : ∀ (s : Bs) (pre : List Bs) (wd : Bs), splitW s = pre ++ [wd] → splitW (s ++ [c]) = pre ++ [wd ++ [c]]
  | [], pre, wd, h => by
    have h2 : pre = [] ∧ wd = [] := by
      cases pre with
      | nil => simp only [splitW, List.nil_append, List.cons.injEq, and_true] at h; exact ⟨rfl, h.symm⟩
      | cons p ps => simp [splitW] at h
    obtain ⟨rfl, rfl⟩ := h2
    rw [List.nil_append, splitW, if_neg hc]
    rfl
  | d :: r, pre, wd, h => by
    have hne := split_ne r
    obtain ⟨pre', wd', hr⟩ : ∃ pre' wd', splitW r = pre' ++ [wd'] := ⟨(splitW r).dropLast, (splitW r).getLast hne, (List.dropLast_concat_getLast hne).symm⟩
    have ih := splitW_snoc hc r pre' wd' hr
    rw [List.cons_append, splitW, ih]
    rw [splitW, hr] at h
    by_cases hd : d = 46
    · rw [if_pos hd] at h ⊢
      have h2 : ([] :: pre') ++ [wd'] = pre ++ [wd] := h
      obtain ⟨e1, e2⟩ := List.append_inj' h2 rfl
      cases e2
      rw [← e1]
      rfl
    · rw [if_neg hd] at h ⊢
      cases pre' with
      | nil =>
        have h2 : [] ++ [d :: wd'] = pre ++ [wd] := h
        obtain ⟨e1, e2⟩ := List.append_inj' h2 rfl
        cases e2
        rw [← e1]
        rfl
      | cons p ps =>
        have h2 : ((d :: p) :: ps) ++ [wd'] = pre ++ [wd] := h
        obtain ⟨e1, e2⟩ := List.append_inj' h2 rfl
        cases e2
        rw [← e1]
        rfl
/-- The last of one's own texts, to be written. -/
theorem own_last {B : Nat} {w : World} {v : Value} {pre : List Bs} {wd : Bs} (h : OwnS B w v (pre ++ [wd])) : ∃ g c, v = .slice (some ⟨g, 0, none⟩) (pre.length + 1) c ∧ B ≤ g ∧ pre.length + 1 ≤ c ∧ c ≤ MX ∧ w.cell? ⟨g, pre.length, none⟩ = some (.string (bs wd)) ∧ w.frozen? ⟨g, pre.length, none⟩ = false ∧
    ∀ x : Bs, OwnS B (w.setCell ⟨g, pre.length, none⟩ (.string (bs x))) v (pre ++ [x]) := by
  have hl : (pre ++ [wd]).length = pre.length + 1 := by simp
  have hc := fun g (e : v.ownBlock = some g) => World.ownsRow.cells h (g := g) e pre.length (.string (bs wd)) (by unfold StC; simp)
  obtain ⟨h0, ⟨_, h1⟩ | ⟨g, cap, cur, rfl, hg, hh, hn, hcm, hcs, htk⟩⟩ := h
  · rw [hl] at h1; cases h1
  · rw [hl] at hn htk hc ⊢
    have hcell := hc g rfl
    rw [Addr.add_lit, Nat.zero_add] at hcell
    refine ⟨g, cap, rfl, hg, hn, hcm, hcell, frozen_of_row w g _ cur _ hh, fun x => ?_⟩
    have hl2 : (pre ++ [x]).length = pre.length + 1 := by simp
    refine ⟨by unfold StC; simp, Or.inr ⟨g, cap, cur.setIfInBounds pre.length (.string (bs x)), by rw [hl2], hg, heap_setCell_same w g _ cur _ _ hh, by rw [hl2]; exact hn, hcm, by simpa using hcs, ?_⟩⟩
    rw [hl2]
    rw [Nat.mul_one] at htk ⊢
    unfold StC at htk ⊢
    rw [List.map_append] at htk ⊢
    rw [Array.toList_setIfInBounds, List.take_set, htk, List.set_append_right _ _ (by simp)]
    simp
set_option maxRecDepth 100000 in
set_option maxHeartbeats 8000000 in
theorem RSplit_any (s : Bs) (w : World) (hs : s.length ≤ 1048576) : Calls Tryz.prog 47 #[.string (bs s)] w fun e w' => (∃ v, e = .returned v ∧ OwnS w.heap.size w' v (splitW s)) ∧ Below w.heap.size w w' := by
  have zs := bs_size s
  have hO0 : OwnS w.heap.size (w.alloc (.cells #[.string ⟨#[]⟩] 9)) (.slice (some ⟨w.heap.size, 0, none⟩) 1 1) [[]] :=
    ⟨rfl, Or.inr ⟨w.heap.size, 1, #[.string ⟨#[]⟩], rfl, Nat.le_refl _, heap_alloc_new _ _, Nat.le_refl _, by unfold maxLen; omega, rfl, rfl⟩⟩
  have HO0 := Lib.hid hO0
  have HB0 := Lib.hid (b_alloc w (.cells #[.string ⟨#[]⟩] 9))
  clear hO0
  go_enter Tryz.func47, Tryz.ntmps47
  go_upto_region 3 with fail
  go_loopg [3, 4] s.length (fun gg s3 s4 wr => ∃ (i : Nat) (pre : List Bs) (wd : Bs) (v : Value), i ≤ s.length ∧ gg = s.length - i ∧ s3 = v ∧ s4 = .int .i64 i ∧
    Aside (OwnS w.heap.size wr v (pre ++ [wd])) ∧ Aside (splitW (s.take i) = pre ++ [wd]) ∧ Aside (pre.length ≤ i ∧ wd.length ≤ i) ∧ Aside (Below w.heap.size w wr))
  case atStart => exact ⟨0, [], [], _, by omega, rfl, rfl, rfl, HO0.out, (show splitW (s.take 0) = [] ++ [[]] by rw [List.take_zero]; rfl), ⟨Nat.le_refl _, Nat.le_refl _⟩, HB0.out⟩
  case round =>
    obtain ⟨i, pre, wd, v, hi, rfl, rfl, rfl, HO, HA, HN, HB⟩ := hrel
    clear HO0 HB0
    by_cases hlt : i < s.length
    · have hltz : (i : Int) < (s.length : Int) := by omega
      obtain ⟨y, hy⟩ : ∃ y, s[i]? = some y := ⟨s[i], List.getElem?_eq_getElem hlt⟩
      have hgy := bs_get s i y hy
      have HTK : Hid (s.take (i + 1) = s.take i ++ [y]) := Lib.hid (by rw [List.take_add_one, hy]; rfl)
      by_cases hy8 : y = 46
      · subst hy8
        have HA2 : Hid (splitW (s.take (i + 1)) = (pre ++ [wd]) ++ [[]]) := Lib.hid (by rw [HTK.out, splitW_dot, HA.out])
        have hk : (pre ++ [wd]).length + 1 ≤ 3000000 := by rw [List.length_append]; have := HN.out.1; simp; omega
        have HNN : Hid ((pre ++ [wd]).length ≤ i + 1 ∧ ([] : Bs).length ≤ i + 1) := Lib.hid ⟨by rw [List.length_append]; have := HN.out.1; simp; omega, Nat.zero_le _⟩
        clear hy
        go_wp2_with (at_builtin; refine wp_snocS rfl _ _ (by rfl) [] (by rfl) (by rfl) HO.out (Nat.le_refl _) HB.out hk ?_; intro v' w2 hO2 hB2)
        go_roundg (s.length - (i + 1))
        case measure => omega
        case rel => exact ⟨i + 1, pre ++ [wd], [], v', by omega, rfl, rfl, by go_num, hO2, HA2.out, HNN.out, hB2⟩
      · have hyz : ((y.toNat : Int) == 46) = false := by
          have : y.toNat ≠ 46 := fun e => hy8 (by rw [← u8_back y, e]; rfl)
          simp; omega
        have HA2 : Hid (splitW (s.take (i + 1)) = pre ++ [wd ++ [y]]) := Lib.hid (by rw [HTK.out]; exact splitW_snoc hy8 _ _ _ HA.out)
        have HCUT : Hid (bs wd ++ (bs s).extract i (i + 1) = bs (wd ++ [y])) := Lib.hid (by
          have : (bs s).extract i (i + 1) = bs [y] := by
            rw [bs_cut, List.drop_take, show i + 1 - i = 1 by omega]
            obtain ⟨h2, e⟩ := List.getElem?_eq_some_iff.1 hy
            rw [← e, List.drop_eq_getElem_cons h2]; rfl
          rw [this, bs_app2])
        obtain ⟨g, c, rfl, hgB, hc1, hc2, hcell, hfro, hst⟩ := own_last HO.out
        have hMX := MX_eq
        have zw := bs_size wd
        have hwl : wd.length ≤ 1048576 := by have := HN.out.2; omega
        have HST := Lib.hid hst
        have HNN : Hid (pre.length ≤ i + 1 ∧ (wd ++ [y]).length ≤ i + 1) := Lib.hid ⟨by have := HN.out.1; omega, by rw [List.length_append]; have := HN.out.2; simp; omega⟩
        clear hy hst hy8 HO
        go_upto_region 7 with fail
        go_region
        rw [HCUT.out]
        have hO2 : OwnS w.heap.size (wr.setCell ⟨g, pre.length, none⟩ (.string (bs (wd ++ [y])))).drew (.slice (some ⟨g, 0, none⟩) (pre.length + 1) c) (pre ++ [wd ++ [y]]) := HST.out (wd ++ [y])
        have hB2 := (below_setc HB.out hgB pre.length (.string (bs (wd ++ [y])))).drew
        generalize (wr.setCell ⟨g, pre.length, none⟩ (.string (bs (wd ++ [y])))).drew = w2 at *
        have HO2 := Lib.hid hO2
        have HB2 := Lib.hid hB2
        clear hO2 hB2 hcell hfro
        go_wp2_with fail
        go_roundg (s.length - (i + 1))
        case measure => omega
        case rel => exact ⟨i + 1, pre, wd ++ [y], _, by omega, rfl, rfl, by go_num, HO2.out, HA2.out, HNN.out, HB2.out⟩
    · have hltz : ¬ (i : Int) < (s.length : Int) := by omega
      have HE : Hid (splitW s = pre ++ [wd]) := Lib.hid (by rw [← HA.out, List.take_of_length_le (by omega)])
      go_wp2_with fail
      go_ret
      refine ⟨⟨_, rfl, ?_⟩, HB.out⟩
      rw [HE.out]
      exact HO.out
end Go.Proofs.YtebhiplcoioenaaGreatDoor
