/- ostiaryref15.cut: the walk. -/
import Derived.Test.YtipjkjcmceeaeaaGreatDoorYRef4
namespace Go.Proofs.YtipjkjcmceeaeaaGreatDoor
open Go.RowKit

theorem index_cut {sep s a b : Bs} (h : cutA sep s = some (a, b)) : Lib.index s sep = a.length := by
  obtain ⟨h1, h2⟩ := cutA_some h
  refine Lib.index_first ?_ ?_ h2
  · have := congrArg List.length h1
    simp only [List.length_append] at this; omega
  · unfold Lib.occAt
    rw [h1, List.append_assoc, List.drop_left, List.isPrefixOf_iff_prefix]
    exact List.prefix_append _ _
theorem index_no {sep s : Bs} (h : cutA sep s = none) : Lib.index s sep = -1 := by
  rcases Lib.index_spec s sep with ⟨h1, _⟩ | ⟨i, h1, h2, h3, _⟩
  · exact h1
  · rw [cutA_none h i h2] at h3; cases h3
def RetL (l : List Bs) (w : World) : Ending → World → Prop := fun e w' => ∃ ad c, e = .returned (.slice ad l.length c) ∧ SlC w' l.length (StC l) ad c ∧ Below w.heap.size w w'
set_option maxRecDepth 100000 in
set_option maxHeartbeats 4000000 in
theorem cutR_any (s sep : Bs) (hne : sep ≠ []) (w : World) (hs : s.length ≤ 2097152) (hsp : sep.length ≤ 1024) : Calls Tryz.prog 61 #[.string (bs s), .string (bs sep)] w (RetL (splitS sep s) w) := by
  have hSB := SB_eq
  have hpz := bs_size sep
  have hsl : 0 < sep.length := List.length_pos_iff.2 hne
  have HF : Hid (∀ t u, t.length ≤ 2097152 → Calls Tryz.prog 33 #[.string (bs t), .string (bs sep)] u fun e w' => e = .returned (.int .i64 (Lib.index t sep)) ∧ w' = u) := Lib.hid fun t u ht => find_any t sep hne u (by omega) hsp
  have HSE := fun t => Lib.hid (split_eq hne t)
  clear hne
  go_enter Tryz.func61, Tryz.ntmps61
  go_upto_region 2 with fail
  go_loopg [0, 5] s.length (fun gg s0 s5 wr => ∃ (t : Bs) (acc : List Bs) (v : Value), gg = t.length ∧ s0 = .string (bs t) ∧ s5 = v ∧ acc.length + t.length ≤ s.length ∧ Aside (splitS sep s = acc ++ splitS sep t) ∧ Aside (OwnS w.heap.size wr v acc) ∧ Aside (Below w.heap.size w wr))
  case atStart => exact ⟨s, [], _, rfl, rfl, rfl, by simp, rfl, own_empty (Nat.le_refl _), b_alloc w _⟩
  case round =>
    obtain ⟨t, acc, v, rfl, rfl, rfl, hat, HA, HO, HB⟩ := hrel
    have hsz := bs_size t
    have htl : t.length ≤ 2097152 := by omega
    have hk : acc.length + 1 ≤ 3000000 := by omega
    cases hc : cutA sep t with
    | none =>
      have hi := index_no hc
      have HR : Hid (splitS sep s = acc ++ [t]) := Lib.hid (by rw [HA.out, (HSE t).out, hc])
      have HC : Hid (∀ u, Calls Tryz.prog 33 #[.string (bs t), .string (bs sep)] u fun e w' => e = .returned (.int .i64 (-1)) ∧ w' = u) := Lib.hid fun u => by rw [← hi]; exact HF.out t u htl
      clear hi hc
      go_wp2_with (first
        | (go_at_call 33; refine (HC.out _).mono ?_; rintro e w1 ⟨rfl, rfl⟩)
        | (at_builtin; refine wp_snocS rfl _ _ (by rfl) t (by rfl) (by rfl) HO.out (Nat.le_refl _) HB.out hk ?_; intro v' w2 hO2 hB2))
      go_ret
      rw [HR.out]
      obtain ⟨ad, c, rfl, hsl2⟩ := slc_of_own hO2
      exact ⟨ad, c, rfl, hsl2, hB2⟩
    | some p =>
      obtain ⟨a, r⟩ := p
      have hi := index_cut hc
      have ht := (cutA_some hc).1
      have hlen := congrArg List.length ht
      simp only [List.length_append] at hlen
      have HR : Hid (splitS sep s = (acc ++ [a]) ++ splitS sep r) := Lib.hid (by rw [HA.out, (HSE t).out, hc]; simp)
      have HC : Hid (∀ u, Calls Tryz.prog 33 #[.string (bs t), .string (bs sep)] u fun e w' => e = .returned (.int .i64 (a.length : Nat)) ∧ w' = u) := Lib.hid fun u => by rw [← hi]; exact HF.out t u htl
      have hx1 : (bs t).extract 0 a.length = bs a := by rw [bs_cut, List.drop_zero, ht, List.append_assoc, List.take_left]
      have hx2 : (bs t).extract (a.length + sep.length) t.length = bs r := by
        rw [bs_cut, List.take_of_length_le (Nat.le_refl _)]
        conv => lhs; rw [ht]
        rw [← List.length_append, List.drop_left]
      have hz1 : (0 : Int) ≤ (a.length : Int) ∧ (a.length : Int) ≤ (t.length : Int) := by omega
      have hz2 : (a.length : Int) + (sep.length : Int) ≤ (t.length : Int) := by omega
      have hz3 : ¬ (a.length : Int) < 0 := by omega
      have HM : Hid (r.length < t.length) := Lib.hid (by omega)
      have HL : Hid ((acc ++ [a]).length + r.length ≤ s.length) := Lib.hid (by rw [List.length_append]; simp only [List.length_cons, List.length_nil]; omega)
      clear hi hc ht hlen
      go_wp2_with (first
        | (go_at_call 33; refine (HC.out _).mono ?_; rintro e w1 ⟨rfl, rfl⟩)
        | (at_builtin; refine wp_snocS rfl _ _ (by rfl) a (by rfl) (by rfl) HO.out (Nat.le_refl _) HB.out hk ?_; intro v' w2 hO2 hB2))
      go_roundg r.length
      case measure => exact HM.out
      case rel => exact ⟨r, acc ++ [a], v', rfl, by first | rfl | rw [hx2], rfl, HL.out, HR.out, hO2, hB2⟩
end Go.Proofs.YtipjkjcmceeaeaaGreatDoor
