/- strings.Trim at a set of signs: when nothing is left. -/
import Derived.Test.YtebhiplcoioenaaGreatDoorZZNum
import Derived.Lib.AsciiSet
import Derived.Deep.WholeRow
namespace Go.Proofs.YtebhiplcoioenaaGreatDoor
open Go.RowKit

/-- The set's cells lie in block g. -/
def AsAt (w : World) (g : Nat) (L : Bs) : Prop := ∀ x : UInt8, w.cell? ⟨g, x.toNat, none⟩ = some (.bool (L.contains x))
theorem AsAt.below {w w' : World} {g : Nat} {L : Bs} (h : AsAt w g L) (hb : Below w.heap.size w w') : AsAt w' g L := fun x => (hb.cell (p := ⟨g, x.toNat, none⟩) (World.block_lt_of_cell? w _ (h x))).trans (h x)
theorem all_snoc {s L : Bs} {k : Nat} {x : UInt8} (hx : s[k]? = some x) (h : (s.drop (k + 1)).all L.contains = true) : (s.drop k).all L.contains = L.contains x := by
  obtain ⟨hi, e⟩ := List.getElem?_eq_some_iff.1 hx
  rw [List.drop_eq_getElem_cons hi, e, List.all_cons, h, Bool.and_true]
set_option maxRecDepth 100000 in
set_option maxHeartbeats 4000000 in
theorem trimR_any (s L : Bs) (g : Nat) (w : World) (hs : s.length ≤ SB) (hg : AsAt w g L) : Calls Tryz.prog 107 #[.string (bs s), .pointer (some ⟨g, 0, none⟩)] w
    fun e w' => ∃ t, e = .returned (.string (bs t)) ∧ t.length ≤ s.length ∧ (s.all L.contains = true → t = []) ∧ (s.all L.contains = false → t.all L.contains = false) ∧ w' = w := by
  have hSB := SB_eq
  have HG := Lib.hid hg
  have HC : Hid (∀ x : UInt8, Calls Tryz.prog 102 #[.pointer (some ⟨g, 0, none⟩), .int .u8 x.toNat] w fun e w' => e = .returned (.bool (L.contains x)) ∧ w' = w) := Lib.hid fun x => Tryz.asciiSet_contains g x _ w (hg x)
  clear hg
  go_enter Tryz.func107, Tryz.ntmps107
  go_wp2
  go_loopg [0] s.length (fun gg s0 wr => ∃ k, k ≤ s.length ∧ gg = k ∧ s0 = .string (bs (s.take k)) ∧ Aside ((s.drop k).all L.contains = true) ∧ wr = w)
  case atStart => exact ⟨s.length, Nat.le_refl _, rfl, by rw [List.take_length], (show (s.drop s.length).all L.contains = true by rw [List.drop_length]; rfl), rfl⟩
  case round =>
    obtain ⟨k, hk, rfl, rfl, HA, rfl⟩ := hrel
    cases gk with
    | zero =>
      have e0 : s.take 0 = [] := rfl
      have hz : (bs (s.take 0)).size = 0 := rfl
      go_wp2
      go_ret
      refine ⟨[], rfl, Nat.zero_le _, fun _ => rfl, fun h => ?_, rfl⟩
      have := HA.out
      rw [List.drop_zero, h] at this
      cases this
    | succ m =>
      obtain ⟨x, hx⟩ : ∃ x, s[m]? = some x := ⟨s[m], List.getElem?_eq_getElem (by omega)⟩
      have hz : (bs (s.take (m + 1))).size = m + 1 := by rw [bs_size, List.length_take]; omega
      have hgx := bs_get (s.take (m + 1)) m x (by rw [List.getElem?_take, if_pos (by omega)]; exact hx)
      have hal := all_snoc (L := L) hx HA.out
      have hxc : (bs (s.take (m + 1))).extract 0 m = bs (s.take m) := by
        rw [bs_cut, List.drop_zero, List.take_take, Nat.min_eq_left (by omega)]
      have HX := Lib.hid hxc
      have HCX := Lib.hid (HC.out x)
      obtain ⟨B, hB⟩ : ∃ B, B = L.contains x := ⟨_, rfl⟩
      rw [← hB] at hal HCX
      have HAL := Lib.hid hal
      have HM : Hid (x ∈ s.take (m + 1)) := Lib.hid (List.mem_of_getElem? (i := m) (by rw [List.getElem?_take, if_pos (by omega)]; exact hx))
      have HBX := Lib.hid hB
      obtain ⟨T, hT⟩ : ∃ T, T = bs (s.take (m + 1)) := ⟨_, rfl⟩
      have HTT := Lib.hid hT
      rw [← hT] at hz hgx HX ⊢
      clear hx hal hxc hB hT
      cases B with
      | true =>
        go_wp2_with (go_at_call 102; refine HCX.out.mono ?_; rintro e w2 ⟨rfl, rfl⟩)
        go_roundg m
        case measure => omega
        case rel => exact ⟨m, by omega, rfl, by rw [HX.out], HAL.out, rfl⟩
      | false =>
        have HR : Hid ((s.all L.contains = true → s.take (m + 1) = []) ∧ (s.all L.contains = false → (s.take (m + 1)).all L.contains = false) ∧ T = bs (s.take (m + 1))) := Lib.hid ⟨fun h => by
            have := List.all_eq_true.1 h x (List.mem_of_mem_take HM.out)
            rw [← HBX.out] at this; exact absurd this (by decide), fun _ => by
            cases hq : (s.take (m + 1)).all L.contains with
            | false => rfl
            | true =>
              have := List.all_eq_true.1 hq x HM.out
              rw [← HBX.out] at this; exact absurd this (by decide), HTT.out⟩
        go_wp2_with (go_at_call 102; refine HCX.out.mono ?_; rintro e w2 ⟨rfl, rfl⟩)
        go_ret
        exact ⟨s.take (m + 1), by rw [← HR.out.2.2]; rfl, by rw [List.length_take]; omega, HR.out.1, HR.out.2.1, rfl⟩
set_option maxRecDepth 100000 in
set_option maxHeartbeats 4000000 in
theorem trimL_any (s L : Bs) (g : Nat) (w : World) (_hs : s.length ≤ SB) (hg : AsAt w g L) : Calls Tryz.prog 84 #[.string (bs s), .pointer (some ⟨g, 0, none⟩)] w
    fun e w' => ∃ t, e = .returned (.string (bs t)) ∧ (t = [] ↔ s.all L.contains = true) ∧ w' = w := by
  have hSB := SB_eq
  have HC : Hid (∀ x : UInt8, Calls Tryz.prog 102 #[.pointer (some ⟨g, 0, none⟩), .int .u8 x.toNat] w fun e w' => e = .returned (.bool (L.contains x)) ∧ w' = w) := Lib.hid fun x => Tryz.asciiSet_contains g x _ w (hg x)
  clear hg
  go_enter Tryz.func84, Tryz.ntmps84
  go_wp2
  go_loopg [0] s.length (fun gg s0 wr => ∃ k, k ≤ s.length ∧ gg = s.length - k ∧ s0 = .string (bs (s.drop k)) ∧ Aside ((s.take k).all L.contains = true) ∧ wr = w)
  case atStart => exact ⟨0, Nat.zero_le _, rfl, rfl, rfl, rfl⟩
  case round =>
    obtain ⟨k, hk, rfl, rfl, HA, rfl⟩ := hrel
    by_cases hlt : k < s.length
    · obtain ⟨x, hx⟩ : ∃ x, s[k]? = some x := ⟨s[k], List.getElem?_eq_getElem hlt⟩
      obtain ⟨m, hm⟩ : ∃ m, s.length = k + (m + 1) := ⟨s.length - k - 1, by omega⟩
      have hz : (bs (s.drop k)).size = m + 1 := by rw [bs_size, List.length_drop]; omega
      have hdr : s.drop k = x :: s.drop (k + 1) := by
        obtain ⟨hi2, e⟩ := List.getElem?_eq_some_iff.1 hx
        rw [← e]; exact List.drop_eq_getElem_cons hi2
      have hgx := bs_get (s.drop k) 0 x (by rw [hdr]; rfl)
      have hxc : (bs (s.drop k)).extract 1 (m + 1) = bs (s.drop (k + 1)) := by
        rw [bs_cut, List.take_of_length_le (by rw [List.length_drop]; omega), List.drop_drop]
      have HX := Lib.hid hxc
      have HCX := Lib.hid (HC.out x)
      obtain ⟨B, hB⟩ : ∃ B, B = L.contains x := ⟨_, rfl⟩
      rw [← hB] at HCX
      have hal : (s.take (k + 1)).all L.contains = B := by
        obtain ⟨hi2, e⟩ := List.getElem?_eq_some_iff.1 hx
        rw [List.take_succ_eq_append_getElem hi2, List.all_append, HA.out, e, List.all_cons, ← hB, List.all_nil]
        simp
      have HAL := Lib.hid hal
      have HTT : Hid (bs (s.drop k) = bs (x :: s.drop (k + 1))) := Lib.hid (by rw [hdr])
      have HBX := Lib.hid hB
      have HM := Lib.hid (List.mem_of_getElem? hx)
      clear hx hal hxc hB hdr
      generalize bs (s.drop k) = T at *
      cases B with
      | true =>
        go_wp2_with (go_at_call 102; refine HCX.out.mono ?_; rintro e w2 ⟨rfl, rfl⟩)
        go_roundg (s.length - (k + 1))
        case measure => omega
        case rel => exact ⟨k + 1, by omega, rfl, by rw [HX.out], HAL.out, rfl⟩
      | false =>
        go_wp2_with (go_at_call 102; refine HCX.out.mono ?_; rintro e w2 ⟨rfl, rfl⟩)
        go_ret
        refine ⟨x :: s.drop (k + 1), by rw [← HTT.out]; rfl, ⟨fun h => absurd h (List.cons_ne_nil _ _), fun h => ?_⟩, rfl⟩
        have := List.all_eq_true.1 h x HM.out
        rw [← HBX.out] at this; cases this
    · have hz : (bs (s.drop k)).size = 0 := by rw [bs_size, List.length_drop]; omega
      have HR : Hid (s.all L.contains = true ∧ bs (s.drop k) = bs []) := Lib.hid ⟨by have := HA.out; rw [List.take_of_length_le (by omega)] at this; exact this, by rw [List.drop_of_length_le (by omega)]⟩
      generalize bs (s.drop k) = T at *
      go_wp2
      go_ret
      exact ⟨[], by rw [← HR.out.2]; rfl, ⟨fun _ => HR.out.1, fun _ => rfl⟩, rfl⟩
set_option maxRecDepth 100000 in
set_option maxHeartbeats 4000000 in
/-- strings.Trim at a set of two or more signs, all ASCII: is anything left? -/
theorem Trim_any (s L : Bs) (w : World) (hs : s.length ≤ SB) (hL : 2 ≤ L.length) (hL2 : L.length ≤ 1000) (hLa : ∀ b ∈ L, b.toNat < 128) : Calls Tryz.prog 88 #[.string (bs s), .string (bs L)] w
    fun e w' => ∃ t, e = .returned (.string (bs t)) ∧ (t = [] ↔ s.all L.contains = true) ∧ Below w.heap.size w w' := by
  have hSB := SB_eq
  have zL := bs_size L
  have zs := bs_size s
  by_cases he : s = []
  · subst he
    have q0 : ((bs ([] : Bs)).toList == []) = true := by rw [bs_list]; rfl
    have HR : Hid (bs ([] : Bs) = bs []) := Lib.hid rfl
    generalize hT : bs ([] : Bs) = T at q0 ⊢
    go_enter Tryz.func88, Tryz.ntmps88
    go_wp2
    go_ret
    refine ⟨[], ?_, ?_, Below.refl _ _⟩
    · rw [hT]; rfl
    · first | rfl | exact ⟨fun _ => rfl, fun _ => rfl⟩
  · have q0 : ((bs s).toList == []) = false := by rw [bs_list]; simpa using he
    have q1 : ((bs L).toList == []) = false := by
      rw [bs_list]
      cases L with
      | nil => simp at hL
      | cons a r => rfl
    have q2 : ((L.length : Int) == 1) = false := by simp; omega
    have hM := Tryz.strings_makeASCIISet (zero_of_info (show (Tryz.prog.info? 110).map (fun i => (i.zero, i.size)) = some (some (.agg (Array.replicate 256 (.bool false))), 256) by kernel_rfl)).1 (bs L) w (by rw [zL]; omega) (fun j b h => by
      rw [bs_data] at h
      exact hLa b (List.mem_of_getElem? h))
    rw [bs_data] at hM
    have HM := Lib.hid hM
    have HCE : Hid ((Lib.setCells L).size = 256 ∧ (Lib.setCells L).all (·.oneCell') = true ∧ ∀ x : UInt8, (Lib.setCells L)[x.toNat]? = some (.bool (L.contains x))) := Lib.hid ⟨Lib.setCells_size L, Lib.setCells_one L, Lib.setCells_at L⟩
    have hR := Rws.start w
    generalize Lib.setCells L = C at *
    clear hM hLa he
    go_enter Tryz.func88, Tryz.ntmps88
    go_upto_region 7 with (first
      | (go_at_call 83; refine HM.out.mono ?_; go_loud (rintro e w2 ⟨rfl, rfl⟩); go_loud (have hR := hR.alloc0 (.cells C 110)))
      | (refine wpList_alloc_rws rfl _ (by rfl) (by exact hR) (Array.replicate 256 (.bool false)) (zero_of_info (show (Tryz.prog.info? 110).map (fun i => (i.zero, i.size)) = some (some (.agg (Array.replicate 256 (.bool false))), 256) by kernel_rfl)).1 ?_; intro g w3 hR)
      | (refine wpList_store_rws rfl _ _ _ (by rfl) (by exact hR) g rfl C (by rfl) _ _ _ Pick.here (by rw [HCE.out.1]; kernel_rfl) (by rw [HCE.out.1, Array.size_replicate]) HCE.out.2.1 ?_; intro w4 hR))
    have hAs : AsAt w4 g L := fun x => hR.cellAt (List.Mem.head _) x.toNat (HCE.out.2.2 x)
    have HB := Lib.hid hR.below
    have HTR := Lib.hid (trimR_any s L g w4 hs hAs)
    have HTL : Hid (∀ t : Bs, t.length ≤ SB → Calls Tryz.prog 84 #[.string (bs t), .pointer (some ⟨g, 0, none⟩)] w4 fun e w' => ∃ t2, e = .returned (.string (bs t2)) ∧ (t2 = [] ↔ t.all L.contains = true) ∧ w' = w4) := Lib.hid fun t ht => trimL_any t L g w4 ht hAs
    clear hAs hR
    go_wp2_with (first
      | (go_at_call 107; refine HTR.out.mono ?_; rintro e w5 ⟨t, rfl, ht1, ht2, ht3, rfl⟩; have HT := Lib.hid (And.intro ht1 (And.intro ht2 ht3)); clear ht1 ht2 ht3)
      | (go_at_call 84; refine (HTL.out _ (by have := HT.out.1; omega)).mono ?_; rintro e w6 ⟨t2, rfl, h2, rfl⟩; have HT2 := Lib.hid h2; clear h2))
    go_ret
    refine ⟨t2, rfl, ?_, HB.out⟩
    rw [HT2.out]
    have h1 := HT.out.2.1
    have h2 := HT.out.2.2
    cases hq : s.all L.contains with
    | true => rw [h1 hq] <;> simp
    | false => rw [h2 hq] <;> simp
end Go.Proofs.YtebhiplcoioenaaGreatDoor
