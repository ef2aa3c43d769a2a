/- ostiaryref06.Groups: the walk. -/
import Derived.Test.YtebhiplcoioenaaGreatDoorZZGrp
import Derived.Test.YtebhiplcoioenaaGreatDoorZZGS
import Derived.Deep.LoopGhost
namespace Go.Proofs.YtebhiplcoioenaaGreatDoor
open Go.RowKit

/-- The number of an OID's bytes, behind a number. -/
def valB : Bs → Nat → Nat
  | [], n => n
  | x :: r, n => valB r (n * 128 + x.toNat % 128)
theorem valB_snoc (x : UInt8) : ∀ (c : Bs) (n : Nat), valB (c ++ [x]) n = valB c n * 128 + x.toNat % 128
  | [], _ => rfl
  | y :: c, n => valB_snoc x c (n * 128 + y.toNat % 128)
theorem valB_lt : ∀ (c : Bs) (n k : Nat), n < 128 ^ k → valB c n < 128 ^ (k + c.length)
  | [], n, k, h => h
  | x :: c, n, k, h => by
    have h1 : n * 128 + x.toNat % 128 < 128 ^ (k + 1) := by
      rw [Nat.pow_succ]
      have := Nat.mod_lt x.toNat (show 0 < 128 by decide)
      omega
    have := valB_lt c _ (k + 1) h1
    rw [show k + 1 + c.length = k + (x :: c).length by simp; omega] at this
    exact this
theorem grp_run : ∀ (c r : Bs) (n many : Nat), (∀ x ∈ c, 128 ≤ x.toNat) → (many = 0 → c.head? ≠ some 128) → many + c.length ≤ 5 → grpS (c ++ r) n many = grpS r (valB c n) (many + c.length)
  | [], r, n, many, _, _, _ => rfl
  | x :: c, r, n, many, h1, h2, h3 => by
    have hx := h1 x (List.mem_cons_self ..)
    simp only [List.length_cons] at h3
    have hb : ¬ ((many = 0 ∧ x = 128) ∨ many = 5) := by
      rintro (⟨h, rfl⟩ | h)
      · exact h2 h rfl
      · omega
    rw [List.cons_append, grpS, if_neg hb, if_neg (by omega), grp_run c r _ (many + 1) (fun y hy => h1 y (List.mem_cons_of_mem _ hy)) (fun h => by omega) (by omega)]
    simp only [List.length_cons, valB]
    congr 1
    omega
theorem grp_head (r : Bs) (n : Nat) : grpS (128 :: r) n 0 = none := by rw [grpS, if_pos (Or.inl ⟨rfl, rfl⟩)]
theorem grp_five (x : UInt8) (r : Bs) (n : Nat) : grpS (x :: r) n 5 = none := by rw [grpS, if_pos (Or.inr rfl)]
/-- Five that go on, and one more: none. -/
theorem grp_long {c r : Bs} (h1 : ∀ x ∈ c, 128 ≤ x.toNat) (h2 : c.head? ≠ some 128) (h3 : 5 ≤ c.length) (h4 : 5 < c.length ∨ r ≠ []) : grpS (c ++ r) 0 0 = none := by
  obtain ⟨a, b, hab, ha⟩ : ∃ a b, a ++ b = c ∧ a.length = 5 := ⟨c.take 5, c.drop 5, List.take_append_drop 5 c, by rw [List.length_take]; omega⟩
  subst hab
  rw [List.append_assoc, grp_run a (b ++ r) 0 0 (fun x hx => h1 x (List.mem_append_left _ hx)) (fun _ => by
    cases a with
    | nil => simp at ha
    | cons y a => simpa using h2) (by omega), ha]
  have hne : b ++ r ≠ [] := by
    rcases h4 with h | h
    · intro e
      have := congrArg List.length e
      simp only [List.length_append, List.length_nil] at this h
      omega
    · intro e; exact h (List.append_eq_nil_iff.1 e).2
  cases hbr : b ++ r with
  | nil => exact absurd hbr hne
  | cons x t => exact grp_five x t _
/-- Bytes that all go on are none. -/
theorem grp_open {c : Bs} (h1 : ∀ x ∈ c, 128 ≤ x.toNat) (h0 : c ≠ []) : grpS c 0 0 = none := by
  cases c with
  | nil => exact absurd rfl h0
  | cons y c =>
    by_cases hy : y = 128
    · subst hy; exact grp_head c 0
    · by_cases hl : 5 < (y :: c).length
      · have := grp_long (r := []) h1 (by simpa using hy) (by omega) (Or.inl hl)
        rwa [List.append_nil] at this
      · have := grp_run (y :: c) [] 0 0 h1 (fun _ => by simpa using hy) (by omega)
        rw [List.append_nil] at this
        rw [this, grpS, if_neg (by simp)]
/-- One group. -/
theorem grp_one {c r : Bs} {x : UInt8} (h1 : ∀ y ∈ c, 128 ≤ y.toNat) (hx : x.toNat < 128) (h2 : (c ++ [x]).head? ≠ some 128) (h3 : c.length ≤ 4) :
    grpS (c ++ x :: r) 0 0 = if 2147483647 < valB (c ++ [x]) 0 then none else (grpS r 0 0).map (valB (c ++ [x]) 0 :: ·) := by
  rw [grp_run c (x :: r) 0 0 h1 (fun _ => by cases c <;> simp_all) (by omega), Nat.zero_add, valB_snoc, grpS, if_neg, if_pos hx]
  rintro (⟨h, rfl⟩ | h)
  · exact absurd hx (by decide)
  · omega
theorem cut_at {s : Bs} {i j : Nat} (h : i ≤ j) : s.drop i = (s.drop i).take (j - i) ++ s.drop j := by
  have := List.take_append_drop (j - i) (s.drop i)
  rw [List.drop_drop, show i + (j - i) = j by omega] at this
  exact this.symm
theorem cut_mem {s : Bs} {i j : Nat} (h : ∀ q, i ≤ q → q < j → ∀ x, s[q]? = some x → 128 ≤ x.toNat) : ∀ y ∈ (s.drop i).take (j - i), 128 ≤ y.toNat := fun y hy => by
  obtain ⟨k, hk⟩ := List.getElem?_of_mem hy
  rw [List.getElem?_take] at hk
  split at hk
  · rw [List.getElem?_drop] at hk
    exact h (i + k) (by omega) (by omega) y hk
  · cases hk
theorem cut_snoc {s : Bs} {i k : Nat} {x : UInt8} (hi : i ≤ k) (hx : s[k]? = some x) : (s.drop i).take (k + 1 - i) = (s.drop i).take (k - i) ++ [x] := by
  rw [show k + 1 - i = k - i + 1 by omega, List.take_add_one, List.getElem?_drop, show i + (k - i) = k by omega, hx]; rfl
set_option maxRecDepth 100000 in
set_option maxHeartbeats 8000000 in
theorem RGroups_any (s : Bs) (w : World) (hs : s.length ≤ 1048576) : Calls Tryz.prog 43 #[.string (bs s)] w (GrpPost (groupsS s) w) := by
  have zs := bs_size s
  obtain ⟨G, hG⟩ : ∃ G, G = grpS s 0 0 := ⟨_, rfl⟩
  have HG := Lib.hid hG
  have HGS : Hid (groupsS s = grpO G) := Lib.hid (by rw [hG]; exact groups_map s)
  have HO0 := Lib.hid (own_empty (w := w) (B := w.heap.size) (size := 1) (e := 3) (Nat.le_refl _))
  have HB0 := Lib.hid (b_alloc w (.cells #[] 3))
  clear hG
  go_enter Tryz.func43, Tryz.ntmps43
  go_upto_region 3 with fail
  go_loopg [4, 5, 6, 7, 8] s.length (fun gg s4 s5 _ _ _ wr => ∃ (i : Nat) (l : List Nat) (v : Value), i ≤ s.length ∧ gg = s.length - i ∧ s4 = v ∧ s5 = .int .i64 i ∧
    Aside (OwnI w.heap.size wr v l) ∧ Aside (G = (grpS (s.drop i) 0 0).map (l ++ ·)) ∧ Aside (l.length ≤ i) ∧ Aside (Below w.heap.size w wr))
  case atStart => exact ⟨0, [], _, by omega, rfl, rfl, rfl, HO0.out, (show G = (grpS (s.drop 0) 0 0).map (([] : List Nat) ++ ·) by rw [HG.out]; simp), Nat.le_refl _, HB0.out⟩
  case round =>
    obtain ⟨i, l, v, hi, rfl, rfl, rfl, HO, HA, HN, HB⟩ := hrel
    clear HO0 HB0
    by_cases hlt : i < s.length
    · have hltz : (i : Int) < (s.length : Int) := by omega
      obtain ⟨y, hy⟩ : ∃ y, s[i]? = some y := ⟨s[i], List.getElem?_eq_getElem hlt⟩
      have hgy := bs_get s i y hy
      have HY := Lib.hid hy
      clear hy
      go_upto_region 5 with fail
      obtain ⟨wo, rfl⟩ : ∃ wo : World, wo = wr := ⟨_, rfl⟩
      go_loopg [6] (s.length - i) (fun gg s6 wx => ∃ j : Nat, i ≤ j ∧ j ≤ s.length ∧ gg = s.length - j ∧ s6 = .int .i64 j ∧ Aside (∀ q, i ≤ q → q < j → ∀ x, s[q]? = some x → 128 ≤ x.toNat) ∧ wx = wo)
      case atStart => exact ⟨i, Nat.le_refl _, hi, rfl, rfl, fun q h1 h2 => absurd h2 (by omega), rfl⟩
      case round =>
        obtain ⟨j, hij, hjl, rfl, rfl, HM, rfl⟩ := hrel
        by_cases hjl2 : j < s.length
        · have hjz : (j : Int) < (s.length : Int) := by omega
          obtain ⟨x, hx⟩ : ∃ x, s[j]? = some x := ⟨s[j], List.getElem?_eq_getElem hjl2⟩
          have hgx := bs_get s j x hx
          have HX := Lib.hid hx
          clear hx
          by_cases hx7 : 128 ≤ x.toNat
          · have hx7z : (128 : Int) ≤ (x.toNat : Int) := by omega
            have HM2 : Hid (∀ q, i ≤ q → q < j + 1 → ∀ x, s[q]? = some x → 128 ≤ x.toNat) := Lib.hid fun q h1 h2 z hz => by
              rcases Nat.lt_or_ge q j with h | h
              · exact HM.out q h1 h z hz
              · obtain rfl : q = j := by omega
                rw [HX.out] at hz
                cases hz
                exact hx7
            clear HM
            go_wp2_with fail
            go_roundg (s.length - (j + 1))
            case measure => omega
            case rel => exact ⟨j + 1, by omega, by omega, rfl, by go_num, HM2.out, rfl⟩
          · have hx7z : ¬ (128 : Int) ≤ (x.toNat : Int) := by omega
            have hjne : ((j : Int) == (s.length : Int)) = false := by simp; omega
            have HC : Hid (s.drop i = (s.drop i).take (j - i) ++ x :: s.drop (j + 1)) := Lib.hid (by
              rw [cut_at (s := s) hij]
              congr 1
              · rw [← cut_at hij]
              · obtain ⟨h2, e⟩ := List.getElem?_eq_some_iff.1 HX.out
                rw [← e]; exact List.drop_eq_getElem_cons h2)
            have HL : Hid (((s.drop i).take (j - i)).length = j - i) := Lib.hid (by rw [List.length_take, List.length_drop]; omega)
            have HH : Hid ((s.drop i).head? = some y) := Lib.hid (by rw [List.head?_eq_getElem?, List.getElem?_drop]; exact HY.out)
            have HMC : Hid (∀ z ∈ (s.drop i).take (j - i), 128 ≤ z.toNat) := Lib.hid (cut_mem HM.out)
            obtain ⟨C, hC⟩ : ∃ C, C = (s.drop i).take (j - i) := ⟨_, rfl⟩
            rw [← hC] at HC HL HMC
            have HCX : Hid ((s.drop i).take (j + 1 - i) = C ++ [x]) := Lib.hid (by rw [cut_snoc hij HX.out, hC])
            have HHX : Hid ((C ++ [x]).head? = some y) := Lib.hid (by
              have := HH.out
              rw [HC.out] at this
              cases C with
              | nil => exact this
              | cons a c => exact this)
            have hxl : x.toNat < 128 := by omega
            clear hC HM
            by_cases hy8 : y = 128
            · subst hy8
              have HR : Hid (groupsS s = none) := Lib.hid (by
                rw [HGS.out, HA.out]
                have : s.drop i = 128 :: s.drop (i + 1) := by
                  obtain ⟨h2, e⟩ := List.getElem?_eq_some_iff.1 HY.out
                  rw [← e]; exact List.drop_eq_getElem_cons h2
                rw [this, grp_head]
                rfl)
              go_wp2_with fail
              go_ret2
              rw [HR.out]
              exact ⟨⟨_, rfl, fun l hl => by cases hl⟩, HB.out⟩
            · have hy8z : ((y.toNat : Int) == 128) = false := by
                have : y.toNat ≠ 128 := fun e => hy8 (by rw [← u8_back y, e]; rfl)
                simp; omega
              have HY8 : Hid ((C ++ [x]).head? ≠ some 128) := Lib.hid (by rw [HHX.out]; simpa using hy8)
              clear hy8
              by_cases hlong : 4 < j - i
              · have hlz : (4 : Int) < (j : Int) - (i : Int) := by omega
                have HR : Hid (groupsS s = none) := Lib.hid (by
                  rw [HGS.out, HA.out, HC.out, grp_long HMC.out (by
                    have h8 := HY8.out
                    have h5 := HL.out
                    cases C with
                    | nil => simp at h5; omega
                    | cons a c => exact h8) (by rw [HL.out]; omega) (Or.inr (by simp))]
                  rfl)
                go_wp2_with fail
                go_ret2
                rw [HR.out]
                exact ⟨⟨_, rfl, fun l hl => by cases hl⟩, HB.out⟩
              · have hlz : ¬ (4 : Int) < (j : Int) - (i : Int) := by omega
                obtain ⟨NV, hNV⟩ : ∃ NV, NV = valB (C ++ [x]) 0 := ⟨_, rfl⟩
                have HNV := Lib.hid hNV
                have HST : Hid (grpS (s.drop i) 0 0 = if 2147483647 < NV then none else (grpS (s.drop (j + 1)) 0 0).map (NV :: ·)) := Lib.hid (by
                  rw [HC.out, hNV]
                  exact grp_one HMC.out hxl HY8.out (by rw [HL.out]; omega))
                clear hNV
                go_upto_region 11 with fail
                obtain ⟨wp, rfl⟩ : ∃ wp : World, wp = wr := ⟨_, rfl⟩
                go_loopg [7, 8] (j + 1 - i) (fun gg s7 s8 wy => ∃ k : Nat, i ≤ k ∧ k ≤ j + 1 ∧ gg = j + 1 - k ∧ s7 = .int .i64 (valB ((s.drop i).take (k - i)) 0 : Nat) ∧ s8 = .int .i64 k ∧ wy = wp)
                case atStart => exact ⟨i, Nat.le_refl _, by omega, rfl, by rw [Nat.sub_self]; rfl, rfl, rfl⟩
                case round =>
                  obtain ⟨k, hik, hkj, rfl, rfl, rfl, rfl⟩ := hrel
                  by_cases hkl : k ≤ j
                  · have hklz : (k : Int) ≤ (j : Int) := by omega
                    obtain ⟨u, hu⟩ : ∃ u, s[k]? = some u := ⟨s[k]'(by omega), List.getElem?_eq_getElem _⟩
                    have hgu := bs_get s k u hu
                    have hul := u.toNat_lt
                    have HVS : Hid (valB ((s.drop i).take (k + 1 - i)) 0 = valB ((s.drop i).take (k - i)) 0 * 128 + u.toNat % 128) := Lib.hid (by rw [cut_snoc hik hu, valB_snoc])
                    have hvl : valB ((s.drop i).take (k - i)) 0 < 34359738368 := by
                      have h1 := valB_lt ((s.drop i).take (k - i)) 0 0 (by decide)
                      have h2 : 128 ^ (0 + ((s.drop i).take (k - i)).length) ≤ 128 ^ 5 := Nat.pow_le_pow_right (by decide) (by rw [List.length_take]; omega)
                      exact Nat.lt_of_lt_of_le h1 (Nat.le_trans h2 (by decide))
                    generalize valB ((s.drop i).take (k - i)) 0 = V at *
                    clear hu
                    go_wp2_with fail
                    go_roundg (j + 1 - (k + 1))
                    case measure => omega
                    case rel => exact ⟨k + 1, by omega, by omega, rfl, by rw [HVS.out]; go_num, by go_num, rfl⟩
                  · have hklz : ¬ (k : Int) ≤ (j : Int) := by omega
                    obtain rfl : k = j + 1 := by omega
                    rw [HCX.out, ← HNV.out]
                    have hNl : NV < 34359738368 := by
                      have h1 := valB_lt (C ++ [x]) 0 0 (by decide)
                      have h2 : 128 ^ (0 + (C ++ [x]).length) ≤ 128 ^ 5 := Nat.pow_le_pow_right (by decide) (by rw [List.length_append, HL.out]; simp; omega)
                      rw [HNV.out]
                      exact Nat.lt_of_lt_of_le h1 (Nat.le_trans h2 (by decide))
                    by_cases hbig : 2147483647 < NV
                    · have hbz : (2147483647 : Int) < NV := by omega
                      have HR : Hid (groupsS s = none) := Lib.hid (by rw [HGS.out, HA.out, HST.out, if_pos hbig]; rfl)
                      go_wp2_with fail
                      go_ret2
                      rw [HR.out]
                      exact ⟨⟨_, rfl, fun l hl => by cases hl⟩, HB.out⟩
                    · have hbz : ¬ (2147483647 : Int) < NV := by omega
                      have HR : Hid (G = (grpS (s.drop (j + 1)) 0 0).map ((l ++ [NV]) ++ ·)) := Lib.hid (by
                        rw [HA.out, HST.out, if_neg hbig, Option.map_map]
                        congr 1
                        funext t; simp)
                      have hk2 : l.length + 1 ≤ 3000000 := by have := HN.out; omega
                      have HLL : Hid ((l ++ [NV]).length ≤ j + 1) := Lib.hid (by rw [List.length_append]; have := HN.out; simp; omega)
                      obtain ⟨ad, cp, hv⟩ := own_len HO.out
                      have HO2 := Lib.hid HO.out
                      clear HO hbig
                      go_wp2_with (at_builtin; refine wp_snocI rfl _ _ (by rfl) NV (by rfl) (by rfl) HO2.out (Nat.le_refl _) HB.out hk2 ?_; intro v' w2 hO2 hB2)
                      go_roundg (s.length - (j + 1))
                      case measure => omega
                      case rel => exact ⟨j + 1, l ++ [NV], v', by omega, rfl, rfl, by go_num, hO2, HR.out, HLL.out, hB2⟩
        · have hjz : ¬ (j : Int) < (s.length : Int) := by omega
          have hje : ((j : Int) == (s.length : Int)) = true := by simp; omega
          have HR : Hid (groupsS s = none) := Lib.hid (by
            rw [HGS.out, HA.out, grp_open (c := s.drop i) (fun z hz => by
              obtain ⟨k, hk⟩ := List.getElem?_of_mem hz
              rw [List.getElem?_drop] at hk
              have := (List.getElem?_eq_some_iff.1 hk).1
              exact HM.out (i + k) (by omega) (by omega) z hk) (fun e => by have := congrArg List.length e; rw [List.length_drop] at this; simp at this; omega)]
            rfl)
          go_wp2_with fail
          go_ret2
          rw [HR.out]
          exact ⟨⟨_, rfl, fun l hl => by cases hl⟩, HB.out⟩
    · have hltz : ¬ (i : Int) < (s.length : Int) := by omega
      have HE : Hid (G = some l) := Lib.hid (by
        rw [HA.out, List.drop_of_length_le (by omega), grpS]
        simp)
      obtain ⟨ad, cp, hv⟩ := own_len HO.out
      have HO2 := Lib.hid HO.out
      clear HO
      subst hv
      cases l with
      | nil =>
        have HR : Hid (groupsS s = none) := Lib.hid (by rw [HGS.out, HE.out]; rfl)
        go_wp2_with fail
        go_ret2
        rw [HR.out]
        exact ⟨⟨_, rfl, fun l hl => by cases hl⟩, HB.out⟩
      | cons x l =>
        have hlen : (x :: l).length = l.length + 1 := rfl
        have HR : Hid (groupsS s = some (x :: l)) := Lib.hid (by rw [HGS.out, HE.out]; rfl)
        go_wp2_with fail
        go_ret2
        rw [HR.out]
        exact ⟨⟨_, rfl, fun l hl => by cases hl; exact HO2.out⟩, HB.out⟩
end Go.Proofs.YtebhiplcoioenaaGreatDoor
