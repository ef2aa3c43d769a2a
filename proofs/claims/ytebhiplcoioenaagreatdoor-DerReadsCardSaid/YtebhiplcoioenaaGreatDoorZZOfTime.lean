/- der.OfTime: the walk. -/
import Derived.Test.YtebhiplcoioenaaGreatDoorZZPairs
import Derived.Test.YtebhiplcoioenaaGreatDoorZZNum
import Derived.Test.YtebhiplcoioenaaGreatDoorZDB
import Derived.Deep.LoopGhost
namespace Go.Proofs.YtebhiplcoioenaaGreatDoor
open Go.RowKit

/-- A value without parts, and an error's number. -/
def RetDv (w : World) (x : Dv × Int) (e : Ending) (w' : World) : Prop := x.1.l = .nil ∧ e = .returned (.tuple #[dvv x.1 none 0, .int .i64 x.2]) ∧ Below w.heap.size w w'
@[reducible] def pv (t : Int) (s : ByteArray) : Array Value := #[.int .i64 0, .int .i64 t, .bool false, .string s, .slice none 0 0]
theorem pv_eq (t : Int) (b : Bs) : pv t (bs b) = dvC ⟨0, t, false, b, .nil⟩ none 0 := rfl
theorem pv_one (t : Int) (s : ByteArray) : (pv t s).all (·.oneCell') = true := by simp [pv, Value.oneCell']
theorem cell_new (w : World) (vs : Array Value) (t : TypeId) (j : Nat) : (w.alloc (.cells vs t)).cell? ⟨w.heap.size, j, none⟩ = vs[j]? := by rw [cell_of_row _ _ _ _ _ _ (heap_alloc_new w _)]
theorem seven {a b c d e f g : Int} {l : List Nat} {n : Nat → Nat} (hl : l = [n 0, n 1, n 2, n 3, n 4, n 5, n 6]) (h0 : a = (n 0 : Nat)) (h1 : b = (n 1 : Nat)) (h2 : c = (n 2 : Nat)) (h3 : d = (n 3 : Nat)) (h4 : e = (n 4 : Nat)) (h5 : f = (n 5 : Nat)) (h6 : g = (n 6 : Nat)) (j : Nat) (x : Nat) (hx : l[j]? = some x) :
    (#[Value.int .i64 a, .int .i64 b, .int .i64 c, .int .i64 d, .int .i64 e, .int .i64 f, .int .i64 g] : Array Value)[j]? = some (.int .i64 (x : Nat)) := by
  subst hl h0 h1 h2 h3 h4 h5 h6
  match j, hx with
  | 0, hx => cases hx; rfl
  | 1, hx => cases hx; rfl
  | 2, hx => cases hx; rfl
  | 3, hx => cases hx; rfl
  | 4, hx => cases hx; rfl
  | 5, hx => cases hx; rfl
  | 6, hx => cases hx; rfl
  | j + 7, hx => simp at hx
set_option maxRecDepth 100000 in
set_option maxHeartbeats 8000000 in
theorem OfTime_any (t : Int) (w : World) (ht : -9223372036854775808 ≤ t) (ht2 : t ≤ 9223372036854775807) : Calls Tryz.prog 22 #[.int .i64 t] w (RetDv w (ofTimeS t)) := by
  have hR := Rws.start w
  have HD0 : Hid (∀ u, Calls Tryz.prog 53 #[.int .i64 1970, .int .i64 1] u fun e w' => e = .returned (.int .i64 719528) ∧ w' = u) := Lib.hid fun u => by
    have := day_any 1970 1 u (by decide) (by decide) (by decide)
    rw [day_1970] at this; exact this
  have HD1 : Hid (∀ u, Calls Tryz.prog 53 #[.int .i64 10000, .int .i64 1] u fun e w' => e = .returned (.int .i64 3652425) ∧ w' = u) := Lib.hid fun u => by
    have := day_any 10000 1 u (by decide) (by decide) (by decide)
    rw [show dayS 10000 1 = 3652425 by unfold dayS; rw [years_10000]; rfl] at this; exact this
  by_cases h1 : t < -62167219200
  · have hx : ofTimeS t = (.zero, 61) := by unfold ofTimeS; rw [if_pos (Or.inl h1)]
    rw [hx]
    clear hx
    go_enter Tryz.func22, Tryz.ntmps22
    go_upto_region 1 with (refine wpList_alloc_rws rfl _ (by rfl) (by exact hR) (dvC .zero none 0) zero_der ?_; intro g2 w1 hR)
    go_wp2_with (first
      | (go_at_call_of 53 (Value.int .i64 1970); refine (HD0.out _).mono ?_; rintro e w2 ⟨rfl, rfl⟩)
      | (refine wpList_store_rws rfl _ _ _ (by rfl) (by exact hR) g2 rfl (dvC .zero none 0) (by rfl) _ _ _ (by repeat (first | exact Pick.here | apply Pick.there)) (by kernel_rfl) (by kernel_rfl) (by kernel_rfl) ?_; intro w6 hR))
    have HR := Lib.hid hR
    refine bodyPost_rws2 rfl HR.out g2 rfl _ _ (List.Mem.head _) _ Tryz.underlying24 rfl (by kernel_rfl) _ rfl rfl (fun hbz => ?_)
    exact ⟨rfl, rfl, hbz⟩
  · by_cases h2 : 253402300800 ≤ t
    · have hx : ofTimeS t = (.zero, 61) := by unfold ofTimeS; rw [if_pos (Or.inr h2)]
      rw [hx]
      clear hx
      go_enter Tryz.func22, Tryz.ntmps22
      go_upto_region 1 with (refine wpList_alloc_rws rfl _ (by rfl) (by exact hR) (dvC .zero none 0) zero_der ?_; intro g2 w1 hR)
      go_wp2_with (first
        | (go_at_call_of 53 (Value.int .i64 1970); refine (HD0.out _).mono ?_; rintro e w2 ⟨rfl, rfl⟩)
        | (go_at_call_of 53 (Value.int .i64 10000); refine (HD1.out _).mono ?_; rintro e w2 ⟨rfl, rfl⟩)
        | (refine wpList_store_rws rfl _ _ _ (by rfl) (by exact hR) g2 rfl (dvC .zero none 0) (by rfl) _ _ _ (by repeat (first | exact Pick.here | apply Pick.there)) (by kernel_rfl) (by kernel_rfl) (by kernel_rfl) ?_; intro w6 hR))
      have HR := Lib.hid hR
      refine bodyPost_rws2 rfl HR.out g2 rfl _ _ (List.Mem.head _) _ Tryz.underlying24 rfl (by kernel_rfl) _ rfl rfl (fun hbz => ?_)
      exact ⟨rfl, rfl, hbz⟩
    · obtain ⟨u, hu⟩ : ∃ u : Nat, t + 62167219200 = (u : Int) := ⟨(t + 62167219200).toNat, by omega⟩
      have hn : u / 86400 < yearsS 10000 := by rw [years_10000]; omega
      obtain ⟨y, m, d, hy, m1, m2, d1, d2, hD⟩ := has_date hn
      obtain ⟨z, hz⟩ : ∃ z, z = u % 86400 := ⟨_, rfl⟩
      have hzl : z < 86400 := by rw [hz]; exact Nat.mod_lt _ (by decide)
      have hx : ofTimeS t = (timeV y m d z, 0) := by
        rw [show t = 86400 * ((dayS y m + (d - 1) : Nat) : Int) + (z : Nat) - 62167219200 by omega]; exact of_num hy m1 m2 d1 d2 hzl
      obtain ⟨A1, A2⟩ := date_in (y := y) m1 m2 d1 d2
      have B2 := months_step y m m1
      have B3 := time_range hy m1 m2 d1 d2
      obtain ⟨D, hDD⟩ : ∃ D, D = dayS y m + (d - 1) := ⟨_, rfl⟩
      have HY0 : Hid (∀ k, k ≤ y → yearsS k ≤ D) := Lib.hid fun k hk => by have := years_mono hk; omega
      have HY1 : Hid (D < yearsS (y + 1)) := Lib.hid (by omega)
      have HM0 : Hid (∀ k, 1 ≤ k → k ≤ m → dayS y k ≤ D) := Lib.hid fun k h1 hk => by have := months_mono y h1 hk; unfold dayS at hDD ⊢; omega
      have HM1 : Hid (D < dayS y (m + 1)) := Lib.hid (by unfold dayS at hDD ⊢; omega)
      have HDM : Hid (D = dayS y m + (d - 1)) := Lib.hid hDD
      have HDU : Hid (D = u / 86400) := Lib.hid (by omega)
      have HZU : Hid (z = u % 86400) := Lib.hid hz
      have HY6 : Hid (D / 366 ≤ y) := Lib.hid (by
        refine Nat.le_of_lt_succ (Nat.div_lt_of_lt_mul ?_)
        have h := HY1.out
        have : ∀ k, yearsS k ≤ 366 * k := fun k => by
          induction k with
          | zero => exact Nat.le_refl _
          | succ k ih => have := (years_step k).2; omega
        have := this (y + 1)
        omega)
      have hDl : D < 3652425 := by omega
      have hul : u < 315569520000 := by omega
      have HU := Lib.hid hu
      have HX := Lib.hid hx
      have HDY : Hid (∀ (k : Nat) v, k ≤ y → Calls Tryz.prog 53 #[.int .i64 ((k : Int) + 1), .int .i64 1] v fun e w' => e = .returned (.int .i64 (yearsS (k + 1) : Nat)) ∧ w' = v) := Lib.hid fun k v hk => by
        have := day_any (k + 1) 1 v (by omega) (by decide) (by decide)
        rw [show dayS (k + 1) 1 = yearsS (k + 1) from rfl] at this
        exact this
      have HDM1 : Hid (∀ (k : Nat) v, k ≤ 12 → Calls Tryz.prog 53 #[.int .i64 (y : Nat), .int .i64 ((k : Int) + 1)] v fun e w' => e = .returned (.int .i64 (dayS y (k + 1) : Nat)) ∧ w' = v) := Lib.hid fun k v hk => day_any y (k + 1) v (by omega) (by omega) (by omega)
      have HDM2 : Hid (∀ v, Calls Tryz.prog 53 #[.int .i64 (y : Nat), .int .i64 (m : Nat)] v fun e w' => e = .returned (.int .i64 (dayS y m : Nat)) ∧ w' = v) := Lib.hid fun v => day_any y m v (by omega) m1 (by omega)
      clear hu hz hx A1 A2 B2 B3 hDD hn hD
      go_enter Tryz.func22, Tryz.ntmps22
      go_upto_region 1 with (refine wpList_alloc_rws rfl _ (by rfl) (by exact hR) (dvC .zero none 0) zero_der ?_; intro g2 w1 hR)
      go_upto_region 5 with (first
        | (go_at_call_of 53 (Value.int .i64 1970); refine (HD0.out _).mono ?_; rintro e w2 ⟨rfl, rfl⟩)
        | (go_at_call_of 53 (Value.int .i64 10000); refine (HD1.out _).mono ?_; rintro e w2 ⟨rfl, rfl⟩))
      rw [HU.out]
      have eD : (u : Int) / 86400 = (D : Int) := by have := HDU.out; omega
      have eZ : (u : Int) % 86400 = (z : Int) := by have := HZU.out; omega
      go_upto_region 7 with fail
      rw [eZ]
      obtain ⟨wv, hwv⟩ : ∃ wv : World, wv = w2 := ⟨_, rfl⟩
      rw [← hwv] at hR ⊢
      clear hwv eD eZ
      go_loopg [7] (y + 1 - D / 366) (fun gg s7 wr => ∃ (k : Nat), k ≤ y ∧ gg = y + 1 - k ∧ s7 = .int .i64 (k : Nat) ∧ wr = wv)
      case atStart => exact ⟨D / 366, HY6.out, rfl, by go_num, rfl⟩
      case round =>
        obtain ⟨k, hky, rfl, rfl, rfl⟩ := hrel
        have HDK := Lib.hid (fun v => HDY.out k v hky)
        by_cases hlt : k < y
        · have hk0 : yearsS (k + 1) ≤ D := HY0.out (k + 1) hlt
          have hk0z : ((yearsS (k + 1) : Nat) : Int) ≤ (D : Int) := by omega
          generalize yearsS (k + 1) = Y1 at *
          go_wp2_with (go_at_call 53; refine (HDK.out _).mono ?_; rintro e w3 ⟨rfl, rfl⟩)
          go_roundg (y + 1 - (k + 1))
          case measure => omega
          case rel => exact ⟨k + 1, hlt, rfl, by go_num, rfl⟩
        · obtain rfl : k = y := by omega
          have hk0 : ¬ yearsS (k + 1) ≤ D := by have := HY1.out; omega
          have hk0z : ¬ ((yearsS (k + 1) : Nat) : Int) ≤ (D : Int) := by omega
          generalize yearsS (k + 1) = Y1 at *
          go_upto_region 9 with (go_at_call 53; refine (HDK.out _).mono ?_; rintro e w3 ⟨rfl, rfl⟩)
          go_upto_region 10 with fail
          obtain ⟨wv, hwv⟩ : ∃ wv : World, wv = w3 := ⟨_, rfl⟩
          rw [← hwv] at hR ⊢
          clear hwv hk0 hk0z HDK HY0 HY1 HY6 HDY
          go_loopg [8] (m - 1) (fun gg s8 wr => ∃ (i : Nat), 1 ≤ i ∧ i ≤ m ∧ gg = m - i ∧ s8 = .int .i64 (i : Nat) ∧ wr = wv)
          case atStart => exact ⟨1, Nat.le_refl _, m1, rfl, rfl, rfl⟩
          case round =>
            obtain ⟨i, hi1, him, rfl, rfl, rfl⟩ := hrel
            have HDI : Hid (∀ v, Calls Tryz.prog 53 #[.int .i64 (k : Nat), .int .i64 ((i : Int) + 1)] v fun e w' => e = .returned (.int .i64 (dayS k (i + 1) : Nat)) ∧ w' = v) := Lib.hid fun v => HDM1.out i v (by omega)
            by_cases hlt : i < m
            · have hi12 : (i : Int) < 12 := by omega
              have hk0 : dayS k (i + 1) ≤ D := HM0.out (i + 1) (by omega) hlt
              have hk0z : ((dayS k (i + 1) : Nat) : Int) ≤ (D : Int) := by omega
              generalize dayS k (i + 1) = Y1 at *
              go_wp2_with (go_at_call 53; refine (HDI.out _).mono ?_; rintro e w4 ⟨rfl, rfl⟩)
              go_roundg (m - (i + 1))
              case measure => omega
              case rel => exact ⟨i + 1, by omega, hlt, rfl, by go_num, rfl⟩
            · obtain rfl : i = m := by omega
              by_cases hm12 : i < 12
              · have hi12 : (i : Int) < 12 := by omega
                have hk0 : ¬ dayS k (i + 1) ≤ D := by have := HM1.out; omega
                have hk0z : ¬ ((dayS k (i + 1) : Nat) : Int) ≤ (D : Int) := by omega
                generalize dayS k (i + 1) = Y1 at *
                go_upto_region 12 with (go_at_call 53; refine (HDI.out _).mono ?_; rintro e w4 ⟨rfl, rfl⟩)
                have HDK := Lib.hid (fun v => HDM2.out v)
                obtain ⟨N, hN⟩ : ∃ N, N = dayS k i := ⟨_, rfl⟩
                rw [← hN] at HDK
                have HDD : Hid ((D : Int) - (N : Nat) + 1 = (d : Int) ∧ N ≤ D) := Lib.hid (by have := HDM.out; omega)
                have hNl : N ≤ D := HDD.out.2
                clear hN
                have HPR : Hid (∀ (v : World) (a b c e f g h : Int), a = ((k / 100 : Nat) : Int) → b = ((k % 100 : Nat) : Int) → c = ((i : Nat) : Int) → e = ((d : Nat) : Int) → f = ((z / 3600 : Nat) : Int) → g = ((z / 60 % 60 : Nat) : Int) → h = ((z % 60 : Nat) : Int) →
                    Calls Tryz.prog 54 #[.slice (some ⟨v.heap.size, 0, none⟩) 7 7] (v.alloc (.cells #[.int .i64 a, .int .i64 b, .int .i64 c, .int .i64 e, .int .i64 f, .int .i64 g, .int .i64 h] 3)) fun en w' => en = .returned (.string (bs (((signsT k i d z)).take 14))) ∧ Below (v.alloc (.cells #[.int .i64 a, .int .i64 b, .int .i64 c, .int .i64 e, .int .i64 f, .int .i64 g, .int .i64 h] 3)).heap.size (v.alloc (.cells #[.int .i64 a, .int .i64 b, .int .i64 c, .int .i64 e, .int .i64 f, .int .i64 g, .int .i64 h] 3)) w') := Lib.hid fun v a b c e f g h q0 q1 q2 q3 q4 q5 q6 => by
                  have hd31 := (lenM_pos k i).2
                  exact pairs_any [k / 100, k % 100, i, d, z / 3600, z / 60 % 60, z % 60] (by simp only [List.mem_cons, List.not_mem_nil, or_false]; omega) (by simp) v.heap.size 7 _ (fun j x hx => by
                    rw [cell_new]
                    exact seven (n := fun q => ([k / 100, k % 100, i, d, z / 3600, z / 60 % 60, z % 60] : List Nat).getD q 0) rfl q0 q1 q2 q3 q4 q5 q6 j x hx) (by simp) (by simp)
                go_upto_region 13 with (first
                  | (go_at_call 53; refine (HDK.out _).mono ?_; rintro e w5 ⟨rfl, rfl⟩)
                  | (go_at_call 54; refine (HPR.out _ _ _ _ _ _ _ _ (by omega) (by omega) (by omega) HDD.out.1 (by omega) (by omega) (by omega)).mono ?_; rintro e w6 ⟨rfl, hb6⟩))
                have hR := (hR.alloc0 _).call hb6
                obtain ⟨SG, hSG⟩ : ∃ SG, SG = signsT k i d z := ⟨_, rfl⟩
                have hs : bs ((signsT k i d z).take 14) ++ ⟨#[90]⟩ = bs SG := by rw [bs_app, hSG]; rfl
                rw [hs]
                have zs := bs_size SG
                have hsl : SG.length = 15 := by rw [hSG, signs_len]
                rw [hsl] at zs
                have HSG := Lib.hid hSG
                have HSL := Lib.hid hsl
                clear hSG hs hsl hb6
                by_cases hy1 : 1950 ≤ k
                · have hz1 : (1950 : Int) ≤ (k : Int) := by omega
                  by_cases hy2 : k ≤ 2049
                  · have hz2 : (k : Int) ≤ 2049 := by omega
                    go_wp2_with (refine wpList_store_rws rfl _ _ _ (by rfl) (by exact hR) g2 rfl (pv 23 ((bs SG).extract 2 15)) (by rfl) _ _ _ (by repeat (first | exact Pick.here | apply Pick.there)) (by kernel_rfl) (by rfl) (pv_one _ _) ?_; intro w8 hR)
                    have HR := Lib.hid hR
                    refine bodyPost_rws2 rfl HR.out g2 rfl _ _ (List.Mem.head _) _ Tryz.underlying24 rfl (by kernel_rfl) _ rfl rfl (fun hbz => ?_)
                    rw [HX.out]
                    unfold timeV
                    rw [if_pos ⟨hy1, hy2⟩, ← HSG.out, bs_cut, List.take_of_length_le (by rw [HSL.out]; exact Nat.le_refl _)]
                    exact ⟨rfl, rfl, hbz⟩
                  · have hz2 : ¬ (k : Int) ≤ 2049 := by omega
                    go_wp2_with (refine wpList_store_rws rfl _ _ _ (by rfl) (by exact hR) g2 rfl (pv 24 (bs SG)) (by rfl) _ _ _ (by repeat (first | exact Pick.here | apply Pick.there)) (by kernel_rfl) (by rfl) (pv_one _ _) ?_; intro w8 hR)
                    have HR := Lib.hid hR
                    refine bodyPost_rws2 rfl HR.out g2 rfl _ _ (List.Mem.head _) _ Tryz.underlying24 rfl (by kernel_rfl) _ rfl rfl (fun hbz => ?_)
                    rw [HX.out]
                    unfold timeV
                    rw [if_neg (by omega), ← HSG.out]
                    exact ⟨rfl, rfl, hbz⟩
                · have hz1 : ¬ (1950 : Int) ≤ (k : Int) := by omega
                  go_wp2_with (refine wpList_store_rws rfl _ _ _ (by rfl) (by exact hR) g2 rfl (pv 24 (bs SG)) (by rfl) _ _ _ (by repeat (first | exact Pick.here | apply Pick.there)) (by kernel_rfl) (by rfl) (pv_one _ _) ?_; intro w8 hR)
                  have HR := Lib.hid hR
                  refine bodyPost_rws2 rfl HR.out g2 rfl _ _ (List.Mem.head _) _ Tryz.underlying24 rfl (by kernel_rfl) _ rfl rfl (fun hbz => ?_)
                  rw [HX.out]
                  unfold timeV
                  rw [if_neg (by omega), ← HSG.out]
                  exact ⟨rfl, rfl, hbz⟩
              · have hi12 : ¬ (i : Int) < 12 := by omega
                go_upto_region 12 with fail
                have HDK := Lib.hid (fun v => HDM2.out v)
                obtain ⟨N, hN⟩ : ∃ N, N = dayS k i := ⟨_, rfl⟩
                rw [← hN] at HDK
                have HDD : Hid ((D : Int) - (N : Nat) + 1 = (d : Int) ∧ N ≤ D) := Lib.hid (by have := HDM.out; omega)
                have hNl : N ≤ D := HDD.out.2
                clear hN
                have HPR : Hid (∀ (v : World) (a b c e f g h : Int), a = ((k / 100 : Nat) : Int) → b = ((k % 100 : Nat) : Int) → c = ((i : Nat) : Int) → e = ((d : Nat) : Int) → f = ((z / 3600 : Nat) : Int) → g = ((z / 60 % 60 : Nat) : Int) → h = ((z % 60 : Nat) : Int) →
                    Calls Tryz.prog 54 #[.slice (some ⟨v.heap.size, 0, none⟩) 7 7] (v.alloc (.cells #[.int .i64 a, .int .i64 b, .int .i64 c, .int .i64 e, .int .i64 f, .int .i64 g, .int .i64 h] 3)) fun en w' => en = .returned (.string (bs (((signsT k i d z)).take 14))) ∧ Below (v.alloc (.cells #[.int .i64 a, .int .i64 b, .int .i64 c, .int .i64 e, .int .i64 f, .int .i64 g, .int .i64 h] 3)).heap.size (v.alloc (.cells #[.int .i64 a, .int .i64 b, .int .i64 c, .int .i64 e, .int .i64 f, .int .i64 g, .int .i64 h] 3)) w') := Lib.hid fun v a b c e f g h q0 q1 q2 q3 q4 q5 q6 => by
                  have hd31 := (lenM_pos k i).2
                  exact pairs_any [k / 100, k % 100, i, d, z / 3600, z / 60 % 60, z % 60] (by simp only [List.mem_cons, List.not_mem_nil, or_false]; omega) (by simp) v.heap.size 7 _ (fun j x hx => by
                    rw [cell_new]
                    exact seven (n := fun q => ([k / 100, k % 100, i, d, z / 3600, z / 60 % 60, z % 60] : List Nat).getD q 0) rfl q0 q1 q2 q3 q4 q5 q6 j x hx) (by simp) (by simp)
                go_upto_region 13 with (first
                  | (go_at_call 53; refine (HDK.out _).mono ?_; rintro e w5 ⟨rfl, rfl⟩)
                  | (go_at_call 54; refine (HPR.out _ _ _ _ _ _ _ _ (by omega) (by omega) (by omega) HDD.out.1 (by omega) (by omega) (by omega)).mono ?_; rintro e w6 ⟨rfl, hb6⟩))
                have hR := (hR.alloc0 _).call hb6
                obtain ⟨SG, hSG⟩ : ∃ SG, SG = signsT k i d z := ⟨_, rfl⟩
                have hs : bs ((signsT k i d z).take 14) ++ ⟨#[90]⟩ = bs SG := by rw [bs_app, hSG]; rfl
                rw [hs]
                have zs := bs_size SG
                have hsl : SG.length = 15 := by rw [hSG, signs_len]
                rw [hsl] at zs
                have HSG := Lib.hid hSG
                have HSL := Lib.hid hsl
                clear hSG hs hsl hb6
                by_cases hy1 : 1950 ≤ k
                · have hz1 : (1950 : Int) ≤ (k : Int) := by omega
                  by_cases hy2 : k ≤ 2049
                  · have hz2 : (k : Int) ≤ 2049 := by omega
                    go_wp2_with (refine wpList_store_rws rfl _ _ _ (by rfl) (by exact hR) g2 rfl (pv 23 ((bs SG).extract 2 15)) (by rfl) _ _ _ (by repeat (first | exact Pick.here | apply Pick.there)) (by kernel_rfl) (by rfl) (pv_one _ _) ?_; intro w8 hR)
                    have HR := Lib.hid hR
                    refine bodyPost_rws2 rfl HR.out g2 rfl _ _ (List.Mem.head _) _ Tryz.underlying24 rfl (by kernel_rfl) _ rfl rfl (fun hbz => ?_)
                    rw [HX.out]
                    unfold timeV
                    rw [if_pos ⟨hy1, hy2⟩, ← HSG.out, bs_cut, List.take_of_length_le (by rw [HSL.out]; exact Nat.le_refl _)]
                    exact ⟨rfl, rfl, hbz⟩
                  · have hz2 : ¬ (k : Int) ≤ 2049 := by omega
                    go_wp2_with (refine wpList_store_rws rfl _ _ _ (by rfl) (by exact hR) g2 rfl (pv 24 (bs SG)) (by rfl) _ _ _ (by repeat (first | exact Pick.here | apply Pick.there)) (by kernel_rfl) (by rfl) (pv_one _ _) ?_; intro w8 hR)
                    have HR := Lib.hid hR
                    refine bodyPost_rws2 rfl HR.out g2 rfl _ _ (List.Mem.head _) _ Tryz.underlying24 rfl (by kernel_rfl) _ rfl rfl (fun hbz => ?_)
                    rw [HX.out]
                    unfold timeV
                    rw [if_neg (by omega), ← HSG.out]
                    exact ⟨rfl, rfl, hbz⟩
                · have hz1 : ¬ (1950 : Int) ≤ (k : Int) := by omega
                  go_wp2_with (refine wpList_store_rws rfl _ _ _ (by rfl) (by exact hR) g2 rfl (pv 24 (bs SG)) (by rfl) _ _ _ (by repeat (first | exact Pick.here | apply Pick.there)) (by kernel_rfl) (by rfl) (pv_one _ _) ?_; intro w8 hR)
                  have HR := Lib.hid hR
                  refine bodyPost_rws2 rfl HR.out g2 rfl _ _ (List.Mem.head _) _ Tryz.underlying24 rfl (by kernel_rfl) _ rfl rfl (fun hbz => ?_)
                  rw [HX.out]
                  unfold timeV
                  rw [if_neg (by omega), ← HSG.out]
                  exact ⟨rfl, rfl, hbz⟩
end Go.Proofs.YtebhiplcoioenaaGreatDoor
