/- DerTimes: the law's walk (gen_ztimes.py). -/
import Derived.Test.YtebhiplcoioenaaGreatDoorZZLawKit
import Derived.Test.YtebhiplcoioenaaGreatDoorZZRTimeW
import Derived.Test.YtebhiplcoioenaaGreatDoorZDM
import Derived.Test.YtebhiplcoioenaaGreatDoorZZTimeW
namespace Go.Proofs.YtebhiplcoioenaaGreatDoor.derTimes
open Go.RowKit

theorem ROfTime_any (t : Int) (w : World) (ht : -9223372036854775808 ≤ t) (ht2 : t ≤ 9223372036854775807) : Calls Tryz.prog 23 #[.int .i64 t] w (RetDv w (ofTimeS t)) := by
  by_cases h : t < -62167219200 ∨ 253402300800 ≤ t
  · have := ROfTime_bad t w ht ht2 h
    have e : ofTimeS t = (.zero, 61) := by unfold ofTimeS; rw [if_pos h]
    rw [e]
    exact this
  · exact ROfTime_ok t w (by omega) (by omega)
theorem time_le (v : Dv) (h : (timeN v).2 = 0) : -9223372036854775808 ≤ (timeN v).1 ∧ (timeN v).1 ≤ 9223372036854775807 := by
  obtain ⟨z, hz, -⟩ := time_law (v := v) (a := (timeN v).1) (by rw [← h])
  unfold ofTimeS at hz
  by_cases hc : (timeN v).1 < -62167219200 ∨ 253402300800 ≤ (timeN v).1
  · rw [if_pos hc] at hz; exact absurd hz (by simp)
  · omega
theorem oftime_nil (t : Int) : (ofTimeS t).1.l = .nil ∧ (ofTimeS t).1.b.length ≤ 15 ∧ ((ofTimeS t).2 = 0 → (ofTimeS t).1.c = 0 ∧ primL.contains (ofTimeS t).1.t = true) := by
  unfold ofTimeS
  by_cases hc : t < -62167219200 ∨ 253402300800 ≤ t
  · rw [if_pos hc]; exact ⟨rfl, Nat.zero_le _, fun h => absurd h (by simp)⟩
  · rw [if_neg hc]
    unfold timeV
    simp only
    split
    · exact ⟨rfl, by show (List.drop 2 _).length ≤ 15; rw [List.length_drop, signs_len]; omega, fun _ => ⟨rfl, rfl⟩⟩
    · exact ⟨rfl, by show (signsT ..).length ≤ 15; rw [signs_len]; omega, fun _ => ⟨rfl, rfl⟩⟩
set_option maxRecDepth 100000 in
set_option maxHeartbeats 8000000 in
theorem law_any (v : Dv) (ad : Option Addr) (cp : Nat) (t : Int) (w : World) (_hsl : SlD w v.l ad cp) (hb : v.b.length ≤ SB) (ht : -9223372036854775808 ≤ t) (ht2 : t ≤ 9223372036854775807) (hg : Gd w) : Calls Tryz.prog 7 #[dvv v ad cp, .int .i64 t] w (RetB true w) := by
  have hSB := SB_eq
  have hR := Rws.start w
  have HG := Lib.hid hg
  have HFX : Hid (∀ u, Below w.heap.size w u → Calls Tryz.prog 13 #[] u (RetB true u)) := Lib.hid fun u hu => fixed_any u (hg.below hu)
  have key : ∀ (x : Dv) (ad : Option Addr) (cp : Nat) u, x.b.length ≤ SB → Below w.heap.size w u → Calls Tryz.prog 20 #[dvv x ad cp] u fun e w' => e = .returned (.tuple #[.int .i64 (timeN x).1, .int .i64 (timeN x).2]) ∧ Below u.heap.size u w' := fun x ad cp u hx hu => Time_any x ad cp u hx (hg.below hu) (fun t htm hc htt u2 hu2 => Check_prim x ad cp u2 hc (by rw [htt]; simp only [List.mem_cons, List.not_mem_nil, or_false] at htm; rcases htm with rfl | rfl <;> decide) hx (fun h => by rw [htt] at h; simp only [List.mem_cons, List.not_mem_nil, or_false] at htm; omega) (hg.below (hu.trans (hu2.mono hu.size))))
  have HTI : Hid (∀ u, Below w.heap.size w u → Calls Tryz.prog 20 #[dvv v ad cp] u fun e w' => e = .returned (.tuple #[.int .i64 (timeN v).1, .int .i64 (timeN v).2]) ∧ Below u.heap.size u w') := Lib.hid fun u hu => key v ad cp u hb hu
  have HRT : Hid (∀ u, Below w.heap.size w u → Calls Tryz.prog 21 #[dvv v ad cp] u fun e w' => e = .returned (.tuple #[.int .i64 (timeN v).1, .int .i64 (timeN v).2]) ∧ Below u.heap.size u w') := Lib.hid fun u _ => RTime_any v ad cp u hb
  have HOT : Hid (∀ u, Below w.heap.size w u → Calls Tryz.prog 22 #[.int .i64 t] u (RetDv u (ofTimeS t))) := Lib.hid fun u _ => OfTime_any t u ht ht2
  have HRO : Hid (∀ u, Below w.heap.size w u → Calls Tryz.prog 23 #[.int .i64 t] u (RetDv u (ofTimeS t))) := Lib.hid fun u _ => ROfTime_any t u ht ht2
  have HTL : Hid (∀ a, timeN v = (a, 0) → ∃ z, ofTimeS a = (z, 0) ∧ timeN z = (a, 0) ∧ (z.t = v.t → z.b = v.b)) := Lib.hid fun a h => time_law h
  have HOL : Hid (∀ x, ofTimeS t = (x, 0) → timeN x = (t, 0) ∧ x.check = 0) := Lib.hid fun x h => oftime_law h
  have hXl := oftime_nil t
  have hNl := time_le v
  obtain ⟨XG, hXG⟩ : ∃ XG, XG = ofTimeS t := ⟨_, rfl⟩
  obtain ⟨NE, hNE⟩ : ∃ NE, NE = timeN v := ⟨_, rfl⟩
  obtain ⟨X, G⟩ := XG
  obtain ⟨N, E⟩ := NE
  rw [← hXG] at HOT HRO HOL hXl
  rw [← hNE] at HTI HRT HTL hNl
  simp only at hXl hNl
  have HXL := Lib.hid hXl
  have HNL := Lib.hid hNl
  have HKEY := Lib.hid key
  clear hXG hNE hg hb ht ht2 hXl hNl key
  have eN : (N == N) = true := by simp
  have eE : (E == E) = true := by simp
  have eG : (G == G) = true := by simp
  have HSX : Hid (∀ u, Calls Tryz.prog 12 #[dvv X none 0, dvv X none 0] u (RetB true u)) := Lib.hid fun u => same_any X none 0 none 0 u (by rw [HXL.out.1]; exact SlD.nil u) (by rw [HXL.out.1]; exact SlD.nil u)
  go_enter Tryz.func7, Tryz.ntmps7
  go_upto_region 1 with (refine wpList_box_rws rfl _ _ (by rfl) (by exact hR) (dvC v ad cp) rfl ?_; intro g2 w1 hR)
  go_upto_region 2 with (first
    | (refine wpList_load_rws rfl _ _ (by rfl) (by exact hR) g2 rfl (dvC v ad cp) _ (by repeat (first | exact List.Mem.head _ | refine List.Mem.tail _ ?_)) _ Tryz.underlying24 rfl (by kernel_rfl) ?_)
    | (go_at_call 20; refine (HTI.out _ hR.below).mono ?_; rintro e wn ⟨rfl, hb⟩; have hR := hR.call hb; clear hb))
  go_upto_region 3 with (first
    | (refine wpList_load_rws rfl _ _ (by rfl) (by exact hR) g2 rfl (dvC v ad cp) _ (by repeat (first | exact List.Mem.head _ | refine List.Mem.tail _ ?_)) _ Tryz.underlying24 rfl (by kernel_rfl) ?_)
    | (go_at_call 21; refine (HRT.out _ hR.below).mono ?_; rintro e wn ⟨rfl, hb⟩; have hR := hR.call hb; clear hb))
  go_upto_region 4 with (first
    | (go_at_call 22; refine (HOT.out _ hR.below).mono ?_; rintro e wn ⟨hlX, rfl, hb⟩; have hR := hR.call hb; clear hb hlX)
    | (refine wQ_alloc (cs := dvC .zero none 0) rfl _ (by rfl) (by exact hR) zero_der ?_; intro g9 wq hR hbq hgq)
    | (refine wQ_store rfl _ _ _ (by rfl) (by exact hR) g9 rfl (dvC X none 0) (by rfl) _ _ _ (by repeat (first | exact Pick.here | apply Pick.there)) (by kernel_rfl) (by rfl) (dv_one _ _ _) ?_; intro wr hR hsmr hszr))
  clear hbq hgq hsmr hszr
  go_upto_region 5 with (first
    | (go_at_call 23; refine (HRO.out _ hR.below).mono ?_; rintro e wn ⟨hlX, rfl, hb⟩; have hR := hR.call hb; clear hb hlX)
    | (refine wQ_alloc (cs := dvC .zero none 0) rfl _ (by rfl) (by exact hR) zero_der ?_; intro g11 wq hR hbq hgq)
    | (refine wQ_store rfl _ _ _ (by rfl) (by exact hR) g11 rfl (dvC X none 0) (by rfl) _ _ _ (by repeat (first | exact Pick.here | apply Pick.there)) (by kernel_rfl) (by rfl) (dv_one _ _ _) ?_; intro wr hR hsmr hszr))
  clear hbq hgq hsmr hszr
  go_upto_region 7 with (first
    | (go_at_call 13; refine (HFX.out _ hR.below).mono ?_; rintro e wn ⟨rfl, hb⟩; have hR := hR.call hb; clear hb; have q0 := hR.cellAt (g := g9) (by repeat (first | exact List.Mem.head _ | refine List.Mem.tail _ ?_)) 0 rfl; have q1 := hR.cellAt (g := g9) (by repeat (first | exact List.Mem.head _ | refine List.Mem.tail _ ?_)) 1 rfl; have q2 := hR.cellAt (g := g9) (by repeat (first | exact List.Mem.head _ | refine List.Mem.tail _ ?_)) 2 rfl; have q3 := hR.cellAt (g := g9) (by repeat (first | exact List.Mem.head _ | refine List.Mem.tail _ ?_)) 3 rfl; have q4 := hR.cellAt (g := g9) (by repeat (first | exact List.Mem.head _ | refine List.Mem.tail _ ?_)) 4 rfl; have p0 := hR.cellAt (g := g11) (by repeat (first | exact List.Mem.head _ | refine List.Mem.tail _ ?_)) 0 rfl; have p1 := hR.cellAt (g := g11) (by repeat (first | exact List.Mem.head _ | refine List.Mem.tail _ ?_)) 1 rfl; have p2 := hR.cellAt (g := g11) (by repeat (first | exact List.Mem.head _ | refine List.Mem.tail _ ?_)) 2 rfl; have p3 := hR.cellAt (g := g11) (by repeat (first | exact List.Mem.head _ | refine List.Mem.tail _ ?_)) 3 rfl; have p4 := hR.cellAt (g := g11) (by repeat (first | exact List.Mem.head _ | refine List.Mem.tail _ ?_)) 4 rfl)
    | (go_at_call 12; refine (HSX.out _).mono ?_; rintro e wn ⟨rfl, hb⟩; have hR := hR.call hb; clear hb))
  clear eN eE eG q0 q1 q2 q3 q4 p0 p1 p2 p3 p4
  by_cases hE : E = 0
  · subst hE
    obtain ⟨z, hz, hzn, hzb⟩ := HTL.out N rfl
    have hnb := HNL.out rfl
    have hzl := oftime_nil N
    rw [hz] at hzl
    simp only at hzl
    have HO2 : Hid (∀ u, Below w.heap.size w u → Calls Tryz.prog 22 #[.int .i64 N] u (RetDv u (z, 0))) := Lib.hid fun u _ => by
      have := OfTime_any N u hnb.1 hnb.2
      rw [hz] at this
      exact this
    have HT2 : Hid (∀ u, Below w.heap.size w u → Calls Tryz.prog 20 #[dvv z none 0] u fun e w' => e = .returned (.tuple #[.int .i64 N, .int .i64 0]) ∧ Below u.heap.size u w') := Lib.hid fun u hu => by
      have := HKEY.out z none 0 u (by omega) hu
      rw [hzn] at this
      exact this
    have HZB := Lib.hid hzb
    clear hz hzn hzb hnb hzl
    go_upto_region 9 with (first
      | (go_at_call 22; refine (HO2.out _ hR.below).mono ?_; rintro e wn ⟨hlX, rfl, hb⟩; have hR := hR.call hb; clear hb hlX)
      | (refine wQ_alloc (cs := dvC .zero none 0) rfl _ (by rfl) (by exact hR) zero_der ?_; intro g13 wq hR hbq hgq)
      | (refine wQ_store rfl _ _ _ (by rfl) (by exact hR) g13 rfl (dvC z none 0) (by rfl) _ _ _ (by repeat (first | exact Pick.here | apply Pick.there)) (by kernel_rfl) (by rfl) (dv_one _ _ _) ?_; intro wr hR hsmr hszr))
    clear hbq hgq hsmr hszr
    go_upto_region 10 with (first
      | (refine wpList_load_rws rfl _ _ (by rfl) (by exact hR) g13 rfl (dvC z none 0) _ (by repeat (first | exact List.Mem.head _ | refine List.Mem.tail _ ?_)) _ Tryz.underlying24 rfl (by kernel_rfl) ?_)
      | (go_at_call 20; refine (HT2.out _ hR.below).mono ?_; rintro e wn ⟨rfl, hb⟩; have hR := hR.call hb; clear hb))
    have eN : (N == N) = true := by simp
    have q0 := hR.cellAt (g := g13) (by repeat (first | exact List.Mem.head _ | refine List.Mem.tail _ ?_)) 0 rfl
    have q1 := hR.cellAt (g := g13) (by repeat (first | exact List.Mem.head _ | refine List.Mem.tail _ ?_)) 1 rfl
    have q2 := hR.cellAt (g := g13) (by repeat (first | exact List.Mem.head _ | refine List.Mem.tail _ ?_)) 2 rfl
    have q3 := hR.cellAt (g := g13) (by repeat (first | exact List.Mem.head _ | refine List.Mem.tail _ ?_)) 3 rfl
    have q4 := hR.cellAt (g := g13) (by repeat (first | exact List.Mem.head _ | refine List.Mem.tail _ ?_)) 4 rfl
    have p0 := hR.cellAt (g := g2) (by repeat (first | exact List.Mem.head _ | refine List.Mem.tail _ ?_)) 0 rfl
    have p1 := hR.cellAt (g := g2) (by repeat (first | exact List.Mem.head _ | refine List.Mem.tail _ ?_)) 1 rfl
    have p2 := hR.cellAt (g := g2) (by repeat (first | exact List.Mem.head _ | refine List.Mem.tail _ ?_)) 2 rfl
    have p3 := hR.cellAt (g := g2) (by repeat (first | exact List.Mem.head _ | refine List.Mem.tail _ ?_)) 3 rfl
    have p4 := hR.cellAt (g := g2) (by repeat (first | exact List.Mem.head _ | refine List.Mem.tail _ ?_)) 4 rfl
    by_cases hzt : z.t = v.t
    · have hbb := HZB.out hzt
      have e1 : (z.t == v.t) = true := by simpa using hzt
      have e2 : ((bs z.b).toList == (bs v.b).toList) = true := by rw [hbb]; simp
      have HZ2 := Lib.hid (And.intro hzt hbb)
      clear hzt hbb HZB
      go_upto_region 12 with fail
      clear eN q0 q1 q2 q3 q4 p0 p1 p2 p3 p4 e1 e2
      by_cases hG : G = 0
      · subst hG
        have hx := HOL.out X rfl
        have hxl := HXL.out
        have HTX : Hid (∀ u, Below w.heap.size w u → Calls Tryz.prog 20 #[dvv X none 0] u fun e w' => e = .returned (.tuple #[.int .i64 t, .int .i64 0]) ∧ Below u.heap.size u w') := Lib.hid fun u hu => by
          have := HKEY.out X none 0 u (by omega) hu
          rw [hx.1] at this
          exact this
        have HCX : Hid (∀ u, Below w.heap.size w u → Calls Tryz.prog 15 #[dvv X none 0] u (RetI 0 u)) := Lib.hid fun u hu => by
          have := Check_prim X none 0 u (hxl.2.2 rfl).1 (hxl.2.2 rfl).2 (by omega) (fun _ => by omega) (HG.out.below hu)
          rw [hx.2] at this
          exact this
        clear hx hxl
        go_upto_region 14 with (first
          | (refine wpList_load_rws rfl _ _ (by rfl) (by exact hR) g9 rfl (dvC X none 0) _ (by repeat (first | exact List.Mem.head _ | refine List.Mem.tail _ ?_)) _ Tryz.underlying24 rfl (by kernel_rfl) ?_)
          | (go_at_call 20; refine (HTX.out _ hR.below).mono ?_; rintro e wn ⟨rfl, hb⟩; have hR := hR.call hb; clear hb))
        have q0 := hR.cellAt (g := g9) (by repeat (first | exact List.Mem.head _ | refine List.Mem.tail _ ?_)) 0 rfl
        have q1 := hR.cellAt (g := g9) (by repeat (first | exact List.Mem.head _ | refine List.Mem.tail _ ?_)) 1 rfl
        have q2 := hR.cellAt (g := g9) (by repeat (first | exact List.Mem.head _ | refine List.Mem.tail _ ?_)) 2 rfl
        have q3 := hR.cellAt (g := g9) (by repeat (first | exact List.Mem.head _ | refine List.Mem.tail _ ?_)) 3 rfl
        have q4 := hR.cellAt (g := g9) (by repeat (first | exact List.Mem.head _ | refine List.Mem.tail _ ?_)) 4 rfl
        have eT : (t == t) = true := by simp
        go_wp2_with (go_at_call 15; refine (HCX.out _ hR.below).mono ?_; rintro e wn ⟨rfl, hb⟩; have hR := hR.call hb; clear hb)
        go_ret
        exact ⟨rfl, hR.below⟩
      · have hez : (G == 0) = false := by simpa using hG
        go_wp2_with fail
        go_ret
        exact ⟨rfl, hR.below⟩
    · have e1 : (z.t == v.t) = false := by simpa using hzt
      clear hzt HZB
      go_upto_region 12 with fail
      clear eN q0 q1 q2 q3 q4 p0 p1 p2 p3 p4 e1
      by_cases hG : G = 0
      · subst hG
        have hx := HOL.out X rfl
        have hxl := HXL.out
        have HTX : Hid (∀ u, Below w.heap.size w u → Calls Tryz.prog 20 #[dvv X none 0] u fun e w' => e = .returned (.tuple #[.int .i64 t, .int .i64 0]) ∧ Below u.heap.size u w') := Lib.hid fun u hu => by
          have := HKEY.out X none 0 u (by omega) hu
          rw [hx.1] at this
          exact this
        have HCX : Hid (∀ u, Below w.heap.size w u → Calls Tryz.prog 15 #[dvv X none 0] u (RetI 0 u)) := Lib.hid fun u hu => by
          have := Check_prim X none 0 u (hxl.2.2 rfl).1 (hxl.2.2 rfl).2 (by omega) (fun _ => by omega) (HG.out.below hu)
          rw [hx.2] at this
          exact this
        clear hx hxl
        go_upto_region 14 with (first
          | (refine wpList_load_rws rfl _ _ (by rfl) (by exact hR) g9 rfl (dvC X none 0) _ (by repeat (first | exact List.Mem.head _ | refine List.Mem.tail _ ?_)) _ Tryz.underlying24 rfl (by kernel_rfl) ?_)
          | (go_at_call 20; refine (HTX.out _ hR.below).mono ?_; rintro e wn ⟨rfl, hb⟩; have hR := hR.call hb; clear hb))
        have q0 := hR.cellAt (g := g9) (by repeat (first | exact List.Mem.head _ | refine List.Mem.tail _ ?_)) 0 rfl
        have q1 := hR.cellAt (g := g9) (by repeat (first | exact List.Mem.head _ | refine List.Mem.tail _ ?_)) 1 rfl
        have q2 := hR.cellAt (g := g9) (by repeat (first | exact List.Mem.head _ | refine List.Mem.tail _ ?_)) 2 rfl
        have q3 := hR.cellAt (g := g9) (by repeat (first | exact List.Mem.head _ | refine List.Mem.tail _ ?_)) 3 rfl
        have q4 := hR.cellAt (g := g9) (by repeat (first | exact List.Mem.head _ | refine List.Mem.tail _ ?_)) 4 rfl
        have eT : (t == t) = true := by simp
        go_wp2_with (go_at_call 15; refine (HCX.out _ hR.below).mono ?_; rintro e wn ⟨rfl, hb⟩; have hR := hR.call hb; clear hb)
        go_ret
        exact ⟨rfl, hR.below⟩
      · have hez : (G == 0) = false := by simpa using hG
        go_wp2_with fail
        go_ret
        exact ⟨rfl, hR.below⟩
  · have hez : (E == 0) = false := by simpa using hE
    go_upto_region 12 with fail
    clear hez
    by_cases hG : G = 0
    · subst hG
      have hx := HOL.out X rfl
      have hxl := HXL.out
      have HTX : Hid (∀ u, Below w.heap.size w u → Calls Tryz.prog 20 #[dvv X none 0] u fun e w' => e = .returned (.tuple #[.int .i64 t, .int .i64 0]) ∧ Below u.heap.size u w') := Lib.hid fun u hu => by
        have := HKEY.out X none 0 u (by omega) hu
        rw [hx.1] at this
        exact this
      have HCX : Hid (∀ u, Below w.heap.size w u → Calls Tryz.prog 15 #[dvv X none 0] u (RetI 0 u)) := Lib.hid fun u hu => by
        have := Check_prim X none 0 u (hxl.2.2 rfl).1 (hxl.2.2 rfl).2 (by omega) (fun _ => by omega) (HG.out.below hu)
        rw [hx.2] at this
        exact this
      clear hx hxl
      go_upto_region 14 with (first
        | (refine wpList_load_rws rfl _ _ (by rfl) (by exact hR) g9 rfl (dvC X none 0) _ (by repeat (first | exact List.Mem.head _ | refine List.Mem.tail _ ?_)) _ Tryz.underlying24 rfl (by kernel_rfl) ?_)
        | (go_at_call 20; refine (HTX.out _ hR.below).mono ?_; rintro e wn ⟨rfl, hb⟩; have hR := hR.call hb; clear hb))
      have q0 := hR.cellAt (g := g9) (by repeat (first | exact List.Mem.head _ | refine List.Mem.tail _ ?_)) 0 rfl
      have q1 := hR.cellAt (g := g9) (by repeat (first | exact List.Mem.head _ | refine List.Mem.tail _ ?_)) 1 rfl
      have q2 := hR.cellAt (g := g9) (by repeat (first | exact List.Mem.head _ | refine List.Mem.tail _ ?_)) 2 rfl
      have q3 := hR.cellAt (g := g9) (by repeat (first | exact List.Mem.head _ | refine List.Mem.tail _ ?_)) 3 rfl
      have q4 := hR.cellAt (g := g9) (by repeat (first | exact List.Mem.head _ | refine List.Mem.tail _ ?_)) 4 rfl
      have eT : (t == t) = true := by simp
      go_wp2_with (go_at_call 15; refine (HCX.out _ hR.below).mono ?_; rintro e wn ⟨rfl, hb⟩; have hR := hR.call hb; clear hb)
      go_ret
      exact ⟨rfl, hR.below⟩
    · have hez : (G == 0) = false := by simpa using hG
      go_wp2_with fail
      go_ret
      exact ⟨rfl, hR.below⟩
end Go.Proofs.YtebhiplcoioenaaGreatDoor.derTimes
