/- QVerA QVerB QVerC, in one text. -/
import Derived.Test.YtaggpodckafbgaaGreatDoorZR6
import Derived.Test.YtaggpodckafbgaaGreatDoorZV3
import Derived.Test.YtaggpodckafbgaaGreatDoorZA0
/- The reference's Verify (layer 5), where the bytes or the key are none: the walk. -/
namespace Go.Proofs.YtaggpodckafbgaaGreatDoor
open Go.RowKit
set_option maxRecDepth 100000 in
theorem rver_len (kx ky s sig : ByteArray) (w : World) (h : sig.size ≠ 64) : Calls Tryz.prog 20 #[.agg (kvc kx ky), .string s, .string sig] w fun e w' => e = .returned (.bool false) ∧ Below w.heap.size w w' := by
  have hb : ((sig.size : Int) != 64) = true := by rw [bne_iff_ne]; omega
  have hR0 := Rws.start w
  go_enter Tryz.func20, Tryz.ntmps20
  go_wp2_with (first | (refine wpList_box_rws rfl _ _ (by rfl) (by assumption) _ rfl ?_; intro gp w1 hR) | (refine wpList_alloc_rws rfl _ (by rfl) (by assumption) _ (by first | exact zero_pt | exact zero_ln | exact zero_key) ?_; intro gr w1 hR) | (refine wF_load rfl (by rfl) (by assumption) rfl (by repeat (first | exact pzH | refine pzM ?_)) (by first | exact c3_0 | exact c3_1 | exact c3_2 | exact c2_0 | exact c2_1) (by first | exact isAgg_b | exact isAgg_q | exact isAgg_str) ?_) | (refine wQ_load rfl (by rfl) (by assumption) rfl (by repeat (first | exact pzH | refine pzM ?_)) (by first | rfl | exact PtC.size (by assumption)) ?_) | (refine wQ_loadL rfl (by rfl) (by assumption) rfl (by repeat (first | exact pzH | refine pzM ?_)) (by first | rfl | exact LnC.size (by assumption)) ?_))
  go_ret
  exact ⟨rfl, Rws.below (by assumption)⟩
set_option maxRecDepth 100000 in
theorem rver_chk (kx ky s sig : ByteArray) (w : World) (h : sig.size = 64) (hk : checkB kx ky = false) : Calls Tryz.prog 20 #[.agg (kvc kx ky), .string s, .string sig] w fun e w' => e = .returned (.bool false) ∧ Below w.heap.size w w' := by
  have hb : ((sig.size : Int) != 64) = false := by rw [bne_eq_false_iff_eq]; omega
  have HC := Lib.hid (fun w => rcheck_any kx ky w)
  rw [hk] at HC
  clear h hk
  have hR0 := Rws.start w
  go_enter Tryz.func20, Tryz.ntmps20
  go_upto_region 1 with (first | (refine wpList_box_rws rfl _ _ (by rfl) (by assumption) _ rfl ?_; intro gp w1 hR) | (refine wpList_alloc_rws rfl _ (by rfl) (by assumption) _ (by first | exact zero_pt | exact zero_ln | exact zero_key) ?_; intro gr w1 hR) | (refine wF_load rfl (by rfl) (by assumption) rfl (by repeat (first | exact pzH | refine pzM ?_)) (by first | exact c3_0 | exact c3_1 | exact c3_2 | exact c2_0 | exact c2_1) (by first | exact isAgg_b | exact isAgg_q | exact isAgg_str) ?_) | (refine wQ_load rfl (by rfl) (by assumption) rfl (by repeat (first | exact pzH | refine pzM ?_)) (by first | rfl | exact PtC.size (by assumption)) ?_) | (refine wQ_loadL rfl (by rfl) (by assumption) rfl (by repeat (first | exact pzH | refine pzM ?_)) (by first | rfl | exact LnC.size (by assumption)) ?_))
  have cx : w1.cell? ⟨gp, 0, none⟩ = some (.string kx) := hR.cellAt (List.Mem.head _) 0 rfl
  have cy : w1.cell? ⟨gp, 1, none⟩ = some (.string ky) := hR.cellAt (List.Mem.head _) 1 rfl
  go_wp2_with fail
  refine (HC.out _).mono ?_
  rintro e w2 ⟨rfl, hb1⟩
  have hR := Rws.call (by assumption) hb1
  go_wp2_with fail
  go_ret
  exact ⟨rfl, hR.below⟩
theorem inv_only {n a x : Nat} (hn : Ec.Prime n) (ha : a % n ≠ 0) (hx : x < n) (h : x * a % n = 1) : x = Ec.ivN n a := by
  have h1 := Ec.ivN_ok hn ha
  have h2 := Ec.ivN_lt hn a
  have hc : Nat.Coprime a n := hn.coprime (fun hd => ha (Nat.mod_eq_zero_of_dvd hd))
  have h3 : a * x % n = a * Ec.ivN n a % n := by rw [h1, Nat.mul_comm]; exact h
  have h4 := Ec.cancel_mod hc h3
  rwa [Nat.mod_eq_of_lt hx, Nat.mod_eq_of_lt h2] at h4
section
variable {B : Nat} {w0 ws : World} {L : List (Nat × Array Value × TypeId)} {a0 : Act} {K : Act → World → Prop} {n : Nat} {l : List Oper} {o : Oper} {Γ : Env}
theorem s_cuth {t : TypeId} {x : Operand} {c : Value} {s r : ByteArray} (ho : o.op = .slice t x none (some (.const c)) none) (hx : Has ws a0 Γ x (Is (.string s))) (hr : ∀ w : World, (Instr.sliceAt t (.string s) none (some c) none).run Tryz.prog w = .ok (.string r) w)
    (h : softW Tryz.prog B w0 ws L a0 K n l ((o.dst, Is (.string r)) :: Γ)) : softW Tryz.prog B w0 ws L a0 K (n + 1) (o :: l) Γ :=
  s_any (stb_is _) (fun w e _ hb hat => by
    have h1 : e x = .string s := hx w _ hb (hat x (by rw [ho]; exact Array.mem_def.2 (List.Mem.head _)))
    have h2 : e (.const c) = c := hat (.const c) (by rw [ho]; exact Array.mem_def.2 (List.Mem.tail _ (List.Mem.head _)))
    unfold execOp
    simp only [ho, Option.map_none, Option.map_some, h1, h2]
    rw [Sem.run_bind, hr w]
    exact ⟨rfl, Below.refl _ _⟩) h
theorem s_cutl {t : TypeId} {x : Operand} {c : Value} {s r : ByteArray} (ho : o.op = .slice t x (some (.const c)) none none) (hx : Has ws a0 Γ x (Is (.string s))) (hr : ∀ w : World, (Instr.sliceAt t (.string s) (some c) none none).run Tryz.prog w = .ok (.string r) w)
    (h : softW Tryz.prog B w0 ws L a0 K n l ((o.dst, Is (.string r)) :: Γ)) : softW Tryz.prog B w0 ws L a0 K (n + 1) (o :: l) Γ :=
  s_any (stb_is _) (fun w e _ hb hat => by
    have h1 : e x = .string s := hx w _ hb (hat x (by rw [ho]; exact Array.mem_def.2 (List.Mem.head _)))
    have h2 : e (.const c) = c := hat (.const c) (by rw [ho]; exact Array.mem_def.2 (List.Mem.tail _ (List.Mem.head _)))
    unfold execOp
    simp only [ho, Option.map_none, Option.map_some, h1, h2]
    rw [Sem.run_bind, hr w]
    exact ⟨rfl, Below.refl _ _⟩) h
end
end Go.Proofs.YtaggpodckafbgaaGreatDoor
/- The reference's Verify (layer 5): the walk. -/
namespace Go.Proofs.YtaggpodckafbgaaGreatDoor
open Go.RowKit
set_option maxRecDepth 100000 in
set_option maxHeartbeats 3200000 in
theorem rver_at (kx ky s sig : ByteArray) (x y : Ec.F) (w : World) (hA : inK kx ky = some (.at x y)) (hl : sig.size = 64) (hs : s.size + 80 ≤ 140737488355328) :
    Calls Tryz.prog 20 #[.agg (kvc kx ky), .string s, .string sig] w fun e w' => e = .returned (.bool (Ec.verP (.at x y) (nv (sha s)) (nv (sig.extract 0 32)) (nv (sig.extract 32 sig.size)))) ∧ Below w.heap.size w w' := by
  have hb64 : ((sig.size : Int) != 64) = false := by rw [bne_eq_false_iff_eq]; omega
  have hck : checkB kx ky = true := by unfold checkB; rw [hA]
  have HC := Lib.hid (fun w => rcheck_any kx ky w)
  rw [hck] at HC
  have H1 := Lib.hid (fun w => in_some hA w)
  have oA : (Ec.Pt.at x y).on Ec.cb := inK_on hA
  obtain ⟨s1, hs1⟩ : ∃ s1, s1 = sig.extract 0 32 := ⟨_, rfl⟩
  obtain ⟨s2, hs2⟩ : ∃ s2, s2 = sig.extract 32 sig.size := ⟨_, rfl⟩
  have hz1 : s1.size = 32 := by rw [hs1, ByteArray.size_extract]; omega
  have hz2 : s2.size = 32 := by rw [hs2, ByteArray.size_extract]; omega
  have hc1 : ∀ w : World, (Instr.sliceAt 9 (.string sig) none (some (.int .i64 ((32 : Nat) : Int))) none).run Tryz.prog w = .ok (.string s1) w := by rw [hs1]; exact run_cutS_h Tryz.underlying9 (by omega)
  have hc2 : ∀ w : World, (Instr.sliceAt 9 (.string sig) (some (.int .i64 ((32 : Nat) : Int))) none none).run Tryz.prog w = .ok (.string s2) w := by rw [hs2]; exact run_cutS_l Tryz.underlying9 (by omega)
  rw [← hs1, ← hs2]
  obtain ⟨r, hr⟩ : ∃ r, r = nv s1 := ⟨_, rfl⟩
  obtain ⟨t, ht⟩ : ∃ t, t = nv s2 := ⟨_, rfl⟩
  have hrl : r < 115792089237316195423570985008687907853269984665640564039457584007913129639936 := by rw [hr]; exact nv_lt32 (Nat.le_of_eq hz1)
  have htl : t < 115792089237316195423570985008687907853269984665640564039457584007913129639936 := by rw [ht]; exact nv_lt32 (Nat.le_of_eq hz2)
  have hrd1 : ∀ w : World, Calls Tryz.prog 34 #[.string s1] w fun e w' => ∃ u, e = .returned u ∧ QVp r w' u ∧ Below w.heap.size w w' := fun w => by
    have h := qread_any s1 w (by omega)
    rw [show bv s1.data.toList = r from hr.symm] at h
    exact h.mono fun e w' ⟨ro, k, c, he, hq, hb⟩ => ⟨_, he, QV.mk hq hrl, hb⟩
  have hrd2 : ∀ w : World, Calls Tryz.prog 34 #[.string s2] w fun e w' => ∃ u, e = .returned u ∧ QVp t w' u ∧ Below w.heap.size w w' := fun w => by
    have h := qread_any s2 w (by omega)
    rw [show bv s2.data.toList = t from ht.symm] at h
    exact h.mono fun e w' ⟨ro, k, c, he, hq, hb⟩ => ⟨_, he, QV.mk hq htl, hb⟩
  rw [← hr, ← ht]
  have HC1 := Lib.hid hc1; have HC2 := Lib.hid hc2; have HR1 := Lib.hid hrd1; have HR2 := Lib.hid hrd2
  have HOA := Lib.hid oA; have HRL := Lib.hid hrl; have HTL := Lib.hid htl
  clear hc1 hc2 hrd1 hrd2 hr ht hs1 hs2 hz1 hz2 hck hA oA hrl htl hl
  have hR0 := Rws.start w
  go_enter Tryz.func20, Tryz.ntmps20
  go_upto_region 1 with (first | (refine wpList_box_rws rfl _ _ (by rfl) (by assumption) _ rfl ?_; intro gp w1 hR) | (refine wpList_alloc_rws rfl _ (by rfl) (by assumption) _ (by first | exact zero_pt | exact zero_ln | exact zero_key) ?_; intro gr w1 hR) | (refine wF_load rfl (by rfl) (by assumption) rfl (by repeat (first | exact pzH | refine pzM ?_)) (by first | exact c3_0 | exact c3_1 | exact c3_2 | exact c2_0 | exact c2_1) (by first | exact isAgg_b | exact isAgg_q | exact isAgg_str) ?_) | (refine wQ_load rfl (by rfl) (by assumption) rfl (by repeat (first | exact pzH | refine pzM ?_)) (by first | rfl | exact PtC.size (by assumption)) ?_) | (refine wQ_loadL rfl (by rfl) (by assumption) rfl (by repeat (first | exact pzH | refine pzM ?_)) (by first | rfl | exact LnC.size (by assumption)) ?_))
  have cx : w1.cell? ⟨gp, 0, none⟩ = some (.string kx) := hR.cellAt (List.Mem.head _) 0 rfl
  have cy : w1.cell? ⟨gp, 1, none⟩ = some (.string ky) := hR.cellAt (List.Mem.head _) 1 rfl
  go_wp2_with fail
  refine (HC.out _).mono ?_
  rintro e w2 ⟨rfl, hb1⟩
  have hR := Rws.call (by assumption) hb1
  clear cx cy hb1
  go_wp2_with (first | (refine wpList_box_rws rfl _ _ (by rfl) (by assumption) _ rfl ?_; intro gp w1 hR) | (refine wpList_alloc_rws rfl _ (by rfl) (by assumption) _ (by first | exact zero_pt | exact zero_ln | exact zero_key) ?_; intro gr w1 hR) | (refine wF_load rfl (by rfl) (by assumption) rfl (by repeat (first | exact pzH | refine pzM ?_)) (by first | exact c3_0 | exact c3_1 | exact c3_2 | exact c2_0 | exact c2_1) (by first | exact isAgg_b | exact isAgg_q | exact isAgg_str) ?_) | (refine wQ_load rfl (by rfl) (by assumption) rfl (by repeat (first | exact pzH | refine pzM ?_)) (by first | rfl | exact PtC.size (by assumption)) ?_) | (refine wQ_loadL rfl (by rfl) (by assumption) rfl (by repeat (first | exact pzH | refine pzM ?_)) (by first | rfl | exact LnC.size (by assumption)) ?_) | (refine wK_load rfl (by rfl) (by assumption) rfl (by repeat (first | exact pzH | refine pzM ?_)) rfl ?_))
  refine (H1.out _).mono ?_
  rintro e w3 ⟨pva, rfl, hpa, hb1⟩
  have hR := Rws.call (by assumption) hb1
  clear hb1
  go_upto_region 4 with (first | (refine wA_alloc rfl _ (by rfl) (by assumption) _ zero_pt ?_; intro ga w1 hR hbA; have hpa := hpa.below hbA) | (refine wB_store rfl (by rfl) (by assumption) rfl rfl (by repeat (first | exact Pick.here | apply Pick.there)) (by exact pt_info hpa.size) (by rw [hpa.size]; rfl) (by exact hpa.cells) ?_; intro w1 hR hbt hrr; have hpa := hpa.but hbt hrr zpt_noint))
  refine wp_region_soft 6 (by kernel_rfl) (by kernel_rfl) (by rfl) (by assumption) ?_
  refine s_move (by rfl) (stb_is (.string sig)) (by exact fun _ _ _ h => h) ?_
  refine s_cuth (by rfl) (by exact fun _ _ _ h => h) HC1.out ?_
  refine s_call1 (by rfl) Tryz.func34 (by kernel_rfl) rfl (stb_q r) (A := Is (.string s1)) (by exact fun _ _ _ h => h) (fun w u h => by obtain rfl : u = .string s1 := h; exact HR1.out w) ?_
  refine s_move (by rfl) (stb_is (.string sig)) (by exact fun _ _ _ h => h) ?_
  refine s_cutl (by rfl) (by exact fun _ _ _ h => h) HC2.out ?_
  refine s_call1 (by rfl) Tryz.func34 (by kernel_rfl) rfl (stb_q t) (A := Is (.string s2)) (by exact fun _ _ _ h => h) (fun w u h => by obtain rfl : u = .string s2 := h; exact HR2.out w) ?_
  intro w5 hR5 hb5 v26 h26 v27 h27 v28 h28 v29 h29 v30 h30 v31 h31
  simp only [softEnd, Act.put, List.setIfInBounds_toArray, List.set_cons_succ, List.set_cons_zero, List.drop_succ_cons, List.drop_zero]
  clear h26 h27 h29 h30
  have hpa5 := hpa.below hb5
  obtain ⟨ro, rn, rc, rfl, hqr, hrn⟩ := h28
  obtain ⟨tq, tn, tc, rfl, hqt, htn⟩ := h31
  have HF1 := Lib.hid (fun w (h : QN w ro rn rc r) => rfine_any ro rn rc r w h)
  have HF2 := Lib.hid (fun w (h : QN w tq tn tc t) => rfine_any tq tn tc t w h)
  clear hpa hR hb5
  by_cases hr : r ≠ 0 ∧ r < Ec.N
  · rw [decide_eq_true hr] at HF1
    by_cases ht : t ≠ 0 ∧ t < Ec.N
    · rw [decide_eq_true ht] at HF2
      have hpp : pp 1 = Ec.N := if_neg (by decide)
      have hgcd : Nat.gcd (t % pp 1) (pp 1) = 1 := by
        rw [hpp, Nat.mod_eq_of_lt ht.2]
        exact Ec.hN.coprime (fun hd => by have := Nat.le_of_dvd (by omega) hd; omega)
      have HI := Lib.hid (fun w V (h : QV w V t) => qinv_any 1 V t w h hgcd)
      have HIV : Hid (∀ z, z < pp 1 → z * t % pp 1 = 1 → z = Ec.ivN Ec.N t) := fun z h1 h2 => by
        rw [hpp] at h1 h2
        exact inv_only Ec.hN (by rw [Nat.mod_eq_of_lt ht.2]; exact ht.1) h1 h2
      have HRT := Lib.hid (show (r ≠ 0 ∧ r < Ec.N) ∧ t ≠ 0 ∧ t < Ec.N from ⟨hr, ht⟩)
      have HPP := Lib.hid hpp
      clear hr ht hgcd hpp
      go_wp2_with fail
      refine (HF1.out _ hqr).mono ?_
      rintro e w6 ⟨rfl, hb6⟩
      have hR6 := hR5.call hb6
      have hqr6 := hqr.below hb6 (Nat.le_refl _)
      have hqt6 := hqt.below hb6 (Nat.le_refl _)
      have hpa6 := hpa5.below hb6
      clear hR5 hqr hqt hpa5
      go_wp2_with fail
      refine (HF2.out _ hqt6).mono ?_
      rintro e w7 ⟨rfl, hb7⟩
      have hR7 := hR6.call hb7
      have hqr7 := hqr6.below hb7 (Nat.le_refl _)
      have hqt7 := hqt6.below hb7 (Nat.le_refl _)
      have hpa7 := hpa6.below hb7
      clear hR6 hqr6 hqt6 hpa6
      go_wp2_with fail
      refine (HI.out _ _ ⟨_, _, _, rfl, hqt7, htn⟩).mono ?_
      rintro e w8 ⟨z, i, rfl, hz, hi, hit, hb8⟩
      obtain rfl := HIV.out i hi hit
      obtain ⟨i, hie⟩ : ∃ i, i = Ec.ivN Ec.N t := ⟨_, rfl⟩
      rw [← hie] at hz hi
      have hil : i < 115792089237316195423570985008687907853269984665640564039457584007913129639936 := Nat.lt_trans hi (pp_big 1).1
      have hR8 := hR7.call hb8
      have hqr8 : QV w8 (.slice ro rn rc) r := ⟨_, _, _, rfl, hqr7.below hb8 (Nat.le_refl _), hrn⟩
      have hpa8 := hpa7.below hb8
      have HIE := Lib.hid hie
      obtain ⟨h, hh⟩ : ∃ h, h = nv (sha s) % pp 1 := ⟨_, rfl⟩
      have hhl : h < 115792089237316195423570985008687907853269984665640564039457584007913129639936 := by rw [hh]; exact Nat.lt_trans (Nat.mod_lt _ (pp_pos 1)) (pp_big 1).1
      have HSM : Hid (∀ w : World, Calls Tryz.prog 55 #[.string s] w fun e w' => ∃ u, e = .returned u ∧ QVp h w' u ∧ Below w.heap.size w w') := fun w => by
        have h1 := rsumh_any s w hs
        rw [← hh] at h1
        exact h1.mono fun e w' ⟨ro, k, c, he, hq, hb⟩ => ⟨_, he, QV.mk hq hhl, hb⟩
      have HPR : Hid (∀ (a b : Nat) (w : World) (v u : Value), a < 115792089237316195423570985008687907853269984665640564039457584007913129639936 → b < 115792089237316195423570985008687907853269984665640564039457584007913129639936 → QV w v a → QV w u b → Calls Tryz.prog 54 #[.int .i64 1, v, u] w fun e w' => ∃ z, e = .returned z ∧ QVp (a * b % pp 1) w' z ∧ Below w.heap.size w w') := fun a b w v u ha hb h1 h2 => by
        obtain ⟨_, _, _, rfl, hq1, _⟩ := h1
        obtain ⟨_, _, _, rfl, hq2, _⟩ := h2
        exact (qprod_any 1 _ _ _ _ _ _ _ _ w hq1 hq2 ha hb).mono fun e w' ⟨ro, k, c, he, hq, hbl⟩ => ⟨_, he, QV.mk hq (Nat.lt_trans (Nat.mod_lt _ (pp_pos 1)) (pp_big 1).1), hbl⟩
      have HFG := Lib.hid (fun v w V U (h1 : PtV Ec.G w V) (h2 : QV w U v) => rfast_any V U Ec.G v w Ec.G_on h1 h2)
      have HFA := Lib.hid (fun v w V U (h1 : PtV (.at x y) w V) (h2 : QV w U v) => rfast_any V U (.at x y) v w HOA.out h1 h2)
      obtain ⟨u1, hu1⟩ : ∃ u1, u1 = h * i % pp 1 := ⟨_, rfl⟩
      obtain ⟨u2, hu2⟩ : ∃ u2, u2 = r * i % pp 1 := ⟨_, rfl⟩
      have HP1 : Hid (∀ (w : World) (v u : Value), QV w v h → QV w u i → Calls Tryz.prog 54 #[.int .i64 1, v, u] w fun e w' => ∃ z, e = .returned z ∧ QVp u1 w' z ∧ Below w.heap.size w w') := fun w v u h1 h2 => by rw [hu1]; exact HPR.out _ _ w v u hhl hil h1 h2
      have HP2 : Hid (∀ (w : World) (v u : Value), QV w v r → QV w u i → Calls Tryz.prog 54 #[.int .i64 1, v, u] w fun e w' => ∃ z, e = .returned z ∧ QVp u2 w' z ∧ Below w.heap.size w w') := fun w v u h1 h2 => by rw [hu2]; exact HPR.out _ _ w v u HRL.out hil h1 h2
      obtain ⟨A1, hA1⟩ : ∃ A1, A1 = Ec.mulN Ec.G u1 := ⟨_, rfl⟩
      obtain ⟨A2, hA2⟩ : ∃ A2, A2 = Ec.mulN (.at x y) u2 := ⟨_, rfl⟩
      have oA1 : A1.on Ec.cb := by rw [hA1]; exact Ec.on_mulN Ec.hP Ec.G_on u1
      have oA2 : A2.on Ec.cb := by rw [hA2]; exact Ec.on_mulN Ec.hP HOA.out u2
      have HSU := Lib.hid (fun w V U (h1 : PtV A1 w V) (h2 : PtV A2 w U) => rsum_any V U A1 A2 w oA1 oA2 h1 h2)
      have HM1 : Hid (∀ w V U, PtV Ec.G w V → QV w U u1 → Calls Tryz.prog 46 #[V, U] w (RetPt w A1)) := fun w V U h1 h2 => by rw [hA1]; exact HFG.out u1 w V U h1 h2
      have HM2 : Hid (∀ w V U, PtV (.at x y) w V → QV w U u2 → Calls Tryz.prog 46 #[V, U] w (RetPt w A2)) := fun w V U h1 h2 => by rw [hA2]; exact HFA.out u2 w V U h1 h2
      have HBA := Lib.hid (fun w => rbase_any w)
      have HVER : Hid (Ec.verP (.at x y) (nv (sha s)) r t = decide (Ec.xN (Ec.addA A1 A2) = some r)) := by
        unfold Ec.verP
        have e1 : A1 = Ec.nA Ec.G (nv (sha s) * Ec.ivN Ec.N t % Ec.N) := by
          rw [hA1, Ec.mulN_nA Ec.G_on, hu1, HPP.out, HIE.out, hh, HPP.out, Nat.mod_mul_mod]
        have e2 : A2 = Ec.nA (.at x y) (r * Ec.ivN Ec.N t % Ec.N) := by
          rw [hA2, Ec.mulN_nA HOA.out, hu2, HPP.out, HIE.out]
        rw [← e1, ← e2]
        exact decide_eq_decide.2 ⟨fun h => h.2.2.2.2, fun h => ⟨HRT.out.1.1, HRT.out.1.2, HRT.out.2.1, HRT.out.2.2, h⟩⟩
      clear hA1 hA2 oA1 oA2 hu1 hu2 hh hhl hil hie hi hit hR7 hqr7 hqt7 hpa7
      go_upto_region 8 with fail
      refine wp_region_soft 13 (by kernel_rfl) (by kernel_rfl) (by rfl) (by assumption) ?_
      refine s_call (xs := []) (by rfl) Tryz.func53 (by kernel_rfl) rfl (stb_pt Ec.G) (fun w e _ _ => HBA.out w) ?_
      refine s_move (by rfl) (stb_is (.string s)) (by exact fun _ _ _ h => h) ?_
      refine s_call1 (by rfl) Tryz.func55 (by kernel_rfl) rfl (stb_q h) (A := Is (.string s)) (by exact fun _ _ _ h => h) (fun w u h => by obtain rfl : u = .string s := h; exact HSM.out w) ?_
      refine s_move (by rfl) (stb_q i) (by exact has_fix (fun _ _ h => h) hz) ?_
      refine s_call (xs := [.const (.int .i64 1), .tmp 44, .tmp 45]) (by rfl) Tryz.func54 (by kernel_rfl) rfl (stb_q u1) (fun w e _ hat => by
        have h0 : e (.const (.int .i64 1)) = .int .i64 1 := hat _ (List.Mem.head _)
        have h1 : QV w (e (.tmp 44)) h := hat _ (List.Mem.tail _ (List.Mem.head _))
        have h2 : QV w (e (.tmp 45)) i := hat _ (List.Mem.tail _ (List.Mem.tail _ (List.Mem.head _)))
        show Calls _ _ #[e (.const (.int .i64 1)), e (.tmp 44), e (.tmp 45)] w _
        rw [h0]
        exact HP1.out w _ _ h1 h2) ?_
      refine s_call2 (by rfl) Tryz.func46 (by kernel_rfl) rfl (stb_pt A1) (A := PtV Ec.G) (A' := QVp u1) (by exact fun _ _ _ h => h) (by exact fun _ _ _ h => h) (fun w v u h1 h2 => HM1.out w v u h1 h2) ?_
      refine s_ldp (by rfl) (by exact fun _ _ _ h => h) (by repeat (first | exact pzH | refine pzM ?_)) hpa8 ?_
      refine s_move (by rfl) (stb_q r) (by exact has_fix (fun _ _ h => h) hqr8) ?_
      refine s_move (by rfl) (stb_q i) (by exact has_fix (fun _ _ h => h) hz) ?_
      refine s_call (xs := [.const (.int .i64 1), .tmp 49, .tmp 50]) (by rfl) Tryz.func54 (by kernel_rfl) rfl (stb_q u2) (fun w e _ hat => by
        have h0 : e (.const (.int .i64 1)) = .int .i64 1 := hat _ (List.Mem.head _)
        have h1 : QV w (e (.tmp 49)) r := hat _ (List.Mem.tail _ (List.Mem.head _))
        have h2 : QV w (e (.tmp 50)) i := hat _ (List.Mem.tail _ (List.Mem.tail _ (List.Mem.head _)))
        show Calls _ _ #[e (.const (.int .i64 1)), e (.tmp 49), e (.tmp 50)] w _
        rw [h0]
        exact HP2.out w _ _ h1 h2) ?_
      refine s_call2 (by rfl) Tryz.func46 (by kernel_rfl) rfl (stb_pt A2) (A := PtV (.at x y)) (A' := QVp u2) (by exact fun _ _ _ h => h) (by exact fun _ _ _ h => h) (fun w v u h1 h2 => HM2.out w v u h1 h2) ?_
      refine s_call2 (by rfl) Tryz.func42 (by kernel_rfl) rfl (stb_pt (Ec.addA A1 A2)) (A := PtV A1) (A' := PtV A2) (by exact fun _ _ _ h => h) (by exact fun _ _ _ h => h) (fun w v u h1 h2 => HSU.out w v u h1 h2) ?_
      refine s_alloc (by rfl) zero_pt ?_
      intro w9 hR9 hb9 v42 h42 v43 h43 v44 h44 v45 h45 v46 h46 v47 h47 v48 h48 v49 h49 v50 h50 v51 h51 v52 h52 v53 h53 v12 h12
      simp only [softEnd, Act.put, List.setIfInBounds_toArray, List.set_cons_succ, List.set_cons_zero, List.drop_succ_cons, List.drop_zero]
      clear h42 h43 h44 h45 h46 h47 h48 h49 h50 h51 h52
      have hqr9 := hqr8.below hb9
      clear hqr8 hz hpa8 hR8
      obtain ⟨R, hRe⟩ : ∃ R, R = Ec.addA A1 A2 := ⟨_, rfl⟩
      rw [← hRe] at h53 HVER
      obtain ⟨rv, rfl, hrc9⟩ := h53
      clear hRe
      obtain ⟨g12, rfl, hB12, hrow12, hne12⟩ := h12
      have hR9 := hR9.add hB12 hrow12 hne12
      go_upto_region 9 with (first | (refine wB_store rfl (by rfl) hR9 rfl rfl (by repeat (first | exact Pick.here | apply Pick.there)) (by exact pt_info hrc9.size) (by rw [hrc9.size]; rfl) (by exact hrc9.cells) ?_; intro w11 hR11 hbt hrr; have hrc11 := hrc9.but hbt hrr zpt_noint; have hqr11 := hqr9.but hbt hrr zpt_noint))
      have hb11 := hR11.below
      cases R with
      | inf =>
        obtain rfl : rv = #[.bool true, nilS, nilS] := hrc11
        have c0 : w11.cell? ⟨g12, 0, none⟩ = some (.bool true) := hR11.cellAt (List.Mem.head _) 0 rfl
        have hv : decide (Ec.xN (.inf : Ec.Pt Ec.P) = some r) = false := decide_eq_false (fun h => by cases h)
        have HV := Lib.hid hv
        clear hv
        go_quiet (fail)
        go_wp2_with fail
        go_ret
        exact ⟨by rw [HVER.out, HV.out]; rfl, below_drewN hb11 nq⟩
      | «at» X Y =>
        obtain ⟨Xv, Yv, rfl, hX, hY⟩ := hrc11
        obtain ⟨xo, xn, xc, rfl, hqx, hxn⟩ := hX
        have c0 : w11.cell? ⟨g12, 0, none⟩ = some (.bool false) := hR11.cellAt (List.Mem.head _) 0 rfl
        have c1 : w11.cell? ⟨g12, 1, none⟩ = some (.slice xo xn xc) := hR11.cellAt (List.Mem.head _) 1 rfl
        obtain ⟨vx, hvx⟩ : ∃ vx, vx = X.val := ⟨_, rfl⟩
        obtain ⟨lx, hlx⟩ : ∃ lx, lx = vx % pp 1 := ⟨_, rfl⟩
        rw [← hvx] at hqx
        have hg12 : g12 < w11.heap.size := hR11.lt (List.Mem.head _)
        obtain ⟨ro2, rn2, rc2, hre, hqr11, hrn2⟩ := hqr11
        obtain ⟨rfl, rfl, rfl⟩ : ro = ro2 ∧ rn = rn2 ∧ rc = rc2 := by injection hre with h1 h2 h3; exact ⟨h1, h2, h3⟩
        have hfin : decide (cmpN lx r = 0) = decide (Ec.xN (.at X Y) = some r) := by
          refine decide_eq_decide.2 ⟨fun h => ?_, fun h => ?_⟩
          · show some (X.val % Ec.N) = some r
            rw [← hvx, ← HPP.out, ← hlx]
            unfold cmpN at h
            split at h
            · exact absurd h (by decide)
            · split at h
              · congr 1
              · exact absurd h (by decide)
          · have h2 : X.val % Ec.N = r := Option.some.inj h
            rw [hlx, hvx, HPP.out, h2]; exact cmpN_eq r
        obtain ⟨cc, hcc⟩ : ∃ cc, cc = cmpN lx r := ⟨_, rfl⟩
        rw [← hcc] at hfin
        have HFIN := Lib.hid hfin; have HLX := Lib.hid hlx; have HCC := Lib.hid hcc
        clear hfin hlx hcc hvx hre hqr9 hrc9 hR9
        have hqxD : QN w11.drew xo xn xc vx := ⟨hqx.len, ⟨hqx.rd.sh, hqx.rd.le, hqx.rd.cm, fun i hi => hqx.rd.cell i hi⟩⟩
        have hqrD : QN w11.drew ro rn rc r := ⟨hqr11.len, ⟨hqr11.rd.sh, hqr11.rd.le, hqr11.rd.cm, fun i hi => hqr11.rd.cell i hi⟩⟩
        go_region_with (first
          | (go_at_call 36; refine (qmod_any 1 _).mono ?_; rintro e wM ⟨mo, mn, mc, rfl, hmq, hmb⟩; have hmn := pp_size hmq; have c1M := (hmb.cell (p := ⟨g12, 1, none⟩) hg12).trans c1; have hqxM := hqxD.below hmb (Nat.le_refl _); have hqrM := hqrD.below hmb (Nat.le_refl _))
          | (go_at_call 56; refine (qleft_any _ _ _ _ _ _ _ _ _ hqxM hmq (pp_pos 1) (by omega) (by omega)).mono ?_; rintro e wL ⟨lo, ln, lc, rfl, hlq, hlb⟩; rw [← HLX.out] at hlq)
          | (go_at_call 35; have hcm := qcmp_any _ _ _ _ _ _ _ _ _ hlq (hqrM.below hlb (Nat.le_refl _)); rw [← HCC.out] at hcm; refine hcm.mono ?_; rintro e wC ⟨rfl, qC, rfl⟩))
        all_goals (
          go_wp2_with fail
          go_ret
          exact ⟨by rw [HVER.out, ← HFIN.out]; rfl, below_drewN ((hb11.drew.trans (hmb.mono hb11.size)).trans (hlb.mono (Nat.le_trans hb11.size hmb.size))) qC⟩)
    · rw [decide_eq_false ht] at HF2
      have hv : Ec.verP (.at x y) (nv (sha s)) r t = false := by unfold Ec.verP; exact decide_eq_false (fun h => ht ⟨h.2.2.1, h.2.2.2.1⟩)
      have HV := Lib.hid hv
      clear hv hr ht
      go_wp2_with fail
      refine (HF1.out _ hqr).mono ?_
      rintro e w6 ⟨rfl, hb6⟩
      have hR6 := hR5.call hb6
      have hqt6 := hqt.below hb6 (Nat.le_refl _)
      go_wp2_with fail
      refine (HF2.out _ hqt6).mono ?_
      rintro e w7 ⟨rfl, hb7⟩
      have hR7 := hR6.call hb7
      go_wp2_with fail
      go_ret
      exact ⟨by rw [HV.out]; rfl, hR7.below⟩
  · rw [decide_eq_false hr] at HF1
    have hv : Ec.verP (.at x y) (nv (sha s)) r t = false := by unfold Ec.verP; exact decide_eq_false (fun h => hr ⟨h.1, h.2.1⟩)
    have HV := Lib.hid hv
    clear hv hr
    go_wp2_with fail
    refine (HF1.out _ hqr).mono ?_
    rintro e w6 ⟨rfl, hb6⟩
    have hR6 := hR5.call hb6
    go_wp2_with fail
    go_ret
    exact ⟨by rw [HV.out]; rfl, hR6.below⟩
end Go.Proofs.YtaggpodckafbgaaGreatDoor
/- The reference's Verify (layer 5): what it answers. -/
namespace Go.Proofs.YtaggpodckafbgaaGreatDoor
open Go.RowKit
theorem rverify_any (kx ky s sig : ByteArray) (w : World) (hs : s.size + 80 ≤ 140737488355328) :
    Calls Tryz.prog 20 #[.agg (kvc kx ky), .string s, .string sig] w fun e w' => e = .returned (.bool (verR kx ky s sig)) ∧ Below w.heap.size w w' := by
  by_cases hl : sig.size = 64
  · unfold verR
    cases hK : inK kx ky with
    | none => exact rver_chk kx ky s sig w hl (by unfold checkB; rw [hK])
    | some A =>
      cases A with
      | inf => exact rver_chk kx ky s sig w hl (by unfold checkB; rw [hK])
      | «at» x y =>
        simp only [if_pos hl]
        exact rver_at kx ky s sig x y w hK hl hs
  · have e : verR kx ky s sig = false := by
      unfold verR
      split
      · rw [if_neg hl]
      · rfl
    rw [e]
    exact rver_len kx ky s sig w hl
end Go.Proofs.YtaggpodckafbgaaGreatDoor
