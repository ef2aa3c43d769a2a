/- DerCuts: the law's walk (gen_zcuts.py). -/
import Derived.Test.YtebhiplcoioenaaGreatDoorZZLawKit
import Derived.Deep.CutBlock
namespace Go.Proofs.YtebhiplcoioenaaGreatDoor.derCuts
open Go.RowKit

theorem two_sl (w : World) (c t : Int) (k : Bool) (b : Bs) (l : Dr) (ad : Option Addr) (cp : Nat) (hb : b.length ≤ SB) (h : SlD w l ad cp) : SlD (w.alloc (.cells #[.int .i64 c, .int .i64 t, .bool k, .string (bs b), .slice ad l.len cp, .int .i64 c, .int .i64 t, .bool k, .string (bs b), .slice ad l.len cp] 24)) (.cons c t k b l (.cons c t k b l .nil)) (some ⟨w.heap.size, 0, none⟩) 2 := by
  have h2 := h.grown (b_alloc w (.cells #[.int .i64 c, .int .i64 t, .bool k, .string (bs b), .slice ad l.len cp, .int .i64 c, .int .i64 t, .bool k, .string (bs b), .slice ad l.len cp] 24))
  obtain ⟨q1, q2, b1, f1, q3, q4⟩ := h2
  exact ⟨by simp [Dr.len], by rw [MX_eq]; decide, w.heap.size, 0, Or.inl rfl, ⟨ad, cp, b1, f1, by rw [cell_new]; rfl, by rw [cell_new]; rfl, by rw [cell_new]; rfl, by rw [cell_new]; rfl, by rw [cell_new]; rfl, hb, q1, q2, q3, q4⟩, ⟨ad, cp, b1, f1, by rw [cell_new]; rfl, by rw [cell_new]; rfl, by rw [cell_new]; rfl, by rw [cell_new]; rfl, by rw [cell_new]; rfl, hb, q1, q2, q3, q4⟩, trivial⟩
set_option maxRecDepth 100000 in
set_option maxHeartbeats 8000000 in
theorem law_any (v : Dv) (ad : Option Addr) (cp : Nat) (cut : Int) (more : Bs) (w : World) (hsl : SlD w v.l ad cp) (hw : v.b.length + 4 + v.l.wt ≤ 1048576) (hc0 : -9223372036854775808 ≤ cut) (hc1 : cut ≤ 9223372036854775807) (hs : more.length ≤ 1048576) (hg : Gd w) : Calls Tryz.prog 5 #[dvv v ad cp, .int .i64 cut, .string (bs more)] w (RetB true w) := by
  have hSB := SB_eq
  have hMX := MX_eq
  have hR := Rws.start w
  have HG := Lib.hid hg
  have HFX : Hid (∀ u, Below w.heap.size w u → Calls Tryz.prog 13 #[] u (RetB true u)) := Lib.hid fun u hu => fixed_any u (hg.below hu)
  have HPR : Hid (∀ u, Below w.heap.size w u → Calls Tryz.prog 14 #[dvv v ad cp] u fun e w' => e = .returned (.tuple #[.string (bs v.print.1), .int .i64 v.print.2]) ∧ Below u.heap.size u w') := Lib.hid fun u hu => Print_any v ad cp u hw (hsl.grown hu) (hg.below hu)
  have HSL := Lib.hid hsl
  clear hg hw hsl
  by_cases he : v.check = 0
  · have hfl : v.form.length ≤ 16384 := (Dv.check_ok he).2
    have HCK := Lib.hid he
    rw [print_ok he] at HPR
    obtain ⟨S, hS⟩ : ∃ S, S = v.form := ⟨_, rfl⟩
    have HS := Lib.hid hS
    rw [← hS] at HPR hfl
    have HPX : Hid (∀ T u, T.length ≤ 1000000 → Below w.heap.size w u → Calls Tryz.prog 10 #[.string (bs T)] u (ParseP u (parseS T))) := Lib.hid fun T u hT hu => Parse_any T u (by omega) (HG.out.below hu)
    obtain ⟨L, hL⟩ : ∃ L, L = S.length := ⟨_, rfl⟩
    have HL := Lib.hid hL
    have zs : (bs S).size = L := by rw [hL, bs_size]
    have zm := bs_size more
    rw [← hL] at hfl
    clear he hS hL
    obtain ⟨c, t, k, b, l⟩ := v
    go_enter Tryz.func5, Tryz.ntmps5
    go_upto_region 1 with (refine wpList_box_rws rfl _ _ (by rfl) (by exact hR) (dvC ⟨c, t, k, b, l⟩ ad cp) rfl ?_; intro g3 w1 hR)
    go_upto_region 2 with (first
      | (refine wpList_load_rws rfl _ _ (by rfl) (by exact hR) g3 rfl (dvC ⟨c, t, k, b, l⟩ ad cp) _ (by repeat (first | exact List.Mem.head _ | refine List.Mem.tail _ ?_)) _ Tryz.underlying24 rfl (by kernel_rfl) ?_)
      | (go_at_call 14; refine (HPR.out _ hR.below).mono ?_; rintro e w2 ⟨rfl, hb2⟩; have hR := hR.call hb2))
    clear hb2
    go_upto_region 6 with (go_at_call 13; refine (HFX.out _ hR.below).mono ?_; rintro e w3 ⟨rfl, hb3⟩; have hR := hR.call hb3)
    clear hb3
    obtain ⟨B1, hB1⟩ : ∃ B1, B1 = decide (0 ≤ cut ∧ cut < (L : Int)) := ⟨_, rfl⟩
    have HB1 := Lib.hid hB1
    clear hB1
    go_cut [35] (fun s35 wx => s35 = .bool B1 ∧ Aside (Rws w.heap.size w wx [(g3, dvC ⟨c, t, k, b, l⟩ ad cp, 24)]))
    case first =>
      by_cases q1 : 0 ≤ cut
      · by_cases q2 : cut < (L : Int)
        · have hb : B1 = true := by rw [HB1.out]; exact decide_eq_true ⟨q1, q2⟩
          subst hb
          go_wp2_with fail
          go_meet
          exact ⟨rfl, hR⟩
        · have hb : B1 = false := by rw [HB1.out]; exact decide_eq_false (fun h => q2 h.2)
          subst hb
          go_wp2_with fail
          go_meet
          exact ⟨rfl, hR⟩
      · have hb : B1 = false := by rw [HB1.out]; exact decide_eq_false (fun h => q1 h.1)
        subst hb
        go_wp2_with fail
        go_meet
        exact ⟨rfl, hR⟩
    case rest =>
    obtain ⟨rfl, HR2⟩ := hcut
    clear hR
    go_upto_if 35 with fail
    go_cut [] (fun wx => Aside (Rws w.heap.size w wx [(g3, dvC ⟨c, t, k, b, l⟩ ad cp, 24)]))
    case first =>
      cases B1 with
      | false =>
        go_wp2_with fail
        go_meet
        exact HR2.out
      | true =>
        have hq := of_decide_eq_true HB1.out.symm
        obtain ⟨n, rfl⟩ := Int.eq_ofNat_of_zero_le hq.1
        have hnz := hq.2
        have hn : n < L := by omega
        have HPC : Hid (∀ u, Below w.heap.size w u → Calls Tryz.prog 10 #[.string ((bs S).extract 0 n)] u (ParseP u (.zero, 60))) := Lib.hid fun u hu => by
          have h1 := HPX.out (S.take n) u (by rw [List.length_take, ← HL.out]; omega) hu
          rw [parse_cut HCK.out (p := S.take n) (q := S.drop n) (by rw [List.take_append_drop]; exact HS.out.symm) (by rw [Ne, List.drop_eq_nil_iff, ← HL.out]; omega)] at h1
          rw [bs_cut, List.drop_zero]
          exact h1
        have hR := HR2.out
        clear hq
        go_upto_region 8 with (first
          | (go_at_call 10; refine (HPC.out _ hR.below).mono ?_; rintro e w5 ⟨ad2, cp2, rfl, hs2, _, hb5⟩; have hR := hR.call hb5)
          | (refine wQ_alloc (cs := dvC .zero none 0) rfl _ (by rfl) (by exact hR) zero_der ?_; intro g9 w6 hR hb6 hg6)
          | (refine wQ_store rfl _ _ _ (by rfl) (by exact hR) g9 rfl (dvC .zero ad2 cp2) (by rfl) _ _ _ (by repeat (first | exact Pick.here | apply Pick.there)) (by kernel_rfl) (by rfl) (dv_one _ _ _) ?_; intro w7 hR hsm7 hsz7))
        have HZ2 : Hid (SlD w7 .nil ad2 cp2) := Lib.hid ((hs2.kept (fun k hk _ => by rw [hsm7 k (by omega), hb6.block k hk])).sld)
        clear hs2 hb5 hb6 hg6 hsm7 hsz7
        have HSZ : Hid (∀ u, Below w7.heap.size w7 u → Calls Tryz.prog 12 #[dvv .zero ad2 cp2, dvv .zero none 0] u (RetB true u)) := Lib.hid fun u hu => same_any .zero ad2 cp2 none 0 u (HZ2.out.grown hu) (SlD.nil u)
        have q0 := hR.cellAt (g := g9) (by repeat (first | exact List.Mem.head _ | refine List.Mem.tail _ ?_)) 0 rfl
        have q1 := hR.cellAt (g := g9) (by repeat (first | exact List.Mem.head _ | refine List.Mem.tail _ ?_)) 1 rfl
        have q2 := hR.cellAt (g := g9) (by repeat (first | exact List.Mem.head _ | refine List.Mem.tail _ ?_)) 2 rfl
        have q3 := hR.cellAt (g := g9) (by repeat (first | exact List.Mem.head _ | refine List.Mem.tail _ ?_)) 3 rfl
        have q4 := hR.cellAt (g := g9) (by repeat (first | exact List.Mem.head _ | refine List.Mem.tail _ ?_)) 4 rfl
        go_wp2_with (go_at_call 12; refine (HSZ.out _ (Below.refl _ _)).mono ?_; rintro e w8 ⟨rfl, hb8⟩; have hR := hR.call hb8)
        go_meet
        exact hR.sub (List.sublist_cons_self _ _)
    case rest =>
    have HR3 := hcut
    clear HR2 HB1
    obtain ⟨B2, hB2⟩ : ∃ B2, B2 = decide (more ≠ [] ∧ L + more.length ≤ 16384) := ⟨_, rfl⟩
    have HB2 := Lib.hid hB2
    clear hB2
    have hR := HR3.out
    go_upto_region 10 with fail
    go_cut [60] (fun s60 wx => s60 = .bool B2 ∧ Aside (Rws w.heap.size w wx [(g3, dvC ⟨c, t, k, b, l⟩ ad cp, 24)]))
    case first =>
      by_cases hm : more = []
      · subst hm
        have hze : (bs ([] : Bs)).toList.isEmpty = true := by rw [bs_list]; rfl
        have hb : B2 = false := by rw [HB2.out]; rfl
        subst hb
        go_wp2_with fail
        go_meet
        exact ⟨rfl, hR⟩
      · obtain ⟨x, r, rfl⟩ := List.exists_cons_of_ne_nil hm
        clear hm
        have hze := neStr x r
        have hln : (x :: r).length = r.length + 1 := rfl
        by_cases q2 : L + (x :: r).length ≤ 16384
        · have hb : B2 = true := by rw [HB2.out]; exact decide_eq_true ⟨by simp, q2⟩
          subst hb
          have q2z : (L : Int) + ((r.length : Int) + 1) ≤ 16384 := by omega
          go_wp2_with fail
          go_meet
          exact ⟨rfl, hR⟩
        · have hb : B2 = false := by rw [HB2.out]; exact decide_eq_false (fun h => q2 h.2)
          subst hb
          have q2z : ¬ (L : Int) + ((r.length : Int) + 1) ≤ 16384 := by omega
          go_wp2_with fail
          go_meet
          exact ⟨rfl, hR⟩
    case rest =>
    obtain ⟨rfl, HR4⟩ := hcut
    clear hR HR3
    go_upto_if 60 with fail
    go_cut [] (fun wx => Aside (Rws w.heap.size w wx [(g3, dvC ⟨c, t, k, b, l⟩ ad cp, 24)]))
    case first =>
      cases B2 with
      | false =>
        go_wp2_with fail
        go_meet
        exact HR4.out
      | true =>
        have hq := of_decide_eq_true HB2.out.symm
        have HPM : Hid (∀ u, Below w.heap.size w u → Calls Tryz.prog 10 #[.string (bs S ++ bs more)] u (ParseP u (.zero, 66))) := Lib.hid fun u hu => by
          have h1 := HPX.out (S ++ more) u (by rw [List.length_append, ← HL.out]; omega) hu
          rw [HS.out, parse_more HCK.out hq.1 (by rw [List.length_append, ← HS.out, ← HL.out]; omega), ← HS.out] at h1
          rw [bs_app2]
          exact h1
        have hR := HR4.out
        clear hq
        go_wp2_with (first
          | (go_at_call 10; refine (HPM.out _ hR.below).mono ?_; rintro e w5 ⟨ad2, cp2, rfl, hs2, _, hb5⟩; have hR := hR.call hb5)
          | (refine wQ_alloc (cs := dvC .zero none 0) rfl _ (by rfl) (by exact hR) zero_der ?_; intro g9 w6 hR hb6 hg6)
          | (refine wQ_store rfl _ _ _ (by rfl) (by exact hR) g9 rfl (dvC .zero ad2 cp2) (by rfl) _ _ _ (by repeat (first | exact Pick.here | apply Pick.there)) (by kernel_rfl) (by rfl) (dv_one _ _ _) ?_; intro w7 hR hsm7 hsz7))
        go_meet
        exact hR.sub (List.sublist_cons_self _ _)
    case rest =>
    have HR5 := hcut
    clear HR4 HB2
    have hR := HR5.out
    obtain ⟨P, hP⟩ : ∃ P, P = (Dv.two ⟨c, t, k, b, l⟩).print := ⟨_, rfl⟩
    have htwo := two_law HCK.out
    rw [← hP] at htwo
    have HP2 : Hid (∀ u, Below w.heap.size w u → Calls Tryz.prog 14 #[.agg #[.int .i64 0, .int .i64 16, .bool true, .string ⟨#[]⟩, .slice (some ⟨u.heap.size, 0, none⟩) 2 2]] (u.alloc (.cells #[.int .i64 c, .int .i64 t, .bool k, .string (bs b), .slice ad l.len cp, .int .i64 c, .int .i64 t, .bool k, .string (bs b), .slice ad l.len cp] 24)) fun e w' => e = .returned (.tuple #[.string (bs P.1), .int .i64 P.2]) ∧ Below (u.alloc (.cells #[.int .i64 c, .int .i64 t, .bool k, .string (bs b), .slice ad l.len cp, .int .i64 c, .int .i64 t, .bool k, .string (bs b), .slice ad l.len cp] 24)).heap.size (u.alloc (.cells #[.int .i64 c, .int .i64 t, .bool k, .string (bs b), .slice ad l.len cp, .int .i64 c, .int .i64 t, .bool k, .string (bs b), .slice ad l.len cp] 24)) w') := Lib.hid fun u hu => by
      have hwt := check_wt HCK.out
      simp only at hwt
      rw [hP]
      exact Print_any (Dv.two ⟨c, t, k, b, l⟩) (some ⟨u.heap.size, 0, none⟩) 2 _ (by show 0 + 4 + (b.length + 4 + l.wt + (b.length + 4 + l.wt + 0)) ≤ 1048576; omega) (two_sl u c t k b l ad cp (by omega) (HSL.out.grown hu)) (HG.out.below (hu.trans ((b_alloc u _).mono hu.size)))
    clear hP
    obtain ⟨P1, P2⟩ := P
    have HTW := Lib.hid htwo
    clear htwo
    go_upto_region 15 with (first
      | (refine wpList_load_rws rfl _ _ (by rfl) (by exact hR) g3 rfl (dvC ⟨c, t, k, b, l⟩ ad cp) _ (by repeat (first | exact List.Mem.head _ | refine List.Mem.tail _ ?_)) _ Tryz.underlying24 rfl (by kernel_rfl) ?_)
      | (go_at_call 14; refine (HP2.out _ hR.below).mono ?_; rintro e w9 ⟨rfl, hb9⟩; have hR := (hR.alloc0 _).call hb9))
    clear hb9 HP2 HR5
    rcases HTW.out with h | ⟨h, h64⟩ | ⟨h, hpt⟩ <;> obtain ⟨rfl, rfl⟩ := Prod.mk.inj h
    · go_wp2_with fail
      go_ret
      exact ⟨rfl, hR.below⟩
    · have h64z : (16384 : Int) < 2 * (L : Int) + 4 := by have := HL.out; have := congrArg List.length HS.out; omega
      go_wp2_with fail
      go_ret
      exact ⟨rfl, hR.below⟩
    · obtain ⟨p, hp4, hpf⟩ := Dv.two_form ⟨c, t, k, b, l⟩
      rw [← HS.out] at hpf
      obtain ⟨T, hT⟩ : ∃ T, T = (Dv.two ⟨c, t, k, b, l⟩).form := ⟨_, rfl⟩
      rw [← hT] at hpf hpt ⊢
      have hTl : T.length = p.length + (L + L) := by rw [hpf, List.length_append, List.length_append, HL.out]
      have HPT : Hid (∀ u, Below w.heap.size w u → Calls Tryz.prog 10 #[.string (bs T)] u fun e w' => ∃ ad cp, e = .returned (.tuple #[.agg #[.int .i64 0, .int .i64 16, .bool true, .string ⟨#[]⟩, .slice ad 2 cp], .int .i64 0]) ∧ SlQ (fun k => u.heap.size ≤ k) w' (.cons c t k b l (.cons c t k b l .nil)) ad cp ∧ Below u.heap.size u w') := Lib.hid fun u hu => by
        have h1 := HPX.out T u (by omega) hu
        rw [hpt] at h1
        exact h1.mono fun e w' hh => by
          obtain ⟨ad2, cp2, h2, h3, _, h4⟩ := hh
          exact ⟨ad2, cp2, h2, h3, h4⟩
      have zt := bs_size T
      have HPF := Lib.hid hpf
      have HTL := Lib.hid hTl
      clear hpt hT hpf hTl h
      go_upto_region 17 with fail
      go_upto_region 18 with (first
        | (go_at_call 10; refine (HPT.out _ hR.below).mono ?_; rintro e w10 ⟨ad5, cp5, rfl, hs5, hb10⟩; have hR := hR.call hb10)
        | (refine wQ_alloc (cs := dvC .zero none 0) rfl _ (by rfl) (by exact hR) zero_der ?_; intro g15 w11 hR hb11 hg11)
        | (refine wQ_store rfl _ _ _ (by rfl) (by exact hR) g15 rfl #[.int .i64 0, .int .i64 16, .bool true, .string ⟨#[]⟩, .slice ad5 2 cp5] (by rfl) _ _ _ (by repeat (first | exact Pick.here | apply Pick.there)) (by kernel_rfl) (by rfl) (by simp [Value.oneCell']) ?_; intro w12 hR hsm12 hsz12))
      have hsd := (hs5.kept (fun k hk _ => by rw [hsm12 k (by omega), hb11.block k hk])).sld
      clear hs5 hb10 hb11 hg11 hsm12 hsz12
      obtain ⟨_, _, b5, f5, had5, hrow5⟩ := hsd
      obtain rfl : ad5 = some ⟨b5, f5, none⟩ := by
        rcases had5 with h | ⟨_, h⟩
        · exact h
        · exact absurd h (by show ¬ (0 + 1 + 1 = 0); decide)
      obtain ⟨a1, p1, x0, x1, x2, x3, x4, _, hsa, hn5⟩ := hrow5.kids
      obtain ⟨a2, p2, y0, y1, y2, y3, y4, _, hsb, _⟩ := hn5.kids
      have HE0 : Hid (∀ u, Below w12.heap.size w12 u → ∀ j v, (dcl ⟨c, t, k, b, l⟩ a1 p1)[j]? = some v → u.cell? ⟨b5, f5 + 0 * 5 + j, none⟩ = some v) := Lib.hid (by
        have e0 : f5 + 0 * 5 = f5 := by omega
        rw [e0]
        exact dcl_cells x0 x1 x2 x3 x4)
      have HE1 : Hid (∀ u, Below w12.heap.size w12 u → ∀ j v, (dcl ⟨c, t, k, b, l⟩ a2 p2)[j]? = some v → u.cell? ⟨b5, f5 + 1 * 5 + j, none⟩ = some v) := Lib.hid (by
        have e0 : f5 + 1 * 5 = f5 + 5 := by omega
        rw [e0]
        exact dcl_cells y0 y1 y2 y3 y4)
      have HSA : Hid (∀ u, Below w12.heap.size w12 u → Calls Tryz.prog 12 #[dvv ⟨c, t, k, b, l⟩ a1 p1, dvv ⟨c, t, k, b, l⟩ ad cp] u (RW (Is (.bool true)) u)) := Lib.hid fun u hu => (same_any ⟨c, t, k, b, l⟩ a1 p1 ad cp u (hsa.grown hu) (HSL.out.grown (hR.call hu).below)).mono fun _ _ h => rw_b h
      have HSB : Hid (∀ u, Below w12.heap.size w12 u → Calls Tryz.prog 12 #[dvv ⟨c, t, k, b, l⟩ a2 p2, dvv ⟨c, t, k, b, l⟩ ad cp] u (RW (Is (.bool true)) u)) := Lib.hid fun u hu => (same_any ⟨c, t, k, b, l⟩ a2 p2 ad cp u (hsb.grown hu) (HSL.out.grown (hR.call hu).below)).mono fun _ _ h => rw_b h
      have H54 : Hid (∀ u, Below w12.heap.size w12 u → u.cell? ⟨g15, 4, none⟩ = some (.slice (some ⟨b5, f5, none⟩) 2 cp5)) := Lib.hid fun u hb => (hR.call hb).cellAt (g := g15) (by repeat (first | exact List.Mem.head _ | refine List.Mem.tail _ ?_)) 4 rfl
      obtain ⟨N, hN⟩ : ∃ N, N = p.length := ⟨_, rfl⟩
      obtain ⟨SS, hSS⟩ : ∃ SS, SS = S ++ S := ⟨_, rfl⟩
      have hTl := HTL.out
      have hpf := HPF.out
      have hcut : T.drop N = SS := by rw [hpf, hN, List.drop_left, hSS]
      have hNl : N ≤ T.length := by omega
      have HEQ : Hid (((bs SS).toList == (bs S ++ bs S).toList) = true) := Lib.hid (by rw [bs_app2, ← hSS]; simp)
      have HW1 : Hid (IntKind.i64.wrap (2 * (((bs S).size : Nat) : Int)) = 2 * (((bs S).size : Nat) : Int)) := Lib.hid (IntWalk.i64_in _ (by rw [zs]; omega))
      have HW2 : Hid (IntKind.i64.wrap ((((bs T).size : Nat) : Int) - 2 * (((bs S).size : Nat) : Int)) = (N : Int)) := Lib.hid (by rw [IntWalk.i64_in _ (by rw [zs, zt]; omega), zs, zt]; omega)
      have hsum : (bs S).size + (bs S).size ≤ 9223372036854775807 := by rw [zs]; omega
      clear hTl hpf hSS hN x0 x1 x2 x3 x4 y0 y1 y2 y3 y4 hsa hsb hrow5 hn5
      refine wp_region_softG 38 (by kernel_rfl) (by kernel_rfl) (by rfl) hR ?_
      refine g_move (R := Is (.int .i64 0)) (by rfl) (stb_is _) (by exact fun _ _ _ h => h) ?_
      refine g_bin (v := .int .i64 0) (u := .int .i64 0) (r := .bool true) (by rfl) (by exact fun _ _ _ h => h) (by exact fun _ _ _ h => h) (by rfl) (fun W => bin_eqe (r := true) _ _ (by rfl) W) ?_
      refine g_move (R := Is (.bool true)) (by rfl) (stb_is _) (by exact fun _ _ _ h => h) ?_
      refine g_fa (g := g15) (k := 0) (off := 4) (by rfl) (by exact fun _ _ _ h => h) Tryz.underlying24 rfl ⟨0, by kernel_rfl⟩ rfl ?_
      refine g_cellw (g := g15) (k := 4) (v := .slice (some ⟨b5, f5, none⟩) 2 cp5) (R := Is (.slice (some ⟨b5, f5, none⟩) 2 cp5)) (by rfl) (by exact fun _ _ _ h => h) (H54.out) isAgg_ders (stb_is _) (by exact fun _ _ => rfl) ?_
      refine g_lenl (ht := Tryz.underlying22) (by rfl) (by exact fun _ _ _ h => h) ?_
      refine g_bin (v := .int .i64 2) (u := .int .i64 2) (r := .bool true) (by rfl) (by exact fun _ _ _ h => h) (by exact fun _ _ _ h => h) (by rfl) (fun W => bin_eqi (r := true) _ _ (by rfl) W) ?_
      refine g_pick (b := true) (R := Is (.bool true)) (by rfl) (by exact fun _ _ _ h => h) (stb_is _) (by exact fun _ _ _ h => h) ?_
      refine g_move (R := Is (.bool true)) (by rfl) (stb_is _) (by exact fun _ _ _ h => h) ?_
      refine g_fa (g := g15) (k := 0) (off := 4) (by rfl) (by exact fun _ _ _ h => h) Tryz.underlying24 rfl ⟨0, by kernel_rfl⟩ rfl ?_
      refine g_cellw (g := g15) (k := 4) (v := .slice (some ⟨b5, f5, none⟩) 2 cp5) (R := Is (.slice (some ⟨b5, f5, none⟩) 2 cp5)) (by rfl) (by exact fun _ _ _ h => h) (H54.out) isAgg_ders (stb_is _) (by exact fun _ _ => rfl) ?_
      refine g_ixd (b := b5) (f := f5) (len := 2) (c := cp5) (i := 0) (by rfl) (by exact fun _ _ _ h => h) (by exact fun _ _ _ h => h) (by decide) ?_
      refine g_ldd (b := b5) (k := f5 + 0 * 5) (vs := dcl ⟨c, t, k, b, l⟩ a1 p1) (R := Is (dvv ⟨c, t, k, b, l⟩ a1 p1)) (by rfl) (by exact fun _ _ _ h => h) rfl (HE0.out) (stb_is _) (by exact fun _ _ => rfl) ?_
      refine g_ldw (g := g3) (cs := (dvC ⟨c, t, k, b, l⟩ ad cp)) (R := Is (dvv ⟨c, t, k, b, l⟩ ad cp)) (by rfl) (by exact fun _ _ _ h => h) (by repeat (first | exact List.Mem.head _ | refine List.Mem.tail _ ?_)) Tryz.underlying24 rfl der_inf (stb_is _) (by exact fun _ _ => rfl) ?_
      refine g_callK (f := 12) (xs := [.tmp 110, .tmp 111]) [dvv ⟨c, t, k, b, l⟩ a1 p1, dvv ⟨c, t, k, b, l⟩ ad cp] (R := Is (.bool true)) (by rfl) Tryz.func12 (by kernel_rfl) rfl (stb_is _) ⟨(by exact fun _ _ _ h => h), (by exact fun _ _ _ h => h), trivial⟩ (HSA.out) ?_
      refine g_pick (b := true) (R := Is (.bool true)) (by rfl) (by exact fun _ _ _ h => h) (stb_is _) (by exact fun _ _ _ h => h) ?_
      refine g_move (R := Is (.bool true)) (by rfl) (stb_is _) (by exact fun _ _ _ h => h) ?_
      refine g_fa (g := g15) (k := 0) (off := 4) (by rfl) (by exact fun _ _ _ h => h) Tryz.underlying24 rfl ⟨0, by kernel_rfl⟩ rfl ?_
      refine g_cellw (g := g15) (k := 4) (v := .slice (some ⟨b5, f5, none⟩) 2 cp5) (R := Is (.slice (some ⟨b5, f5, none⟩) 2 cp5)) (by rfl) (by exact fun _ _ _ h => h) (H54.out) isAgg_ders (stb_is _) (by exact fun _ _ => rfl) ?_
      refine g_ixd (b := b5) (f := f5) (len := 2) (c := cp5) (i := 1) (by rfl) (by exact fun _ _ _ h => h) (by exact fun _ _ _ h => h) (by decide) ?_
      refine g_ldd (b := b5) (k := f5 + 1 * 5) (vs := dcl ⟨c, t, k, b, l⟩ a2 p2) (R := Is (dvv ⟨c, t, k, b, l⟩ a2 p2)) (by rfl) (by exact fun _ _ _ h => h) rfl (HE1.out) (stb_is _) (by exact fun _ _ => rfl) ?_
      refine g_ldw (g := g3) (cs := (dvC ⟨c, t, k, b, l⟩ ad cp)) (R := Is (dvv ⟨c, t, k, b, l⟩ ad cp)) (by rfl) (by exact fun _ _ _ h => h) (by repeat (first | exact List.Mem.head _ | refine List.Mem.tail _ ?_)) Tryz.underlying24 rfl der_inf (stb_is _) (by exact fun _ _ => rfl) ?_
      refine g_callK (f := 12) (xs := [.tmp 118, .tmp 119]) [dvv ⟨c, t, k, b, l⟩ a2 p2, dvv ⟨c, t, k, b, l⟩ ad cp] (R := Is (.bool true)) (by rfl) Tryz.func12 (by kernel_rfl) rfl (stb_is _) ⟨(by exact fun _ _ _ h => h), (by exact fun _ _ _ h => h), trivial⟩ (HSB.out) ?_
      refine g_pick (b := true) (R := Is (.bool true)) (by rfl) (by exact fun _ _ _ h => h) (stb_is _) (by exact fun _ _ _ h => h) ?_
      refine g_move (R := Is (.bool true)) (by rfl) (stb_is _) (by exact fun _ _ _ h => h) ?_
      refine g_move (R := Is (.string (bs T))) (by rfl) (stb_is _) (by exact fun _ _ _ h => h) ?_
      refine g_move (R := Is (.string (bs T))) (by rfl) (stb_is _) (by exact fun _ _ _ h => h) ?_
      refine g_lens (s := bs T) (by rfl) (by exact fun _ _ _ h => h) ?_
      refine g_move (R := Is (.string (bs S))) (by rfl) (stb_is _) (by exact fun _ _ _ h => h) ?_
      refine g_lens (s := bs S) (by rfl) (by exact fun _ _ _ h => h) ?_
      refine g_bin (v := .int .i64 2) (u := .int .i64 (((bs S).size : Nat) : Int)) (r := .int .i64 (2 * (((bs S).size : Nat) : Int))) (by rfl) (by exact fun _ _ _ h => h) (by exact fun _ _ _ h => h) (by rfl) (fun W => bin_mulI _ _ HW1.out W) ?_
      refine g_bin (v := .int .i64 (((bs T).size : Nat) : Int)) (u := .int .i64 (2 * (((bs S).size : Nat) : Int))) (r := .int .i64 (N : Nat)) (by rfl) (by exact fun _ _ _ h => h) (by exact fun _ _ _ h => h) (by rfl) (fun W => bin_subI _ _ HW2.out W) ?_
      refine g_cutD (s := T) (k := N) (by rfl) (by exact fun _ _ _ h => h) (by exact fun _ _ _ h => h) (hNl) ?_
      rw [hcut]
      refine g_move (R := Is (.string (bs S))) (by rfl) (stb_is _) (by exact fun _ _ _ h => h) ?_
      refine g_move (R := Is (.string (bs S))) (by rfl) (stb_is _) (by exact fun _ _ _ h => h) ?_
      refine g_bin (v := .string (bs S)) (u := .string (bs S)) (r := .string (bs S ++ bs S)) (by rfl) (by exact fun _ _ _ h => h) (by exact fun _ _ _ h => h) (by rfl) (fun W => bin_adds _ _ hsum W) ?_
      refine g_bin (v := .string (bs SS)) (u := .string (bs S ++ bs S)) (r := .bool true) (by rfl) (by exact fun _ _ _ h => h) (by exact fun _ _ _ h => h) (by rfl) (fun W => bin_eqs (r := true) _ _ HEQ.out W) ?_
      refine g_pick (b := true) (R := Is (.bool true)) (by rfl) (by exact fun _ _ _ h => h) (stb_is _) (by exact fun _ _ _ h => h) ?_
      intro w13 hR13 hb13 v98 h98 v99 h99 v100 h100 v101 h101 v102 h102 v103 h103 v104 h104 v105 h105 v106 h106 v107 h107 v108 h108 v109 h109 v110 h110 v111 h111 v112 h112 v113 h113 v114 h114 v115 h115 v116 h116 v117 h117 v118 h118 v119 h119 v120 h120 v121 h121 v122 h122 v123 h123 v124 h124 v125 h125 v126 h126 v127 h127 v128 h128 v129 h129 v130 h130 v131 h131 v132 h132 v133 h133 v134 h134 v135 h135
      simp only [softEnd, Act.put, List.setIfInBounds_toArray, List.set_cons_succ, List.set_cons_zero, List.drop_succ_cons, List.drop_zero]
      obtain rfl : v135 = .bool true := h135
      clear h98 h99 h100 h101 h102 h103 h104 h105 h106 h107 h108 h109 h110 h111 h112 h113 h114 h115 h116 h117 h118 h119 h120 h121 h122 h123 h124 h125 h126 h127 h128 h129 h130 h131 h132 h133 h134
      go_wp2_with fail
      go_ret
      exact ⟨rfl, hR13.below⟩
  · rw [print_fell he] at HPR
    obtain ⟨E, hE⟩ : ∃ E, E = v.check := ⟨_, rfl⟩
    rw [← hE] at HPR he
    have hez : (E == 0) = false := by simpa using he
    have hze : (bs ([] : Bs)).toList = [] := by rw [bs_list]
    clear hE
    obtain ⟨c, t, k, b, l⟩ := v
    go_enter Tryz.func5, Tryz.ntmps5
    go_upto_region 1 with (refine wpList_box_rws rfl _ _ (by rfl) (by exact hR) (dvC ⟨c, t, k, b, l⟩ ad cp) rfl ?_; intro g3 w1 hR)
    go_upto_region 2 with (first
      | (refine wpList_load_rws rfl _ _ (by rfl) (by exact hR) g3 rfl (dvC ⟨c, t, k, b, l⟩ ad cp) _ (by repeat (first | exact List.Mem.head _ | refine List.Mem.tail _ ?_)) _ Tryz.underlying24 rfl (by kernel_rfl) ?_)
      | (go_at_call 14; refine (HPR.out _ hR.below).mono ?_; rintro e w2 ⟨rfl, hb2⟩; have hR := hR.call hb2))
    clear hb2
    go_wp2_with (go_at_call 13; refine (HFX.out _ hR.below).mono ?_; rintro e w3 ⟨rfl, hb3⟩; have hR := hR.call hb3)
    go_ret
    exact ⟨rfl, hR.below⟩
end Go.Proofs.YtebhiplcoioenaaGreatDoor.derCuts
