/- DerBack: the law's walk (gen_zback.py). -/
import Derived.Test.YtebhiplcoioenaaGreatDoorZZLawKit
namespace Go.Proofs.YtebhiplcoioenaaGreatDoor.derBack
open Go.RowKit

set_option maxRecDepth 100000 in
set_option maxHeartbeats 8000000 in
theorem law_any (v : Dv) (ad : Option Addr) (cp : Nat) (s : Bs) (w : World) (hsl : SlD w v.l ad cp) (hw : v.b.length + 4 + v.l.wt ≤ 1048576) (hs : s.length ≤ 1048576) (hg : Gd w) : Calls Tryz.prog 4 #[dvv v ad cp, .string (bs s)] w (RetB true w) := by
  have hSB := SB_eq
  have hR := Rws.start w
  have HG := Lib.hid hg
  have HFX : Hid (∀ u, Below w.heap.size w u → Calls Tryz.prog 13 #[] u (RetB true u)) := Lib.hid fun u hu => fixed_any u (hg.below hu)
  have HP2 : Hid (∀ u, Below w.heap.size w u → Calls Tryz.prog 10 #[.string (bs s)] u (ParseP u (parseS s))) := Lib.hid fun u hu => Parse_any s u (by omega) (hg.below hu)
  have HPR : Hid (∀ u, Below w.heap.size w u → Calls Tryz.prog 14 #[dvv v ad cp] u fun e w' => e = .returned (.tuple #[.string (bs v.print.1), .int .i64 v.print.2]) ∧ Below u.heap.size u w') := Lib.hid fun u hu => Print_any v ad cp u hw (hsl.grown hu) (hg.below hu)
  have HCH : Hid (∀ u, Below w.heap.size w u → Calls Tryz.prog 15 #[dvv v ad cp] u (RetI v.check u)) := Lib.hid fun u hu => Check_any v ad cp u hw (hsl.grown hu) (hg.below hu)
  obtain ⟨YG, hYG⟩ : ∃ YG, YG = parseS s := ⟨_, rfl⟩
  obtain ⟨Y, G⟩ := YG
  rw [← hYG] at HP2
  have HYG := Lib.hid hYG
  have HSL := Lib.hid hsl
  clear hYG hg hw hs hsl
  by_cases he : v.check = 0
  · have HBK := Lib.hid (parse_back he)
    have hfl : v.form.length ≤ 16384 := (Dv.check_ok he).2
    rw [print_ok he] at HPR
    rw [he] at HCH
    obtain ⟨T, hT⟩ : ∃ T, T = v.form := ⟨_, rfl⟩
    rw [← hT] at HPR HBK hfl
    have HP1 : Hid (∀ u, Below w.heap.size w u → Calls Tryz.prog 10 #[.string (bs T)] u (ParseP u (v, 0))) := Lib.hid fun u hu => by
      have := Parse_any T u (by omega) (HG.out.below hu)
      rw [HBK.out] at this
      exact this
    clear he hT hfl
    obtain ⟨c, t, k, b, l⟩ := v
    go_enter Tryz.func4, Tryz.ntmps4
    go_upto_region 1 with (refine wpList_box_rws rfl _ _ (by rfl) (by exact hR) (dvC ⟨c, t, k, b, l⟩ ad cp) rfl ?_; intro g2 w1 hR)
    go_upto_region 2 with (first
      | (refine wpList_load_rws rfl _ _ (by rfl) (by exact hR) g2 rfl (dvC ⟨c, t, k, b, l⟩ ad cp) _ (by repeat (first | exact List.Mem.head _ | refine List.Mem.tail _ ?_)) _ Tryz.underlying24 rfl (by kernel_rfl) ?_)
      | (go_at_call 14; refine (HPR.out _ hR.below).mono ?_; rintro e w2 ⟨rfl, hb2⟩; have hR := hR.call hb2))
    have f0 := hR.cellAt (g := g2) (by repeat (first | exact List.Mem.head _ | refine List.Mem.tail _ ?_)) 0 rfl
    have f1 := hR.cellAt (g := g2) (by repeat (first | exact List.Mem.head _ | refine List.Mem.tail _ ?_)) 1 rfl
    have f2 := hR.cellAt (g := g2) (by repeat (first | exact List.Mem.head _ | refine List.Mem.tail _ ?_)) 2 rfl
    have f3 := hR.cellAt (g := g2) (by repeat (first | exact List.Mem.head _ | refine List.Mem.tail _ ?_)) 3 rfl
    have f4 := hR.cellAt (g := g2) (by repeat (first | exact List.Mem.head _ | refine List.Mem.tail _ ?_)) 4 rfl
    have HSM2 : Hid (∀ (u u' : World), g2 < u.heap.size → (u.cell? ⟨g2, 0, none⟩ = some (.int .i64 c) ∧ u.cell? ⟨g2, 1, none⟩ = some (.int .i64 t) ∧ u.cell? ⟨g2, 2, none⟩ = some (.bool k) ∧ u.cell? ⟨g2, 3, none⟩ = some (.string (bs b)) ∧ u.cell? ⟨g2, 4, none⟩ = some (.slice ad l.len cp)) → Below u.heap.size u u' → (u'.cell? ⟨g2, 0, none⟩ = some (.int .i64 c) ∧ u'.cell? ⟨g2, 1, none⟩ = some (.int .i64 t) ∧ u'.cell? ⟨g2, 2, none⟩ = some (.bool k) ∧ u'.cell? ⟨g2, 3, none⟩ = some (.string (bs b)) ∧ u'.cell? ⟨g2, 4, none⟩ = some (.slice ad l.len cp))) := Lib.hid fun u u' hl h hb => ⟨(hb.cell (p := ⟨g2, 0, none⟩) hl).trans h.1, (hb.cell (p := ⟨g2, 1, none⟩) hl).trans h.2.1, (hb.cell (p := ⟨g2, 2, none⟩) hl).trans h.2.2.1, (hb.cell (p := ⟨g2, 3, none⟩) hl).trans h.2.2.2.1, (hb.cell (p := ⟨g2, 4, none⟩) hl).trans h.2.2.2.2⟩
    have hg2 : g2 < w2.heap.size := hR.lt (x := (g2, dvC ⟨c, t, k, b, l⟩ ad cp, 24)) (by repeat (first | exact List.Mem.head _ | refine List.Mem.tail _ ?_))
    have hrow := And.intro f0 (And.intro f1 (And.intro f2 (And.intro f3 f4)))
    clear f0 f1 f2 f3 f4 hb2
    go_upto_region 4 with (first
      | (go_at_call 13; refine (HFX.out _ hR.below).mono ?_; rintro e w3 ⟨rfl, hb3⟩; have hR := hR.call hb3; obtain ⟨f0, f1, f2, f3, f4⟩ := HSM2.out _ _ hg2 hrow hb3; clear hb3 hrow)
      | (go_at_call 15; refine (HCH.out _ hR.below).mono ?_; rintro e w4 ⟨rfl, hb4⟩; have hR := hR.call hb4))
    clear f0 f1 f2 f3 f4 hb4
    go_upto_region 6 with (first
      | (go_at_call 10; refine (HP1.out _ hR.below).mono ?_; rintro e w5 ⟨ad1, cp1, rfl, hs1, _, hb5⟩; have hR := hR.call hb5)
      | (refine wQ_alloc (cs := dvC .zero none 0) rfl _ (by rfl) (by exact hR) zero_der ?_; intro g7 w6 hR hb6 hg6)
      | (refine wQ_store rfl _ _ _ (by rfl) (by exact hR) g7 rfl (dvC ⟨c, t, k, b, l⟩ ad1 cp1) (by rfl) _ _ _ (by repeat (first | exact Pick.here | apply Pick.there)) (by kernel_rfl) (by rfl) (dv_one _ _ _) ?_; intro w7 hR hsm7 hsz7))
    have HS1 : Hid (SlD w7 l ad1 cp1) := Lib.hid ((hs1.kept (fun k hk _ => by rw [hsm7 k (by omega), hb6.block k hk])).sld)
    clear hs1 hb5 hb6 hg6 hsm7 hsz7
    have HSA : Hid (∀ u, Below w7.heap.size w7 u → Calls Tryz.prog 12 #[dvv ⟨c, t, k, b, l⟩ ad1 cp1, dvv ⟨c, t, k, b, l⟩ ad cp] u (RetB true u)) := Lib.hid fun u hu => same_any ⟨c, t, k, b, l⟩ ad1 cp1 ad cp u (HS1.out.grown hu) (HSL.out.grown (hR.call hu).below)
    have f0 := hR.cellAt (g := g2) (by repeat (first | exact List.Mem.head _ | refine List.Mem.tail _ ?_)) 0 rfl
    have f1 := hR.cellAt (g := g2) (by repeat (first | exact List.Mem.head _ | refine List.Mem.tail _ ?_)) 1 rfl
    have f2 := hR.cellAt (g := g2) (by repeat (first | exact List.Mem.head _ | refine List.Mem.tail _ ?_)) 2 rfl
    have f3 := hR.cellAt (g := g2) (by repeat (first | exact List.Mem.head _ | refine List.Mem.tail _ ?_)) 3 rfl
    have f4 := hR.cellAt (g := g2) (by repeat (first | exact List.Mem.head _ | refine List.Mem.tail _ ?_)) 4 rfl
    have q0 := hR.cellAt (g := g7) (by repeat (first | exact List.Mem.head _ | refine List.Mem.tail _ ?_)) 0 rfl
    have q1 := hR.cellAt (g := g7) (by repeat (first | exact List.Mem.head _ | refine List.Mem.tail _ ?_)) 1 rfl
    have q2 := hR.cellAt (g := g7) (by repeat (first | exact List.Mem.head _ | refine List.Mem.tail _ ?_)) 2 rfl
    have q3 := hR.cellAt (g := g7) (by repeat (first | exact List.Mem.head _ | refine List.Mem.tail _ ?_)) 3 rfl
    have q4 := hR.cellAt (g := g7) (by repeat (first | exact List.Mem.head _ | refine List.Mem.tail _ ?_)) 4 rfl
    go_upto_region 8 with (go_at_call 12; refine (HSA.out _ (Below.refl _ _)).mono ?_; rintro e w8 ⟨rfl, hb8⟩; have hR := hR.call hb8)
    clear f0 f1 f2 f3 f4 q0 q1 q2 q3 q4 hb8
    by_cases hy : G = 0
    · have HYC : Hid (Y.check = 0 ∧ Y.form = s) := Lib.hid (parse_form (v := Y) (by rw [← HYG.out, hy]))
      subst hy
      go_upto_region 9 with (first
        | (go_at_call 10; refine (HP2.out _ hR.below).mono ?_; rintro e wp ⟨ad2, cp2, rfl, hs2, _, hbp⟩; have hR := hR.call hbp)
        | (refine wQ_alloc (cs := dvC .zero none 0) rfl _ (by rfl) (by exact hR) zero_der ?_; intro g9 wq hR hbq hgq)
        | (refine wQ_store rfl _ _ _ (by rfl) (by exact hR) g9 rfl (dvC Y ad2 cp2) (by rfl) _ _ _ (by repeat (first | exact Pick.here | apply Pick.there)) (by kernel_rfl) (by rfl) (dv_one _ _ _) ?_; intro wr hR hsmr hszr))
      have HY : Hid (SlD wr Y.l ad2 cp2) := Lib.hid ((hs2.kept (fun k hk _ => by rw [hsmr k (by omega), hbq.block k hk])).sld)
      clear hs2 hbp hbq hgq hsmr hszr
      have HPY : Hid (∀ u, Below wr.heap.size wr u → Calls Tryz.prog 14 #[dvv Y ad2 cp2] u fun e w' => e = .returned (.tuple #[.string (bs s), .int .i64 0]) ∧ Below u.heap.size u w') := Lib.hid fun u hu => by
        have := Print_any Y ad2 cp2 u (by have := check_wt HYC.out.1; omega) (HY.out.grown hu) (HG.out.below (hR.call hu).below)
        rw [print_ok HYC.out.1, HYC.out.2] at this
        exact this
      have heq : ((bs s).toList == (bs s).toList) = true := by simp
      go_wp2_with (first
        | (refine wpList_load_rws rfl _ _ (by rfl) (by exact hR) g9 rfl (dvC Y ad2 cp2) _ (by repeat (first | exact List.Mem.head _ | refine List.Mem.tail _ ?_)) _ Tryz.underlying24 rfl (by kernel_rfl) ?_)
        | (go_at_call 14; refine (HPY.out _ (Below.refl _ _)).mono ?_; rintro e w8 ⟨rfl, hb8⟩; have hR := hR.call hb8))
      go_ret
      exact ⟨rfl, hR.below⟩
    · have HYZ : Hid (Y = .zero) := Lib.hid (parse_fell (s := s) (e := G) (HYG.out.symm) hy)
      go_upto_region 9 with (first
        | (go_at_call 10; refine (HP2.out _ hR.below).mono ?_; rintro e wp ⟨ad2, cp2, rfl, hs2, _, hbp⟩; have hR := hR.call hbp)
        | (refine wQ_alloc (cs := dvC .zero none 0) rfl _ (by rfl) (by exact hR) zero_der ?_; intro g9 wq hR hbq hgq)
        | (refine wQ_store rfl _ _ _ (by rfl) (by exact hR) g9 rfl (dvC Y ad2 cp2) (by rfl) _ _ _ (by repeat (first | exact Pick.here | apply Pick.there)) (by kernel_rfl) (by rfl) (dv_one _ _ _) ?_; intro wr hR hsmr hszr))
      have HY : Hid (SlD wr Y.l ad2 cp2) := Lib.hid ((hs2.kept (fun k hk _ => by rw [hsmr k (by omega), hbq.block k hk])).sld)
      clear hs2 hbp hbq hgq hsmr hszr
      have HSZ : Hid (∀ u, Below wr.heap.size wr u → Calls Tryz.prog 12 #[dvv .zero ad2 cp2, dvv .zero none 0] u (RetB true u)) := Lib.hid fun u hu => by
        have h0 := HY.out.grown hu
        rw [HYZ.out] at h0
        exact same_any .zero ad2 cp2 none 0 u h0 (SlD.nil u)
      obtain rfl : Y = .zero := HYZ.out
      go_wp2_with (first
        | (refine wpList_load_rws rfl _ _ (by rfl) (by exact hR) g9 rfl (dvC .zero ad2 cp2) _ (by repeat (first | exact List.Mem.head _ | refine List.Mem.tail _ ?_)) _ Tryz.underlying24 rfl (by kernel_rfl) ?_)
        | (go_at_call 12; refine (HSZ.out _ (Below.refl _ _)).mono ?_; rintro e w8 ⟨rfl, hb8⟩; have hR := hR.call hb8))
      go_ret
      exact ⟨rfl, hR.below⟩
  · rw [print_fell he] at HPR
    obtain ⟨E, hE⟩ : ∃ E, E = v.check := ⟨_, rfl⟩
    rw [← hE] at HPR HCH he
    have hez : (E == E) = true := by simp
    clear hE
    obtain ⟨c, t, k, b, l⟩ := v
    go_enter Tryz.func4, Tryz.ntmps4
    go_upto_region 1 with (refine wpList_box_rws rfl _ _ (by rfl) (by exact hR) (dvC ⟨c, t, k, b, l⟩ ad cp) rfl ?_; intro g2 w1 hR)
    go_upto_region 2 with (first
      | (refine wpList_load_rws rfl _ _ (by rfl) (by exact hR) g2 rfl (dvC ⟨c, t, k, b, l⟩ ad cp) _ (by repeat (first | exact List.Mem.head _ | refine List.Mem.tail _ ?_)) _ Tryz.underlying24 rfl (by kernel_rfl) ?_)
      | (go_at_call 14; refine (HPR.out _ hR.below).mono ?_; rintro e w2 ⟨rfl, hb2⟩; have hR := hR.call hb2))
    have f0 := hR.cellAt (g := g2) (by repeat (first | exact List.Mem.head _ | refine List.Mem.tail _ ?_)) 0 rfl
    have f1 := hR.cellAt (g := g2) (by repeat (first | exact List.Mem.head _ | refine List.Mem.tail _ ?_)) 1 rfl
    have f2 := hR.cellAt (g := g2) (by repeat (first | exact List.Mem.head _ | refine List.Mem.tail _ ?_)) 2 rfl
    have f3 := hR.cellAt (g := g2) (by repeat (first | exact List.Mem.head _ | refine List.Mem.tail _ ?_)) 3 rfl
    have f4 := hR.cellAt (g := g2) (by repeat (first | exact List.Mem.head _ | refine List.Mem.tail _ ?_)) 4 rfl
    have HSM2 : Hid (∀ (u u' : World), g2 < u.heap.size → (u.cell? ⟨g2, 0, none⟩ = some (.int .i64 c) ∧ u.cell? ⟨g2, 1, none⟩ = some (.int .i64 t) ∧ u.cell? ⟨g2, 2, none⟩ = some (.bool k) ∧ u.cell? ⟨g2, 3, none⟩ = some (.string (bs b)) ∧ u.cell? ⟨g2, 4, none⟩ = some (.slice ad l.len cp)) → Below u.heap.size u u' → (u'.cell? ⟨g2, 0, none⟩ = some (.int .i64 c) ∧ u'.cell? ⟨g2, 1, none⟩ = some (.int .i64 t) ∧ u'.cell? ⟨g2, 2, none⟩ = some (.bool k) ∧ u'.cell? ⟨g2, 3, none⟩ = some (.string (bs b)) ∧ u'.cell? ⟨g2, 4, none⟩ = some (.slice ad l.len cp))) := Lib.hid fun u u' hl h hb => ⟨(hb.cell (p := ⟨g2, 0, none⟩) hl).trans h.1, (hb.cell (p := ⟨g2, 1, none⟩) hl).trans h.2.1, (hb.cell (p := ⟨g2, 2, none⟩) hl).trans h.2.2.1, (hb.cell (p := ⟨g2, 3, none⟩) hl).trans h.2.2.2.1, (hb.cell (p := ⟨g2, 4, none⟩) hl).trans h.2.2.2.2⟩
    have hg2 : g2 < w2.heap.size := hR.lt (x := (g2, dvC ⟨c, t, k, b, l⟩ ad cp, 24)) (by repeat (first | exact List.Mem.head _ | refine List.Mem.tail _ ?_))
    have hrow := And.intro f0 (And.intro f1 (And.intro f2 (And.intro f3 f4)))
    clear f0 f1 f2 f3 f4 hb2
    go_upto_region 4 with (first
      | (go_at_call 13; refine (HFX.out _ hR.below).mono ?_; rintro e w3 ⟨rfl, hb3⟩; have hR := hR.call hb3; obtain ⟨f0, f1, f2, f3, f4⟩ := HSM2.out _ _ hg2 hrow hb3; clear hb3 hrow)
      | (go_at_call 15; refine (HCH.out _ hR.below).mono ?_; rintro e w4 ⟨rfl, hb4⟩; have hR := hR.call hb4))
    clear f0 f1 f2 f3 f4 hb4
    go_upto_region 8 with fail
    by_cases hy : G = 0
    · have HYC : Hid (Y.check = 0 ∧ Y.form = s) := Lib.hid (parse_form (v := Y) (by rw [← HYG.out, hy]))
      subst hy
      go_upto_region 9 with (first
        | (go_at_call 10; refine (HP2.out _ hR.below).mono ?_; rintro e wp ⟨ad2, cp2, rfl, hs2, _, hbp⟩; have hR := hR.call hbp)
        | (refine wQ_alloc (cs := dvC .zero none 0) rfl _ (by rfl) (by exact hR) zero_der ?_; intro g9 wq hR hbq hgq)
        | (refine wQ_store rfl _ _ _ (by rfl) (by exact hR) g9 rfl (dvC Y ad2 cp2) (by rfl) _ _ _ (by repeat (first | exact Pick.here | apply Pick.there)) (by kernel_rfl) (by rfl) (dv_one _ _ _) ?_; intro wr hR hsmr hszr))
      have HY : Hid (SlD wr Y.l ad2 cp2) := Lib.hid ((hs2.kept (fun k hk _ => by rw [hsmr k (by omega), hbq.block k hk])).sld)
      clear hs2 hbp hbq hgq hsmr hszr
      have HPY : Hid (∀ u, Below wr.heap.size wr u → Calls Tryz.prog 14 #[dvv Y ad2 cp2] u fun e w' => e = .returned (.tuple #[.string (bs s), .int .i64 0]) ∧ Below u.heap.size u w') := Lib.hid fun u hu => by
        have := Print_any Y ad2 cp2 u (by have := check_wt HYC.out.1; omega) (HY.out.grown hu) (HG.out.below (hR.call hu).below)
        rw [print_ok HYC.out.1, HYC.out.2] at this
        exact this
      have heq : ((bs s).toList == (bs s).toList) = true := by simp
      go_wp2_with (first
        | (refine wpList_load_rws rfl _ _ (by rfl) (by exact hR) g9 rfl (dvC Y ad2 cp2) _ (by repeat (first | exact List.Mem.head _ | refine List.Mem.tail _ ?_)) _ Tryz.underlying24 rfl (by kernel_rfl) ?_)
        | (go_at_call 14; refine (HPY.out _ (Below.refl _ _)).mono ?_; rintro e w8 ⟨rfl, hb8⟩; have hR := hR.call hb8))
      go_ret
      exact ⟨rfl, hR.below⟩
    · have HYZ : Hid (Y = .zero) := Lib.hid (parse_fell (s := s) (e := G) (HYG.out.symm) hy)
      go_upto_region 9 with (first
        | (go_at_call 10; refine (HP2.out _ hR.below).mono ?_; rintro e wp ⟨ad2, cp2, rfl, hs2, _, hbp⟩; have hR := hR.call hbp)
        | (refine wQ_alloc (cs := dvC .zero none 0) rfl _ (by rfl) (by exact hR) zero_der ?_; intro g9 wq hR hbq hgq)
        | (refine wQ_store rfl _ _ _ (by rfl) (by exact hR) g9 rfl (dvC Y ad2 cp2) (by rfl) _ _ _ (by repeat (first | exact Pick.here | apply Pick.there)) (by kernel_rfl) (by rfl) (dv_one _ _ _) ?_; intro wr hR hsmr hszr))
      have HY : Hid (SlD wr Y.l ad2 cp2) := Lib.hid ((hs2.kept (fun k hk _ => by rw [hsmr k (by omega), hbq.block k hk])).sld)
      clear hs2 hbp hbq hgq hsmr hszr
      have HSZ : Hid (∀ u, Below wr.heap.size wr u → Calls Tryz.prog 12 #[dvv .zero ad2 cp2, dvv .zero none 0] u (RetB true u)) := Lib.hid fun u hu => by
        have h0 := HY.out.grown hu
        rw [HYZ.out] at h0
        exact same_any .zero ad2 cp2 none 0 u h0 (SlD.nil u)
      obtain rfl : Y = .zero := HYZ.out
      go_wp2_with (first
        | (refine wpList_load_rws rfl _ _ (by rfl) (by exact hR) g9 rfl (dvC .zero ad2 cp2) _ (by repeat (first | exact List.Mem.head _ | refine List.Mem.tail _ ?_)) _ Tryz.underlying24 rfl (by kernel_rfl) ?_)
        | (go_at_call 12; refine (HSZ.out _ (Below.refl _ _)).mono ?_; rintro e w8 ⟨rfl, hb8⟩; have hR := hR.call hb8))
      go_ret
      exact ⟨rfl, hR.below⟩
end Go.Proofs.YtebhiplcoioenaaGreatDoor.derBack
