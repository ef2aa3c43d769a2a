/- DerDeep: the law's walk (gen_zdeepl.py). -/
import Derived.Test.YtebhiplcoioenaaGreatDoorZZLawKit
import Derived.Test.YtebhiplcoioenaaGreatDoorZZDeepW
namespace Go.Proofs.YtebhiplcoioenaaGreatDoor.derDeep
open Go.RowKit

theorem rowQ_of {w : World} : ∀ {F : Dr} {b f : Nat}, Row w F b f → RowQ (fun k => k < w.heap.size) w F b f := by
  intro F
  induction F with
  | nil => exact fun _ => trivial
  | cons c t k s kids nx ih1 ih2 =>
    rintro b f ⟨⟨ad, cp, b1, f1, h0, h1, h2, h3, h4, r2, r3, r4, r5, r6⟩, hn⟩
    exact ⟨⟨World.block_lt_of_cell? w _ h0, ad, cp, b1, f1, h0, h1, h2, h3, h4, r2, r3, r4, r5, ih1 r6⟩, ih2 hn⟩
theorem slQ_of {w : World} {F : Dr} {ad : Option Addr} {c : Nat} (h : SlD w F ad c) : SlQ (fun k => k < w.heap.size) w F ad c := by
  obtain ⟨h1, h2, b, f, h3, h4⟩ := h
  exact ⟨h1, h2, b, f, h3, rowQ_of h4⟩
theorem one_slq {Q : Nat → Prop} {w : World} {c t : Int} {k : Bool} {b : Bs} {l : Dr} {ad : Option Addr} {cp : Nat} (hb : b.length ≤ SB) (h : SlQ Q w l ad cp) (hn : Q w.heap.size) : SlQ Q (w.alloc (.cells #[.int .i64 c, .int .i64 t, .bool k, .string (bs b), .slice ad l.len cp] 24)) (.cons c t k b l .nil) (some ⟨w.heap.size, 0, none⟩) 1 := by
  have h2 := h.below (b_alloc w (.cells #[.int .i64 c, .int .i64 t, .bool k, .string (bs b), .slice ad l.len cp] 24))
  obtain ⟨q1, q2, b1, f1, q3, q4⟩ := h2
  exact ⟨by simp [Dr.len], by rw [MX_eq]; decide, w.heap.size, 0, Or.inl rfl, ⟨hn, ad, cp, b1, f1, by rw [cell_new]; rfl, by rw [cell_new]; rfl, by rw [cell_new]; rfl, by rw [cell_new]; rfl, by rw [cell_new]; rfl, hb, q1, q2, q3, q4⟩, trivial⟩
set_option maxRecDepth 100000 in
set_option maxHeartbeats 8000000 in
theorem law_any (v : Dv) (ad : Option Addr) (cp : Nat) (times : Int) (w : World) (hsl : SlD w v.l ad cp) (hw : v.b.length + 4 + v.l.wt ≤ 1048576) (hc0 : -9223372036854775808 ≤ times) (hc1 : times ≤ 9223372036854775807) (hg : Gd w) : Calls Tryz.prog 8 #[dvv v ad cp, .int .i64 times] w (RetB true w) := by
  have hSB := SB_eq
  have hMX := MX_eq
  have hR := Rws.start w
  have HG := Lib.hid hg
  have HFX : Hid (∀ u, Below w.heap.size w u → Calls Tryz.prog 13 #[] u (RetB true u)) := Lib.hid fun u hu => fixed_any u (hg.below hu)
  have HPR : Hid (∀ u, Below w.heap.size w u → Calls Tryz.prog 14 #[dvv v ad cp] u fun e w' => e = .returned (.tuple #[.string (bs v.print.1), .int .i64 v.print.2]) ∧ Below u.heap.size u w') := Lib.hid fun u hu => Print_any v ad cp u hw (hsl.grown hu) (hg.below hu)
  have HSL := Lib.hid hsl
  have hbb : v.b.length ≤ SB := by omega
  clear hg hw hsl
  by_cases he : v.check = 0
  · have hfl : v.form.length ≤ 16384 := (Dv.check_ok he).2
    have HCK := Lib.hid he
    rw [print_ok he] at HPR
    obtain ⟨S, hS⟩ : ∃ S, S = v.form := ⟨_, rfl⟩
    have HS := Lib.hid hS
    rw [← hS] at HPR hfl
    obtain ⟨L, hL⟩ : ∃ L, L = S.length := ⟨_, rfl⟩
    have HL := Lib.hid hL
    have zs : (bs S).size = L := by rw [hL, bs_size]
    rw [← hL] at hfl
    have HBB := Lib.hid hbb
    have HWT := Lib.hid (check_wt he)
    have HV : Hid (v = v) := Lib.hid rfl
    obtain ⟨V0, hV0⟩ : ∃ V0, V0 = v := ⟨_, rfl⟩
    have HV0 := Lib.hid hV0
    clear he hS hL hV0 HV hbb
    by_cases q0 : times < 0
    · obtain ⟨c, t, k, b, l⟩ := v
      go_enter Tryz.func8, Tryz.ntmps8
      go_upto_region 1 with (refine wpList_box_rws rfl _ _ (by rfl) (by exact hR) (dvC ⟨c, t, k, b, l⟩ ad cp) rfl ?_; intro g2 w1 hR)
      have hg2 : w.heap.size ≤ g2 := (hR.row (g2, dvC ⟨c, t, k, b, l⟩ ad cp, 24) (by repeat (first | exact List.Mem.head _ | refine List.Mem.tail _ ?_))).1
      go_upto_region 2 with (first
        | (refine wpList_load_rws rfl _ _ (by rfl) (by exact hR) g2 rfl (dvC ⟨c, t, k, b, l⟩ ad cp) _ (by repeat (first | exact List.Mem.head _ | refine List.Mem.tail _ ?_)) _ Tryz.underlying24 rfl (by kernel_rfl) ?_)
        | (go_at_call 14; refine (HPR.out _ hR.below).mono ?_; rintro e w2 ⟨rfl, hb2⟩; have hR := hR.call hb2))
      clear hb2
      go_upto_region 4 with (go_at_call 13; refine (HFX.out _ hR.below).mono ?_; rintro e w3 ⟨rfl, hb3⟩; have hR := hR.call hb3)
      clear hb3
      go_wp2_with fail
      go_ret
      exact ⟨rfl, hR.below⟩
    by_cases q1 : 40 < times
    · obtain ⟨c, t, k, b, l⟩ := v
      go_enter Tryz.func8, Tryz.ntmps8
      go_upto_region 1 with (refine wpList_box_rws rfl _ _ (by rfl) (by exact hR) (dvC ⟨c, t, k, b, l⟩ ad cp) rfl ?_; intro g2 w1 hR)
      have hg2 : w.heap.size ≤ g2 := (hR.row (g2, dvC ⟨c, t, k, b, l⟩ ad cp, 24) (by repeat (first | exact List.Mem.head _ | refine List.Mem.tail _ ?_))).1
      go_upto_region 2 with (first
        | (refine wpList_load_rws rfl _ _ (by rfl) (by exact hR) g2 rfl (dvC ⟨c, t, k, b, l⟩ ad cp) _ (by repeat (first | exact List.Mem.head _ | refine List.Mem.tail _ ?_)) _ Tryz.underlying24 rfl (by kernel_rfl) ?_)
        | (go_at_call 14; refine (HPR.out _ hR.below).mono ?_; rintro e w2 ⟨rfl, hb2⟩; have hR := hR.call hb2))
      clear hb2
      go_upto_region 4 with (go_at_call 13; refine (HFX.out _ hR.below).mono ?_; rintro e w3 ⟨rfl, hb3⟩; have hR := hR.call hb3)
      clear hb3
      go_wp2_with fail
      go_ret
      exact ⟨rfl, hR.below⟩
    by_cases q2 : 15000 < L
    · have q2z : (15000 : Int) < (L : Int) := by omega
      obtain ⟨c, t, k, b, l⟩ := v
      go_enter Tryz.func8, Tryz.ntmps8
      go_upto_region 1 with (refine wpList_box_rws rfl _ _ (by rfl) (by exact hR) (dvC ⟨c, t, k, b, l⟩ ad cp) rfl ?_; intro g2 w1 hR)
      have hg2 : w.heap.size ≤ g2 := (hR.row (g2, dvC ⟨c, t, k, b, l⟩ ad cp, 24) (by repeat (first | exact List.Mem.head _ | refine List.Mem.tail _ ?_))).1
      go_upto_region 2 with (first
        | (refine wpList_load_rws rfl _ _ (by rfl) (by exact hR) g2 rfl (dvC ⟨c, t, k, b, l⟩ ad cp) _ (by repeat (first | exact List.Mem.head _ | refine List.Mem.tail _ ?_)) _ Tryz.underlying24 rfl (by kernel_rfl) ?_)
        | (go_at_call 14; refine (HPR.out _ hR.below).mono ?_; rintro e w2 ⟨rfl, hb2⟩; have hR := hR.call hb2))
      clear hb2
      go_upto_region 4 with (go_at_call 13; refine (HFX.out _ hR.below).mono ?_; rintro e w3 ⟨rfl, hb3⟩; have hR := hR.call hb3)
      clear hb3
      go_wp2_with fail
      go_ret
      exact ⟨rfl, hR.below⟩
    have q2z : ¬ (15000 : Int) < (L : Int) := by omega
    obtain ⟨n, rfl⟩ := Int.eq_ofNat_of_zero_le (show 0 ≤ times by omega)
    have hn40 : n ≤ 40 := by omega
    have HDL := Lib.hid (deep_law HCK.out (by rw [← HS.out, ← HL.out]; omega) n)
    obtain ⟨DE, hDE⟩ : ∃ DE, DE = v.deep := ⟨_, rfl⟩
    have HDP : Hid (∀ u, Below w.heap.size w u → Calls Tryz.prog 24 #[dvv v ad cp] u (RetI (DE : Nat) u)) := Lib.hid fun u hu => by
      rw [hDE]; exact deep_any v ad cp u (by have := HWT.out; omega) (HSL.out.grown hu)
    have hDEl : DE ≤ 1000000 := by
      have h1 := deeps_wt v.l
      have h2 := HWT.out
      have h3 : v.deep ≤ deepsS v.l + 1 := by unfold Dv.deep; split <;> omega
      omega
    have HDE : Hid (DE = V0.deep) := Lib.hid (by rw [hDE, HV0.out])
    rw [← HV0.out] at HDL
    have HSV : Hid (S = V0.form) := Lib.hid (by rw [HV0.out]; exact HS.out)
    clear hDE
    have HVS : Hid (v = V0) := Lib.hid HV0.out.symm
    clear HV0 HS HCK
    obtain ⟨c, t, k, b, l⟩ := v
    go_enter Tryz.func8, Tryz.ntmps8
    go_upto_region 1 with (refine wpList_box_rws rfl _ _ (by rfl) (by exact hR) (dvC ⟨c, t, k, b, l⟩ ad cp) rfl ?_; intro g2 w1 hR)
    have hg2 : w.heap.size ≤ g2 := (hR.row (g2, dvC ⟨c, t, k, b, l⟩ ad cp, 24) (by repeat (first | exact List.Mem.head _ | refine List.Mem.tail _ ?_))).1
    go_upto_region 2 with (first
      | (refine wpList_load_rws rfl _ _ (by rfl) (by exact hR) g2 rfl (dvC ⟨c, t, k, b, l⟩ ad cp) _ (by repeat (first | exact List.Mem.head _ | refine List.Mem.tail _ ?_)) _ Tryz.underlying24 rfl (by kernel_rfl) ?_)
      | (go_at_call 14; refine (HPR.out _ hR.below).mono ?_; rintro e w2 ⟨rfl, hb2⟩; have hR := hR.call hb2))
    clear hb2
    go_upto_region 4 with (go_at_call 13; refine (HFX.out _ hR.below).mono ?_; rintro e w3 ⟨rfl, hb3⟩; have hR := hR.call hb3)
    clear hb3
    go_upto_region 8 with (first
      | (refine wpList_load_rws rfl _ _ (by rfl) (by exact hR) g2 rfl (dvC ⟨c, t, k, b, l⟩ ad cp) _ (by repeat (first | exact List.Mem.head _ | refine List.Mem.tail _ ?_)) _ Tryz.underlying24 rfl (by kernel_rfl) ?_)
      | (go_at_call 24; refine (HDP.out _ hR.below).mono ?_; rintro e w4 ⟨rfl, hb4⟩; have hR := hR.call hb4))
    clear hb4
    have HSQ : Hid (SlQ (fun x => x ≠ g2) w4 l ad cp) := Lib.hid (((slQ_of HSL.out).same (fun k hk _ => by omega) (fun k hk _ => hR.below.block k hk)))
    go_loopg [8] n (fun gg s8 wr => ∃ (i : Nat) (D : Dv) (ad' : Option Addr) (cp' : Nat), i ≤ n ∧ gg = n - i ∧ s8 = .int .i64 (i : Nat) ∧ Aside (D = V0.wraps i ∧ D.b.length ≤ SB ∧ D.b.length + 4 + D.l.wt ≤ 32768 + 4 * i)
      ∧ Aside (Rws w.heap.size w wr [(g2, dvC D ad' cp', 24)]) ∧ Aside (SlQ (fun x => x ≠ g2) wr D.l ad' cp'))
    case atStart => exact ⟨0, ⟨c, t, k, b, l⟩, ad, cp, Nat.zero_le _, rfl, rfl, ⟨HVS.out, HBB.out, HWT.out⟩, hR, HSQ.out⟩
    case round =>
      obtain ⟨i, D, ad', cp', hil, rfl, rfl, HD, HR, HQ⟩ := hrel
      have hR := HR.out
      by_cases hlt : i < n
      · have hltz : (i : Int) < (n : Int) := by omega
        obtain ⟨c', t', k', b', l'⟩ := D
        have hgl : g2 < wr.heap.size := hR.lt (x := (g2, dvC ⟨c', t', k', b', l'⟩ ad' cp', 24)) (by repeat (first | exact List.Mem.head _ | refine List.Mem.tail _ ?_))
        have HN : Hid (SlQ (fun x => x ≠ g2) (wr.alloc (.cells #[.int .i64 c', .int .i64 t', .bool k', .string (bs b'), .slice ad' l'.len cp'] 24)) (.cons c' t' k' b' l' .nil) (some ⟨wr.heap.size, 0, none⟩) 1) := Lib.hid (one_slq HD.out.2.1 HQ.out (by omega))
        obtain ⟨r4, hr4⟩ : ∃ r4, r4 = i % 4 := ⟨_, rfl⟩
        have hr4z : (i : Int) % 4 = (r4 : Int) := by omega
        have HR4 := Lib.hid hr4
        clear hr4
        go_wp2_with (first
          | (refine wpList_load_rws rfl _ _ (by rfl) (by exact hR) g2 rfl (dvC ⟨c', t', k', b', l'⟩ ad' cp') _ (by repeat (first | exact List.Mem.head _ | refine List.Mem.tail _ ?_)) _ Tryz.underlying24 rfl (by kernel_rfl) ?_)
          | (refine wQ_store rfl _ _ _ (by rfl) (by exact hR.alloc0 _) g2 rfl #[.int .i64 (r4 : Nat), .int .i64 16, .bool true, .string ⟨#[]⟩, .slice (some ⟨wr.heap.size, 0, none⟩) 1 1] (by rfl) _ _ _ (by repeat (first | exact Pick.here | apply Pick.there)) (by kernel_rfl) (by rfl) (by simp [Value.oneCell']) ?_; intro w6 hR hsm6 hsz6))
        go_roundg (n - (i + 1))
        case measure => omega
        case rel =>
          refine ⟨i + 1, (⟨c', t', k', b', l'⟩ : Dv).wrap (r4 : Nat), some ⟨wr.heap.size, 0, none⟩, 1, by omega, rfl, by go_num, ⟨?_, Nat.zero_le _, ?_⟩, hR, HN.out.same (fun _ h _ => h) (fun k hk _ => hsm6 k hk)⟩
          · rw [HR4.out, HD.out.1]; rfl
          · have := HD.out.2.2
            show 0 + 4 + (b'.length + 4 + l'.wt + 0) ≤ _
            omega
      · have hltz : ¬ (i : Int) < (n : Int) := by omega
        obtain rfl : i = n := by omega
        have hwt := HD.out.2.2
        have hDw := HD.out.1
        have HP2 : Hid (∀ u, Below wr.heap.size wr u → Calls Tryz.prog 14 #[dvv D ad' cp'] u fun e w' => e = .returned (.tuple #[.string (bs D.print.1), .int .i64 D.print.2]) ∧ Below u.heap.size u w') := Lib.hid fun u hu => Print_any D ad' cp' u (by omega) (HQ.out.sld.grown hu) (HG.out.below (hR.call hu).below)
        rw [← hDw] at HDL
        clear hwt
        by_cases hd : 16 < DE + i
        · have hdz : (16 : Int) < (DE : Int) + (i : Int) := by omega
          rw [(HDL.out.1 (by rw [← HDE.out]; exact hd))] at HP2
          have hze : (bs ([] : Bs)).toList = [] := by rw [bs_list]
          clear hDw
          obtain ⟨c', t', k', b', l'⟩ := D
          go_wp2_with (first
            | (refine wpList_load_rws rfl _ _ (by rfl) (by exact hR) g2 rfl (dvC ⟨c', t', k', b', l'⟩ ad' cp') _ (by repeat (first | exact List.Mem.head _ | refine List.Mem.tail _ ?_)) _ Tryz.underlying24 rfl (by kernel_rfl) ?_)
            | (go_at_call 14; refine (HP2.out _ (Below.refl _ _)).mono ?_; rintro e w7 ⟨rfl, hb7⟩; have hR := hR.call hb7))
          go_ret
          exact ⟨rfl, hR.below⟩
        · have hdz : ¬ (16 : Int) < (DE : Int) + (i : Int) := by omega
          obtain ⟨hpr, hpt⟩ := HDL.out.2 (by rw [← HDE.out]; omega)
          obtain ⟨p, hp4, hpf⟩ := V0.wraps_form i
          rw [← hDw, ← HSV.out] at hpf
          rw [hpr] at HP2
          obtain ⟨T, hT⟩ : ∃ T, T = D.form := ⟨_, rfl⟩
          rw [← hT] at HP2 hpt hpf
          have hTl : T.length = p.length + L := by rw [hpf, List.length_append, HL.out]
          have HPT : Hid (∀ u, Below w.heap.size w u → Calls Tryz.prog 10 #[.string (bs T)] u (ParseP u (D, 0))) := Lib.hid fun u hu => by
            have h1 := Parse_any T u (by omega) (HG.out.below hu)
            rw [hpt] at h1
            exact h1
          have zt := bs_size T
          have HPF := Lib.hid hpf
          have HTL := Lib.hid hTl
          clear hDw hpr hpt hpf hT hTl
          obtain ⟨c', t', k', b', l'⟩ := D
          go_upto_region 12 with (first
            | (refine wpList_load_rws rfl _ _ (by rfl) (by exact hR) g2 rfl (dvC ⟨c', t', k', b', l'⟩ ad' cp') _ (by repeat (first | exact List.Mem.head _ | refine List.Mem.tail _ ?_)) _ Tryz.underlying24 rfl (by kernel_rfl) ?_)
            | (go_at_call 14; refine (HP2.out _ (Below.refl _ _)).mono ?_; rintro e w7 ⟨rfl, hb7⟩; have hR := hR.call hb7))
          have HQ7 : Hid (SlD w7 l' ad' cp') := Lib.hid (HQ.out.sld.grown hb7)
          clear hb7
          go_upto_region 14 with fail
          go_upto_region 15 with (first
            | (go_at_call 10; refine (HPT.out _ hR.below).mono ?_; rintro e w8 ⟨ad5, cp5, rfl, hs5, _, hb8⟩; have hR := hR.call hb8)
            | (refine wQ_alloc (cs := dvC .zero none 0) rfl _ (by rfl) (by exact hR) zero_der ?_; intro g11 w9 hR hb9 hg9)
            | (refine wQ_store rfl _ _ _ (by rfl) (by exact hR) g11 rfl (dvC ⟨c', t', k', b', l'⟩ ad5 cp5) (by rfl) _ _ _ (by repeat (first | exact Pick.here | apply Pick.there)) (by kernel_rfl) (by rfl) (dv_one _ _ _) ?_; intro w10 hR hsm10 hsz10))
          have HS5 : Hid (SlD w10 l' ad5 cp5) := Lib.hid ((hs5.kept (fun k hk _ => by rw [hsm10 k (by omega), hb9.block k hk])).sld)
          have HQX : Hid (SlD w10 l' ad' cp') := Lib.hid (((slQ_of HQ7.out).same (Q' := fun _ => True) (fun _ _ _ => trivial) (fun k hk _ => by rw [hsm10 k (by have := hb8.size; omega), hb9.block k (by have := hb8.size; omega), hb8.block k hk])).sld)
          clear hs5 hb8 hb9 hg9 hsm10 hsz10
          have HSA : Hid (∀ u, Below w10.heap.size w10 u → Calls Tryz.prog 12 #[dvv ⟨c', t', k', b', l'⟩ ad5 cp5, dvv ⟨c', t', k', b', l'⟩ ad' cp'] u (RetB true u)) := Lib.hid fun u hu => same_any ⟨c', t', k', b', l'⟩ ad5 cp5 ad' cp' u (HS5.out.grown hu) (HQX.out.grown hu)
          have x0 := hR.cellAt (g := g11) (by repeat (first | exact List.Mem.head _ | refine List.Mem.tail _ ?_)) 0 rfl
          have x1 := hR.cellAt (g := g11) (by repeat (first | exact List.Mem.head _ | refine List.Mem.tail _ ?_)) 1 rfl
          have x2 := hR.cellAt (g := g11) (by repeat (first | exact List.Mem.head _ | refine List.Mem.tail _ ?_)) 2 rfl
          have x3 := hR.cellAt (g := g11) (by repeat (first | exact List.Mem.head _ | refine List.Mem.tail _ ?_)) 3 rfl
          have x4 := hR.cellAt (g := g11) (by repeat (first | exact List.Mem.head _ | refine List.Mem.tail _ ?_)) 4 rfl
          have y0 := hR.cellAt (g := g2) (by repeat (first | exact List.Mem.head _ | refine List.Mem.tail _ ?_)) 0 rfl
          have y1 := hR.cellAt (g := g2) (by repeat (first | exact List.Mem.head _ | refine List.Mem.tail _ ?_)) 1 rfl
          have y2 := hR.cellAt (g := g2) (by repeat (first | exact List.Mem.head _ | refine List.Mem.tail _ ?_)) 2 rfl
          have y3 := hR.cellAt (g := g2) (by repeat (first | exact List.Mem.head _ | refine List.Mem.tail _ ?_)) 3 rfl
          have y4 := hR.cellAt (g := g2) (by repeat (first | exact List.Mem.head _ | refine List.Mem.tail _ ?_)) 4 rfl
          obtain ⟨N, hN⟩ : ∃ N, N = p.length := ⟨_, rfl⟩
          have hTl := HTL.out
          rw [← hN] at hTl
          have hcut : (bs T).extract N (N + L) = bs S := by rw [bs_cut, List.take_of_length_le (by omega), HPF.out, hN, List.drop_left]
          have HCW := Lib.hid hcut
          have hNl : N ≤ 200 := by omega
          have heq : ((bs S).toList == (bs S).toList) = true := by simp
          have hsub : (N : Int) + (L : Int) - (L : Int) = (N : Int) := by omega
          clear hN hcut
          go_wp2_with (go_at_call 12; refine (HSA.out _ (Below.refl _ _)).mono ?_; rintro e w11 ⟨rfl, hb11⟩; have hR := hR.call hb11)
          rw [HCW.out, heq]
          go_ret
          exact ⟨rfl, hR.below⟩
  · rw [print_fell he] at HPR
    obtain ⟨E, hE⟩ : ∃ E, E = v.check := ⟨_, rfl⟩
    rw [← hE] at HPR he
    clear hE
    obtain ⟨c, t, k, b, l⟩ := v
    go_enter Tryz.func8, Tryz.ntmps8
    go_upto_region 1 with (refine wpList_box_rws rfl _ _ (by rfl) (by exact hR) (dvC ⟨c, t, k, b, l⟩ ad cp) rfl ?_; intro g2 w1 hR)
    have hg2 : w.heap.size ≤ g2 := (hR.row (g2, dvC ⟨c, t, k, b, l⟩ ad cp, 24) (by repeat (first | exact List.Mem.head _ | refine List.Mem.tail _ ?_))).1
    go_upto_region 2 with (first
      | (refine wpList_load_rws rfl _ _ (by rfl) (by exact hR) g2 rfl (dvC ⟨c, t, k, b, l⟩ ad cp) _ (by repeat (first | exact List.Mem.head _ | refine List.Mem.tail _ ?_)) _ Tryz.underlying24 rfl (by kernel_rfl) ?_)
      | (go_at_call 14; refine (HPR.out _ hR.below).mono ?_; rintro e w2 ⟨rfl, hb2⟩; have hR := hR.call hb2))
    clear hb2
    go_upto_region 4 with (go_at_call 13; refine (HFX.out _ hR.below).mono ?_; rintro e w3 ⟨rfl, hb3⟩; have hR := hR.call hb3)
    clear hb3
    go_wp2_with fail
    go_ret
    exact ⟨rfl, hR.below⟩
end Go.Proofs.YtebhiplcoioenaaGreatDoor.derDeep
