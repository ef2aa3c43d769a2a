/- der.read: the walk of a constructed value (gen_zread.py). -/
import Derived.Test.YtebhiplcoioenaaGreatDoorZDC
namespace Go.Proofs.YtebhiplcoioenaaGreatDoor
open Go.RowKit

def ReadAt (h : Nat) : Prop := ∀ (s : Bs) (p c : Nat) (w : World), Cur w c s p → Gd w → Calls Tryz.prog 33 #[.pointer (some ⟨c, 0, none⟩), .int .i64 ((16 - h : Nat) : Nat)] w (ReadQ w c s (rdS h (s.drop p)))
def joinR (F : Dr) (m : Int × Dr) : Int × Dr := if m.1 ≠ 0 then (m.1, .nil) else (0, F.app m.2)
theorem forms_count : ∀ F : Dr, (formsS F).length = F.len
  | .nil => rfl
  | .cons c t k b kids nx => by simp only [formsS, List.length_cons, Dr.len, forms_count nx]
theorem rdsF_fell (one : Bs → Int × Dv × Bs) : ∀ (f : Nat) (s : Bs), (rdsF one f s).1 ≠ 0 → (rdsF one f s).2 = .nil
  | 0, _, _ => rfl
  | f + 1, s, h => by
    rw [rdsF] at h ⊢
    by_cases h1 : s.isEmpty = true
    · rw [if_pos h1]
    · rw [if_neg h1] at h ⊢
      simp only at h ⊢
      by_cases h2 : (one s).1 ≠ 0
      · rw [if_pos h2]
      · rw [if_neg h2] at h ⊢
        by_cases h3 : (rdsF one f (one s).2.2).1 ≠ 0
        · rw [if_pos h3]
        · rw [if_neg h3] at h; exact absurd rfl h
theorem join_nil (one : Bs → Int × Dv × Bs) (f : Nat) (s : Bs) : joinR .nil (rdsF one f s) = rdsF one f s := by
  unfold joinR
  by_cases h : (rdsF one f s).1 ≠ 0
  · rw [if_pos h, ← rdsF_fell one f s h]
  · rw [if_neg h]
    exact Prod.ext (Classical.byContradiction fun e => h (fun e2 => e e2.symm)) rfl
theorem join_step (F : Dr) (v : Dv) {m m2 : Int × Dr} (hm : m = if m2.1 ≠ 0 then (m2.1, .nil) else (0, .cons v.c v.t v.k v.b v.l m2.2)) : joinR F m = joinR (F.snoc v) m2 := by
  subst hm
  unfold joinR
  by_cases h : m2.1 ≠ 0
  · rw [if_pos h, if_pos h, if_pos h]
  · rw [if_neg h, if_neg h, if_neg (by simp), Dr.snoc_app]
theorem forms_snoc (v : Dv) : ∀ F : Dr, formsS (F.snoc v) = formsS F ++ [v.form]
  | .nil => rfl
  | .cons c t k b kids nx => by simp only [Dr.snoc, formsS, forms_snoc v nx, List.cons_append]
theorem Two.cons {B g : Nat} {G : List Nat} {w : World} {xs : List Bs} {F : Dr} {ks : List Value} {vf vk : Value} (h : Two B G w xs F ks vf vk) (hg : w.heap.size ≤ g) : Two B (g :: G) w xs F ks vf vk :=
  ⟨h.hS, h.hK, h.hC.same (fun k hq hl => ⟨hq.1, fun hm => by rcases List.mem_cons.1 hm with rfl | hm; omega; exact hq.2.1 hm, hq.2.2⟩) (fun _ _ _ => rfl), fun k hk e => by
    rcases List.mem_cons.1 hk with rfl | hk
    · obtain ⟨_, cs, fr, hh⟩ := own_lt h.hS e; have := (Array.getElem?_eq_some_iff.1 hh).1; omega
    · exact h.nS k hk e, fun k hk e => by
    rcases List.mem_cons.1 hk with rfl | hk
    · obtain ⟨_, cs, fr, hh⟩ := own_lt h.hK e; have := (Array.getElem?_eq_some_iff.1 hh).1; omega
    · exact h.nK k hk e⟩
theorem Two.uncons {B g : Nat} {G : List Nat} {w : World} {xs : List Bs} {F : Dr} {ks : List Value} {vf vk : Value} (h : Two B (g :: G) w xs F ks vf vk) : Two B G w xs F ks vf vk :=
  ⟨h.hS, h.hK, h.hC.same (fun _k hq _ => ⟨hq.1, fun hm => hq.2.1 (List.Mem.tail _ hm), hq.2.2⟩) (fun _ _ _ => rfl), fun k hk => h.nS k (List.Mem.tail _ hk), fun k hk => h.nK k (List.Mem.tail _ hk)⟩
set_option maxRecDepth 100000 in
set_option maxHeartbeats 8000000 in
theorem read_cons (s r : Bs) (x : UInt8) (p c h n : Nat) (w : World) (hn : n = 16 - h) (hC : Cur w c s p) (hd : s.drop p = x :: r) (he : headE (dX x).c (dX x).t (dX x).k [] 0 n = 0) (hp : Nat) (IH : ReadAt hp) (hh : h = hp + 1) (hh16 : h ≤ 16) (hz : (sizeS r).1 = 0) (hlen : (sizeS r).2.1 ≤ (sizeS r).2.2.length) (hk : (dX x).k = true) (hg : Gd w) : Calls Tryz.prog 33 #[.pointer (some ⟨c, 0, none⟩), .int .i64 n] w (ReadQ w c s (rdS h (s.drop p))) := by
  have hSB := SB_eq
  have hr1 : s.drop (p + 1) = r := by rw [← List.drop_drop, hd]; rfl
  have hx : rdS h (s.drop p) = (if (rdsF (rdS hp) ((sizeS r).2.2.take (sizeS r).2.1).length ((sizeS r).2.2.take (sizeS r).2.1)).1 ≠ 0 then ((rdsF (rdS hp) ((sizeS r).2.2.take (sizeS r).2.1).length ((sizeS r).2.2.take (sizeS r).2.1)).1, .zero, []) else if (dX x).c = 0 ∧ (dX x).t = 17 ∧ riseB (formsS (rdsF (rdS hp) ((sizeS r).2.2.take (sizeS r).2.1).length ((sizeS r).2.2.take (sizeS r).2.1)).2) = false then (61, .zero, []) else (0, ⟨(dX x).c, (dX x).t, true, [], (rdsF (rdS hp) ((sizeS r).2.2.take (sizeS r).2.1).length ((sizeS r).2.2.take (sizeS r).2.1)).2⟩, (sizeS r).2.2.drop (sizeS r).2.1)) := by
    rw [hd, rdS_B, ← hn, rdB]
    simp only
    rw [if_neg (by rw [he]; simp), if_neg (by rw [hz]; simp), if_neg (by omega), if_neg (fun e => by have e2 : (dX x).k = false := e; rw [hk] at e2; cases e2), hh]
    rfl
  have hR := Rws.begin hC.row
  have HB : Hid (∀ u, Cur u c s p → Calls Tryz.prog 61 #[.pointer (some ⟨c, 0, none⟩)] u fun e w' => e = .returned (.tuple #[.int .u8 (x.toNat : Nat), .int .i64 0]) ∧ Cur w' c s (p + 1) ∧ Bes c u w') := Lib.hid fun u hu => Byte_ok s r x p c u hu hd
  have HH : Hid (∀ u, Calls Tryz.prog 62 #[dvv (dX x) none 0, .int .i64 n] u fun e w' => e = .returned .nilIface ∧ Below u.heap.size u w') := Lib.hid fun u => by
    have := head_any (dX x) none 0 n u
    rw [show (dX x).l.len = 0 from rfl, he] at this
    exact this
  have HSZ : Hid (∀ u, Cur u c s (p + 1) → Calls Tryz.prog 63 #[.pointer (some ⟨c, 0, none⟩)] u (SizeQ u c s (sizeS r))) := Lib.hid fun u hu => by
    have := size_any s (p + 1) c u hu
    rw [hr1] at this
    exact this
  have HC := Lib.hid hC
  have hlt := hC.lt
  have hzl : (sizeS r).2.1 < 65536 := (sizeS_form (s := r) (r := (sizeS r).2.2) (n := (sizeS r).2.1) (Prod.ext hz rfl)).2
  obtain ⟨z, hzz⟩ : ∃ z, z = sizeS r := ⟨_, rfl⟩
  rw [← hzz] at HSZ hz hlen hzl hx
  obtain ⟨C, T, hv⟩ : ∃ C T, dX x = ⟨C, T, true, [], .nil⟩ := ⟨(dX x).c, (dX x).t, congrArg (fun k => (⟨(dX x).c, (dX x).t, k, [], .nil⟩ : Dv)) hk⟩
  rw [hv] at hx
  have HV := Lib.hid hv
  have HX := Lib.hid hx
  have HZ := Lib.hid hz
  have HZL := Lib.hid hzl
  have HGD := Lib.hid hg
  have hn1 : n + 1 = 16 - hp := by omega
  have HIH := Lib.hid IH
  have HN1 := Lib.hid hn1
  clear hC hd hx hn hzz hz hr1 he hzl hg hk hv hn1 IH hh hh16
  have hxl : x.toNat < 256 := x.toNat_lt
  go_enter Tryz.func33, Tryz.ntmps33
  go_upto_region 1 with (refine wpList_alloc_rws rfl _ (by rfl) (by exact hR) (dvC .zero none 0) zero_der ?_; intro g4 w1 hR)
  have HC1 : Hid (Cur w1 c s p) := Lib.hid ⟨by rw [hR.below.block c hlt]; exact heap_row HC.out.1, HC.out.2⟩
  go_upto_region 2 with (go_at_call 61; refine (HB.out _ HC1.out).mono ?_; rintro e w2 ⟨rfl, hc2, hb2⟩; have hR := hR.bes0 hlt HC.out.1 hb2 hc2.row)
  go_upto_region 5 with (first
    | (refine wpList_alloc_rws rfl _ (by rfl) (by exact hR) (dvC .zero none 0) zero_der ?_; intro g8 w3 hR)
    | (refine wpList_store_rws rfl _ _ _ (by rfl) (by exact hR) g8 rfl (rawC x) (by rfl) _ _ _ (by repeat (first | exact Pick.here | apply Pick.there)) (by kernel_rfl) (by rfl) (raw_one x) ?_; intro w4 hR))
  rw [raw_eq] at hR
  go_upto_region 6 with (first
    | (refine wpList_load_rws rfl _ _ (by rfl) (by exact hR) g8 rfl (dvC (dX x) none 0) _ (by repeat (first | exact List.Mem.head _ | refine List.Mem.tail _ ?_)) _ Tryz.underlying24 rfl (by kernel_rfl) ?_)
    | (go_at_call 62; refine (HH.out _).mono ?_; rintro e w5 ⟨rfl, hb5⟩; have hR := hR.call hb5))
  have HC5 : Hid (Cur w5 c s (p + 1)) := Lib.hid ⟨by rw [hR.below.block c hlt]; exact heap_row HC.out.1, hc2.2⟩
  go_upto_region 9 with (go_at_call 63; refine (HSZ.out _ HC5.out).mono ?_; rintro e w6 (⟨_, rfl, ⟨q, hc6, hq6⟩, hb6⟩ | ⟨hq, _⟩); have hR := hR.bes0 hlt HC.out.1 hb6 hc6.row; rotate_left; exact absurd HZ.out hq)
  have hm : z.2.1 ≤ s.length - q := by rw [← List.length_drop, hq6]; exact hlen
  have HWI := Lib.hid (Within_ok s q c z.2.1 w6 hc6 hm)
  have hin : ((s.drop q).take z.2.1).length = z.2.1 := by rw [List.length_take, List.length_drop]; omega
  have hmore : s.drop (q + z.2.1) = z.2.2.drop z.2.1 := by rw [← List.drop_drop, hq6]
  rw [hq6] at HWI hin
  have hzl := HZL.out
  have HMO := Lib.hid hmore
  clear hlen hm hq6 hmore
  obtain ⟨inner, hinner⟩ : ∃ inner, inner = z.2.2.take z.2.1 := ⟨_, rfl⟩
  obtain ⟨more, hmo⟩ : ∃ more, more = z.2.2.drop z.2.1 := ⟨_, rfl⟩
  rw [← hinner] at HWI hin HX
  rw [← hmo] at HMO HX
  generalize z.2.1 = m at *
  clear hinner hmo HSZ HZ
  rw [HV.out] at hR
  go_upto_region 12 with (go_at_call 64; refine HWI.out.mono ?_; rintro e w7 ⟨d, rfl, hdl, hcd, hc7, hb7⟩; have hR := (hR.bes0 hlt HC.out.1 hb7 hc7.row).add (Nat.le_trans hR.len hdl) hcd.row (fun y hy e => by have := hR.lt hy; omega))
  have f2 := hR.cellAt (g := g8) (by repeat (first | exact List.Mem.head _ | refine List.Mem.tail _ ?_)) 2 rfl
  have HCL := Lib.hid (Clone_any inner 0 d w7 hcd)
  go_upto_region 21 with (go_at_call 67; refine HCL.out.mono ?_; rintro e w8 ⟨g, rfl, hgl, hcg, hb8⟩; have hR := (hR.call hb8).add (Nat.le_trans hR.len hgl) hcg.row (fun y hy e => by have := hR.lt hy; omega))
  clear f2
  have H2 : Two w.heap.size [g, d, g8, g4] w8 [] .nil [] (.slice none 0 0) (.slice none 0 0) := Two.start _ _
  obtain ⟨N, hN⟩ : ∃ N, N = rdsF (rdS hp) inner.length inner := ⟨_, rfl⟩
  go_loopg [13] inner.length (fun gg s13 wr => ∃ (a f : Nat) (F : Dr) (xs : List Bs) (ks : List Value) (vf : Value) (ad : Option Addr) (cp : Nat), a ≤ inner.length ∧ gg = inner.length - a ∧ s13 = vf
    ∧ Aside (Rws w.heap.size (w.setRow c (curC s (q + m))) wr [(g, curC inner a, 81), (d, curC inner a, 81), (g8, dvC ⟨C, T, true, [], F⟩ ad cp, 24), (g4, dvC .zero none 0, 24)])
    ∧ Aside (Two w.heap.size [g, d, g8, g4] wr xs F ks vf (.slice ad F.len cp)) ∧ Aside (xs = formsS F) ∧ Aside (N = joinR F (rdsF (rdS hp) f (inner.drop a)) ∧ inner.length - a ≤ f ∧ F.len ≤ a))
  case atStart => exact ⟨0, inner.length, .nil, [], [], _, none, 0, Nat.zero_le _, rfl, rfl, hR, H2, rfl, by rw [hN, List.drop_zero]; exact (join_nil _ _ _).symm, by omega, Nat.le_refl _⟩
  case round =>
    obtain ⟨a, f, F, xs, ks, vf, ad, cp, hal, rfl, hvf, HRA, HTW, HXS, HNN⟩ := hrel
    have hvf := hvf.symm
    subst hvf
    have hRw := HRA.out
    have hcw : Cur wr d inner a := ⟨(hRw.row (d, curC inner a, 81) (by repeat (first | exact List.Mem.head _ | refine List.Mem.tail _ ?_))).2, hal, by omega⟩
    have HLE := Lib.hid (Left_any inner a d wr hcw)
    by_cases hlt2 : a < inner.length
    · have hz2 : (0 : Int) < ((inner.length - a : Nat) : Int) := by omega
      generalize hl : inner.length - a = left at *
      have HLZ : Hid (Calls Tryz.prog 35 #[.pointer (some ⟨d, 0, none⟩)] wr fun e w' => e = .returned (.int .i64 (left : Nat)) ∧ ∃ k, w' = wr.drewN k) := Lib.hid HLE.out
      have hne : inner.drop a ≠ [] := by rw [Ne, List.drop_eq_nil_iff]; omega
      obtain ⟨f2, rfl⟩ : ∃ f2, f = f2 + 1 := ⟨f - 1, by have := HNN.out.2.1; omega⟩
      obtain ⟨X, hX⟩ : ∃ X, X = rdS hp (inner.drop a) := ⟨_, rfl⟩
      have HST : Hid (rdsF (rdS hp) (f2 + 1) (inner.drop a) = if X.1 ≠ 0 then (X.1, .nil) else if (rdsF (rdS hp) f2 X.2.2).1 ≠ 0 then ((rdsF (rdS hp) f2 X.2.2).1, .nil) else (0, .cons X.2.1.c X.2.1.t X.2.1.k X.2.1.b X.2.1.l (rdsF (rdS hp) f2 X.2.2).2)) := Lib.hid (by
        rw [rdsF, if_neg (by simpa using hne), hX])
      have HCW := Lib.hid hcw
      have HRD := Lib.hid hRw
      have HIR : Hid (∀ u, Cur u d inner a → Gd u → Calls Tryz.prog 33 #[.pointer (some ⟨d, 0, none⟩), .int .i64 ((n : Int) + 1)] u (ReadQ u d inner X)) := Lib.hid fun u hu hg => by
        have := HIH.out inner a d u hu hg
        rw [← HN1.out, ← hX] at this
        exact this
      have HAT : Hid (∀ u b, Cur u d inner b → Calls Tryz.prog 68 #[.pointer (some ⟨d, 0, none⟩)] u fun e w' => e = .returned (.int .i64 (b : Nat)) ∧ w' = u) := Lib.hid fun u b hu => At_any inner b d u hu
      have HNA := Lib.hid hN
      have HAL := Lib.hid hal
      have HXX := Lib.hid hX
      have hn15 : n ≤ 15 := by have := HN1.out; omega
      have HLL := Lib.hid hl
      clear HLE hN hal hRw hcw HRA hR H2 hgl hcg hb8 HCL hcd hc6 hb7 hdl hne hX hlt2 hl
      go_upto_region 22 with (go_at_call 35; refine HLZ.out.mono ?_; rintro e w9 ⟨rfl, nd, rfl⟩)
      have hb9 := below_drewN wr nd
      have hR9 := HRD.out.call hb9
      have H29 := Lib.hid (HTW.out.below hb9)
      have HC9 := Lib.hid (HCW.out.below hb9)
      generalize wr.drewN nd = u9 at *
      have HR9 := Lib.hid hR9
      have HG9 : Hid (Gd u9) := Lib.hid (HGD.out.turned HC.out.1 hR9.below)
      clear hb9 hR9
      by_cases hX1 : X.1 = 0
      · have HIO : Hid (Calls Tryz.prog 33 #[.pointer (some ⟨d, 0, none⟩), .int .i64 ((n : Int) + 1)] u9 fun e w' => (∃ ad1 cp1, e = .returned (.tuple #[dvv X.2.1 ad1 cp1, .nilIface]) ∧ SlQ (fun k => u9.heap.size ≤ k) w' X.2.1.l ad1 cp1) ∧ X.2.1.b.length ≤ SB ∧ (∃ q, Cur w' d inner q ∧ inner.drop q = X.2.2) ∧ Bes d u9 w') := Lib.hid ((HIR.out u9 HC9.out HG9.out).mono fun e w' hh => by
          rcases hh with ⟨_, h1, h2, h3, h4⟩ | ⟨h1, _⟩
          · obtain ⟨ad1, cp1, h5, h6, _⟩ := h1
            exact ⟨⟨ad1, cp1, h5, h6⟩, h2, h3, h4⟩
          · exact absurd hX1 h1)
        go_upto_region 23 with (go_at_call 68; refine (HAT.out _ _ HC9.out).mono ?_; rintro e w10 ⟨rfl, rfl⟩)
        have hR := HR9.out
        go_upto_region 24 with (first
          | (go_at_call 33; refine HIO.out.mono ?_; rintro e w11 ⟨⟨ad1, cp1, rfl, hsl1⟩, hbl1, ⟨q1, hq1, hdr1⟩, hb11⟩; have hR := hR.besL (by repeat (first | exact Pick.here | apply Pick.there)) hb11 hq1.row; have H211 := Lib.hid (H29.out.bes (by simp) hb11))
          | (refine wQ_alloc (cs := dvC .zero none 0) rfl _ (by rfl) (by exact hR) zero_der ?_; intro g16 w12 hR hb12 hg16; have H212 := Lib.hid ((H211.out.cons hg16).below hb12))
          | (refine wQ_store rfl _ _ _ (by rfl) (by exact hR) g16 rfl (dvC X.2.1 ad1 cp1) (by rfl) _ _ _ (by repeat (first | exact Pick.here | apply Pick.there)) (by kernel_rfl) (by rfl) (dv_one _ _ _) ?_; intro w13 hR hsm13 hsz13; have H213 := Lib.hid (H212.out.same fun k _ _ hn => hsm13 k (fun e => hn (by rw [e]; simp)))))
        have hcg13 : Cur w13 g inner a := ⟨(hR.row (g, curC inner a, 81) (by repeat (first | exact List.Mem.head _ | refine List.Mem.tail _ ?_))).2, HAL.out, by omega⟩
        have hcd13 : Cur w13 d inner q1 := ⟨(hR.row (d, curC inner q1, 81) (by repeat (first | exact List.Mem.head _ | refine List.Mem.tail _ ?_))).2, hq1.2⟩
        obtain ⟨fm, hfm⟩ : ∃ fm, fm = X.2.1.form := ⟨_, rfl⟩
        have hdv : inner.drop a = fm ++ inner.drop q1 := by
          have := (rdS_form hp (by have := HN1.out; omega) (inner.drop a) X.2.1 X.2.2 (by rw [← HXX.out]; exact Prod.ext hX1 rfl)).1
          rw [hdr1, hfm]; exact this
        have hq1l := hq1.2.1
        have hal2 := HAL.out
        have hqa : q1 = a + fm.length := by
          have h1 := congrArg List.length hdv
          rw [List.length_append, List.length_drop, List.length_drop] at h1
          omega
        obtain ⟨W, hW⟩ : ∃ W, W = fm.length := ⟨_, rfl⟩
        have HTK := Lib.hid (Take_ok inner a g W w13 hcg13 (by omega))
        rw [hdv, List.take_left' hW.symm] at HTK
        have hsub : (q1 : Int) - (a : Int) = (W : Int) := by omega
        have HAT13 := Lib.hid (HAT.out w13 q1 hcd13)
        have hq1b : q1 ≤ 65536 := by omega
        have hab : a ≤ q1 := by omega
        have HFM := Lib.hid hfm
        have HQA := Lib.hid hqa
        have HWW := Lib.hid hW
        clear hdv hfm hqa hcd13 hcg13 hal2 hW
        go_upto_region 27 with (first
          | (go_at_call 68; refine HAT13.out.mono ?_; rintro e w14 ⟨rfl, rfl⟩)
          | (go_at_call 65; refine HTK.out.mono ?_; rintro e w15 ⟨rfl, hcg15, hb15⟩; have hR := hR.besL (by repeat (first | exact Pick.here | apply Pick.there)) hb15 hcg15.row; have H215 := Lib.hid (H213.out.bes (by simp) hb15)))
        have l16 := hR.lt (x := (g16, dvC X.2.1 ad1 cp1, 24)) (by repeat (first | exact List.Mem.head _ | refine List.Mem.tail _ ?_))
        have lg := hR.lt (x := (g, curC inner (a + fm.length), 81)) (by rw [← HWW.out]; repeat (first | exact List.Mem.head _ | refine List.Mem.tail _ ?_))
        have ld := hR.lt (x := (d, curC inner q1, 81)) (by repeat (first | exact List.Mem.head _ | refine List.Mem.tail _ ?_))
        have l8 := hR.lt (x := (g8, dvC ⟨C, T, true, [], F⟩ ad cp, 24)) (by repeat (first | exact List.Mem.head _ | refine List.Mem.tail _ ?_))
        have l4 := hR.lt (x := (g4, dvC .zero none 0, 24)) (by repeat (first | exact List.Mem.head _ | refine List.Mem.tail _ ?_))
        have hGl : ∀ y, y ∈ [g16, g, d, g8, g4] → y < w15.heap.size := fun y hy => by
          simp only [List.mem_cons, List.not_mem_nil, or_false] at hy
          rcases hy with rfl | rfl | rfl | rfl | rfl
          · exact l16
          · exact lg
          · exact ld
          · exact l8
          · exact l4
        have HGL := Lib.hid hGl
        have hxk : xs.length + 1 ≤ 3000000 := by
          have h1 := HNN.out.2.2
          have h2 : xs.length = F.len := by rw [HXS.out]; exact forms_count F
          omega
        clear l16 lg ld l8 l4 hGl
        go_upto_region 28 with (at_builtin; refine wp_twoS rfl _ _ (by rfl) fm (by rfl) (by rfl) H215.out hR (fun y hy => by simp only [List.mem_cons, List.not_mem_nil, or_false] at hy ⊢; rcases hy with rfl | rfl | rfl | rfl | rfl <;> simp) HGL.out hxk ?_; intro vf2 w16 h216 hR hs16 hsm16 hvf16)
        have hkid : SlQ (fun x => w.heap.size ≤ x ∧ x ∉ [g16, g, d, g8, g4] ∧ vf2.ownBlock ≠ some x ∧ (Value.slice ad F.len cp).ownBlock ≠ some x) w16 X.2.1.l ad1 cp1 := by
          have hu := HR9.out.len
          have k9 : ∀ y, y ∈ [g, d, g8, g4] → y < w10.heap.size := fun y hy => by
            simp only [List.mem_cons, List.not_mem_nil, or_false] at hy
            rcases hy with rfl | rfl | rfl | rfl
            · exact HR9.out.lt (x := (y, curC inner a, 81)) (by repeat (first | exact List.Mem.head _ | refine List.Mem.tail _ ?_))
            · exact HR9.out.lt (x := (y, curC inner a, 81)) (by repeat (first | exact List.Mem.head _ | refine List.Mem.tail _ ?_))
            · exact HR9.out.lt (x := (y, dvC ⟨C, T, true, [], F⟩ ad cp, 24)) (by repeat (first | exact List.Mem.head _ | refine List.Mem.tail _ ?_))
            · exact HR9.out.lt (x := (y, dvC .zero none 0, 24)) (by repeat (first | exact List.Mem.head _ | refine List.Mem.tail _ ?_))
          have hvf9 : ∀ k, w10.heap.size ≤ k → vf.ownBlock ≠ some k := fun k hk e => by
            obtain ⟨_, cs, fr, h3⟩ := own_lt H29.out.hS e
            have := (Array.getElem?_eq_some_iff.1 h3).1
            omega
          have hvk9 : ∀ k, w10.heap.size ≤ k → (Value.slice ad F.len cp).ownBlock ≠ some k := fun k hk e => by
            obtain ⟨_, cs, fr, h3⟩ := own_lt H29.out.hK e
            have := (Array.getElem?_eq_some_iff.1 h3).1
            omega
          have z12 := hb12.size
          have z15 := hb15.size
          refine hsl1.same (fun k hk hl => ⟨by omega, fun hm => ?_, hvf16 k (by omega) (hvf9 k hk), hvk9 k hk⟩) (fun k hk hl => ?_)
          · rcases List.mem_cons.1 hm with h5 | h5
            · omega
            · have := k9 k h5; omega
          · have n16 : k ≠ g16 := by omega
            have ng : k ≠ g := fun e => by have := k9 g (List.Mem.head _); omega
            rw [hsm16 k (by omega) (hvf9 k hk), hb15.same k (by omega) ng, hsm13 k n16, hb12.block k hl]
        have hFk : F.len + 1 ≤ 1000000 := by
          have h1 := HNN.out.2.2
          omega
        have hwl : 1 ≤ W := by
          have h1 := Dv.form_ne X.2.1
          rw [← HFM.out] at h1
          have h2 := List.length_pos_iff.2 h1
          rw [HWW.out]; exact h2
        have HK := Lib.hid hkid
        have H216 := Lib.hid h216
        have HGL2 : Hid (∀ y, y ∈ [g16, g, d, g8, g4] → y < w16.heap.size) := Lib.hid fun y hy => Nat.lt_of_lt_of_le (HGL.out y hy) hs16
        have f84 := hR.cellAt (g := g8) (by repeat (first | exact List.Mem.head _ | refine List.Mem.tail _ ?_)) 4 rfl
        clear hkid h216 hsm16 hvf16 hs16 hb12 hb15 hb11 hsl1 hsm13 hsz13 hg16
        go_wp2_with (first
          | (refine wpList_load_rws rfl _ _ (by rfl) (by exact hR) g16 rfl (dvC X.2.1 ad1 cp1) _ (by repeat (first | exact List.Mem.head _ | refine List.Mem.tail _ ?_)) _ Tryz.underlying24 rfl (by kernel_rfl) ?_)
          | (at_builtin; refine wp_twoK rfl _ _ (by rfl) X.2.1 ad1 cp1 (by rfl) (by rfl) H216.out hR (fun y hy => by simp only [List.mem_cons, List.not_mem_nil, or_false] at hy ⊢; rcases hy with rfl | rfl | rfl | rfl | rfl <;> simp) HGL2.out hFk hbl1 HK.out ?_; intro vk2 w17 h217 hR hs17; obtain ⟨ad2, cp2, rfl, _⟩ := h217.slq; have H217 := Lib.hid h217; clear h217)
          | (refine wS_storec (g := g8) (k := 4) (new := dvC ⟨C, T, true, [], F.snoc X.2.1⟩ ad2 cp2) rfl (by rfl) (by exact hR) rfl rfl (by repeat (first | exact Pick.here | apply Pick.there)) rfl (by kernel_rfl) (by exact (show 4 < 5 by decide)) (by rfl) rfl ?_; intro w18 hR hsm18 hsz18))
        have H218 := H217.out.same (fun k _ _ hn => hsm18 k (fun e => hn (by rw [e]; simp)))
        have hR := hR.front (x := (g4, dvC .zero none 0, 24)) (by repeat (first | exact Pick.here | apply Pick.there))
        have hR := hR.front (x := (g8, dvC ⟨C, T, true, [], F.snoc X.2.1⟩ ad2 cp2, 24)) (by repeat (first | exact Pick.here | apply Pick.there))
        have hR := hR.front (x := (d, curC inner q1, 81)) (by repeat (first | exact Pick.here | apply Pick.there))
        have hR := hR.front (x := (g, curC inner (a + fm.length), 81)) (by rw [← HWW.out]; repeat (first | exact Pick.here | apply Pick.there))
        rw [← HQA.out] at hR
        have hR := hR.sub (L' := [(g, curC inner q1, 81), (d, curC inner q1, 81), (g8, dvC ⟨C, T, true, [], F.snoc X.2.1⟩ ad2 cp2, 24), (g4, dvC .zero none 0, 24)]) (by repeat (first | exact List.Sublist.refl _ | exact List.nil_sublist _ | apply List.Sublist.cons_cons))
        go_roundg (inner.length - q1)
        case measure => have := HLL.out; have := HAL.out; have := HQA.out; have := HWW.out; omega
        case rel =>
          refine ⟨q1, f2, F.snoc X.2.1, xs ++ [fm], _, vf2, ad2, cp2, hq1l, rfl, rfl, hR, H218.uncons, ?_, ?_, ?_, ?_⟩
          · show xs ++ [fm] = formsS (F.snoc X.2.1)
            rw [forms_snoc, HXS.out, HFM.out]
          · rw [HNN.out.1]
            refine join_step F X.2.1 ?_
            rw [HST.out, if_neg (by rw [hX1]; simp), hdr1]
          · have := HLL.out; have := HNN.out.2.1; have := HQA.out; have := HWW.out; omega
          · rw [Dr.snoc_len]; have := HNN.out.2.2; have := HQA.out; have := HWW.out; omega
      · have HXE : Hid (rdS h (s.drop p) = (X.1, .zero, [])) := Lib.hid (by
          have e1 : rdsF (rdS hp) inner.length inner = (X.1, .nil) := by
            rw [← HNA.out, HNN.out.1, HST.out, if_pos hX1]
            unfold joinR
            rw [if_pos hX1]
          rw [HX.out, e1, if_pos hX1])
        have HIE : Hid (Calls Tryz.prog 33 #[.pointer (some ⟨d, 0, none⟩), .int .i64 ((n : Int) + 1)] u9 fun e w' => (∃ v ad1 cp1 T x, e = .returned (.tuple #[dvv v ad1 cp1, .iface T x]) ∧ ∃ m, ErrV X.1 m (.iface T x)) ∧ (∃ q, Cur w' d inner q) ∧ Bes d u9 w') := Lib.hid ((HIR.out u9 HC9.out HG9.out).mono fun e w' hh => by
          rcases hh with ⟨h1, _⟩ | ⟨_, ⟨v, ad1, cp1, er, he, m, hV⟩, h3, h4⟩
          · exact absurd h1 hX1
          · refine ⟨?_, h3, h4⟩
            cases hV with
            | wrong => exact ⟨v, ad1, cp1, _, _, he, 0, .wrong⟩
            | part m p v2 hv => exact ⟨v, ad1, cp1, _, _, he, _, .part m p v2 hv⟩)
        have HXN := Lib.hid hX1
        clear hX1 HST HIR
        go_upto_region 23 with (go_at_call 68; refine (HAT.out _ _ HC9.out).mono ?_; rintro e w10 ⟨rfl, rfl⟩)
        have hR := HR9.out
        go_upto_region 24 with (first
          | (go_at_call 33; refine HIE.out.mono ?_; rintro e w11 ⟨⟨v1, ad1, cp1, TT, xx, rfl, mm, hV⟩, ⟨q1, hq1⟩, hb11⟩; have hR := hR.besL (by repeat (first | exact Pick.here | apply Pick.there)) hb11 hq1.row)
          | (refine wpList_alloc_rws rfl _ (by rfl) (by exact hR) (dvC .zero none 0) zero_der ?_; intro g16 w12 hR)
          | (refine wpList_store_rws rfl _ _ _ (by rfl) (by exact hR) g16 rfl (dvC v1 ad1 cp1) (by rfl) _ _ _ (by repeat (first | exact Pick.here | apply Pick.there)) (by kernel_rfl) (by rfl) (dv_one _ _ _) ?_; intro w13 hR))
        go_wp2_with (refine wpList_store_rws rfl _ _ _ (by rfl) (by exact hR) g4 rfl (dvC .zero none 0) (by rfl) _ _ _ (by repeat (first | exact Pick.here | apply Pick.there)) (by kernel_rfl) (by kernel_rfl) (by kernel_rfl) ?_; intro w14 hR)
        have HR := Lib.hid hR
        refine bodyPost_rws2 rfl HR.out g4 rfl _ _ (List.Mem.head _) _ Tryz.underlying24 rfl (by kernel_rfl) _ rfl rfl (fun hbz => ?_)
        rw [HXE.out]
        exact Or.inr ⟨HXN.out, ⟨.zero, none, 0, ptV (a : Nat) (.iface TT xx), rfl, _, ErrV.part mm _ _ hV⟩, ⟨q + m, by rw [hbz.block c hlt]; exact heap_row HC.out.1, hc7.2⟩, Bes.of0 hbz⟩
    · obtain rfl : a = inner.length := by omega
      have HLZ : Hid (Calls Tryz.prog 35 #[.pointer (some ⟨d, 0, none⟩)] wr fun e w' => e = .returned (.int .i64 0) ∧ ∃ k, w' = wr.drewN k) := Lib.hid (by
        have := HLE.out
        rw [Nat.sub_self] at this
        exact this)
      have hN2 : rdsF (rdS hp) inner.length inner = (0, F) := by
        rw [← hN, HNN.out.1, List.drop_length]
        have : rdsF (rdS hp) f [] = (0, .nil) := by cases f <;> rfl
        rw [this]
        unfold joinR
        rw [if_neg (by simp)]
        exact congrArg (fun g => ((0 : Int), g)) (Dr.app_nil F)
      have HX2 : Hid (rdS h (s.drop p) = if C = 0 ∧ T = 17 ∧ riseB xs = false then (61, .zero, []) else (0, ⟨C, T, true, [], F⟩, more)) := Lib.hid (by rw [HX.out, hN2, HXS.out, if_neg (by simp)])
      have hxl : xs.length ≤ 1048576 := by
        have h1 := HNN.out.2.2
        have h2 : (formsS F).length = F.len := forms_count F
        rw [HXS.out, h2]; omega
      have HTW2 := Lib.hid HTW.out
      have hRd := Lib.hid hRw
      clear HLE hN2 hN HNN HXS hlt2 hal hRw hcw HRA HTW hR H2 hgl hcg hb8 HCL hcd hc6 hb7 hdl
      go_upto_region 29 with (go_at_call 35; refine HLZ.out.mono ?_; rintro e w9 ⟨rfl, nd, rfl⟩)
      have hb9 := below_drewN wr nd
      have hR9 := hRd.out.call hb9
      have h29 := HTW2.out.below hb9
      generalize wr.drewN nd = u9 at *
      have HR9 := Lib.hid hR9
      have H29 := Lib.hid h29
      have HRI := Lib.hid (rising_own h29.hS hxl)
      have f0 := hR9.cellAt (g := g8) (by repeat (first | exact List.Mem.head _ | refine List.Mem.tail _ ?_)) 0 rfl
      have f1 := hR9.cellAt (g := g8) (by repeat (first | exact List.Mem.head _ | refine List.Mem.tail _ ?_)) 1 rfl
      clear hR9 h29 hb9
      by_cases hc : C = 0 ∧ T = 17
      · obtain ⟨rfl, rfl⟩ := hc
        cases hr : riseB xs with
        | true =>
          have HX3 : Hid (rdS h (s.drop p) = (0, ⟨0, 17, true, [], F⟩, more)) := Lib.hid (by rw [HX2.out, if_neg (by rw [hr]; simp)])
          rw [hr] at HRI
          clear hr
          go_upto_region 31 with (go_at_call 69; refine HRI.out.mono ?_; rintro e w10 ⟨rfl, hb10⟩)
          have hR := HR9.out.call hb10
          have H210 := Lib.hid (H29.out.below hb10)
          clear f0 f1 hb10
          go_wp2_with (first
            | (refine wpList_load_rws rfl _ _ (by rfl) (by exact hR) g8 rfl (dvC ⟨0, 17, true, [], F⟩ ad cp) _ (by repeat (first | exact List.Mem.head _ | refine List.Mem.tail _ ?_)) _ Tryz.underlying24 rfl (by kernel_rfl) ?_)
            | (refine wQ_store rfl _ _ _ (by rfl) (by exact hR) g4 rfl (dvC ⟨0, 17, true, [], F⟩ ad cp) (by rfl) _ _ _ (by repeat (first | exact Pick.here | apply Pick.there)) (by kernel_rfl) (by rfl) (dv_one _ _ _) ?_; intro w11 hR hsm hsz))
          have HR := Lib.hid hR
          have H211 := Lib.hid (H210.out.same fun k _ _ hn => hsm k (fun e => hn (by rw [e]; simp)))
          refine bodyPost_rws2 rfl HR.out g4 rfl _ _ (List.Mem.head _) _ Tryz.underlying24 rfl (by kernel_rfl) _ rfl rfl (fun hbz => ?_)
          rw [HX3.out]
          obtain ⟨ad2, cp2, hsl, hslq⟩ := H211.out.slq
          obtain ⟨rfl, _, rfl⟩ : ad = ad2 ∧ F.len = F.len ∧ cp = cp2 := by simpa using hsl
          exact Or.inl ⟨rfl, ⟨ad, cp, rfl, hslq⟩, Nat.zero_le _, ⟨q + m, ⟨by rw [hbz.block c hlt]; exact heap_row HC.out.1, hc7.2⟩, HMO.out⟩, Bes.of0 hbz⟩
        | false =>
          have HX3 : Hid (rdS h (s.drop p) = (61, .zero, [])) := Lib.hid (by rw [HX2.out, if_pos ⟨rfl, rfl, hr⟩])
          rw [hr] at HRI
          clear hr
          go_upto_region 31 with (go_at_call 69; refine HRI.out.mono ?_; rintro e w10 ⟨rfl, hb10⟩)
          have hR := HR9.out.call hb10
          have H210 := Lib.hid (H29.out.below hb10)
          clear f0 f1 hb10
          go_wp2_with (first
            | (refine wpList_load_rws rfl _ _ (by rfl) (by exact hR) g8 rfl (dvC ⟨0, 17, true, [], F⟩ ad cp) _ (by repeat (first | exact List.Mem.head _ | refine List.Mem.tail _ ?_)) _ Tryz.underlying24 rfl (by kernel_rfl) ?_)
            | (refine wQ_store rfl _ _ _ (by rfl) (by exact hR) g4 rfl (dvC ⟨0, 17, true, [], F⟩ ad cp) (by rfl) _ _ _ (by repeat (first | exact Pick.here | apply Pick.there)) (by kernel_rfl) (by rfl) (dv_one _ _ _) ?_; intro w11 hR hsm hsz))
          have HR := Lib.hid hR
          have H211 := Lib.hid (H210.out.same fun k _ _ hn => hsm k (fun e => hn (by rw [e]; simp)))
          refine bodyPost_rws2 rfl HR.out g4 rfl _ _ (List.Mem.head _) _ Tryz.underlying24 rfl (by kernel_rfl) _ rfl rfl (fun hbz => ?_)
          rw [HX3.out]
          exact Or.inr ⟨by decide, ⟨⟨0, 17, true, [], F⟩, ad, cp, _, rfl, 0, ErrV.wrong⟩, ⟨q + m, by rw [hbz.block c hlt]; exact heap_row HC.out.1, hc7.2⟩, Bes.of0 hbz⟩
      · have HX3 : Hid (rdS h (s.drop p) = (0, ⟨C, T, true, [], F⟩, more)) := Lib.hid (by rw [HX2.out, if_neg (fun hh => hc ⟨hh.1, hh.2.1⟩)])
        have hb10 := Below.refl u9.heap.size u9
        by_cases hc0 : C = 0
        · subst hc0
          have hcz : (T == 17) = false := by simpa using hc
          clear hc
          go_upto_region 31 with fail
          have hR := HR9.out.call hb10
          have H210 := Lib.hid (H29.out.below hb10)
          clear f0 f1 hb10
          go_wp2_with (first
            | (refine wpList_load_rws rfl _ _ (by rfl) (by exact hR) g8 rfl (dvC ⟨0, T, true, [], F⟩ ad cp) _ (by repeat (first | exact List.Mem.head _ | refine List.Mem.tail _ ?_)) _ Tryz.underlying24 rfl (by kernel_rfl) ?_)
            | (refine wQ_store rfl _ _ _ (by rfl) (by exact hR) g4 rfl (dvC ⟨0, T, true, [], F⟩ ad cp) (by rfl) _ _ _ (by repeat (first | exact Pick.here | apply Pick.there)) (by kernel_rfl) (by rfl) (dv_one _ _ _) ?_; intro w11 hR hsm hsz))
          have HR := Lib.hid hR
          have H211 := Lib.hid (H210.out.same fun k _ _ hn => hsm k (fun e => hn (by rw [e]; simp)))
          refine bodyPost_rws2 rfl HR.out g4 rfl _ _ (List.Mem.head _) _ Tryz.underlying24 rfl (by kernel_rfl) _ rfl rfl (fun hbz => ?_)
          rw [HX3.out]
          obtain ⟨ad2, cp2, hsl, hslq⟩ := H211.out.slq
          obtain ⟨rfl, _, rfl⟩ : ad = ad2 ∧ F.len = F.len ∧ cp = cp2 := by simpa using hsl
          exact Or.inl ⟨rfl, ⟨ad, cp, rfl, hslq⟩, Nat.zero_le _, ⟨q + m, ⟨by rw [hbz.block c hlt]; exact heap_row HC.out.1, hc7.2⟩, HMO.out⟩, Bes.of0 hbz⟩
        · have hcz : (C == 0) = false := by simpa using hc0
          clear hc hc0
          go_upto_region 31 with fail
          have hR := HR9.out.call hb10
          have H210 := Lib.hid (H29.out.below hb10)
          clear f0 f1 hb10
          go_wp2_with (first
            | (refine wpList_load_rws rfl _ _ (by rfl) (by exact hR) g8 rfl (dvC ⟨C, T, true, [], F⟩ ad cp) _ (by repeat (first | exact List.Mem.head _ | refine List.Mem.tail _ ?_)) _ Tryz.underlying24 rfl (by kernel_rfl) ?_)
            | (refine wQ_store rfl _ _ _ (by rfl) (by exact hR) g4 rfl (dvC ⟨C, T, true, [], F⟩ ad cp) (by rfl) _ _ _ (by repeat (first | exact Pick.here | apply Pick.there)) (by kernel_rfl) (by rfl) (dv_one _ _ _) ?_; intro w11 hR hsm hsz))
          have HR := Lib.hid hR
          have H211 := Lib.hid (H210.out.same fun k _ _ hn => hsm k (fun e => hn (by rw [e]; simp)))
          refine bodyPost_rws2 rfl HR.out g4 rfl _ _ (List.Mem.head _) _ Tryz.underlying24 rfl (by kernel_rfl) _ rfl rfl (fun hbz => ?_)
          rw [HX3.out]
          obtain ⟨ad2, cp2, hsl, hslq⟩ := H211.out.slq
          obtain ⟨rfl, _, rfl⟩ : ad = ad2 ∧ F.len = F.len ∧ cp = cp2 := by simpa using hsl
          exact Or.inl ⟨rfl, ⟨ad, cp, rfl, hslq⟩, Nat.zero_le _, ⟨q + m, ⟨by rw [hbz.block c hlt]; exact heap_row HC.out.1, hc7.2⟩, HMO.out⟩, Bes.of0 hbz⟩
end Go.Proofs.YtebhiplcoioenaaGreatDoor
