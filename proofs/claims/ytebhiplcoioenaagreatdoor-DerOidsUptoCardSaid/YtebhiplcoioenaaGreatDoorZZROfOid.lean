/- ostiaryref06.group, OfOid: the walks (gen_zrofoid.py). -/
import Derived.Test.YtebhiplcoioenaaGreatDoorZZROid
import Derived.Test.YtebhiplcoioenaaGreatDoorZZRSplit
import Derived.Test.YtebhiplcoioenaaGreatDoorZZAppB
import Derived.Test.YtebhiplcoioenaaGreatDoorZZOfOid
namespace Go.Proofs.YtebhiplcoioenaaGreatDoor
open Go.RowKit

theorem bin_lss3 (a b : Int) {r : Bool} (h : decide (a < b) = r) (W : World) : (binOp .lss 3 (.int .i64 a) (.int .i64 b)).run Tryz.prog W = .ok (.bool r) W := by
  rw [← h]; kernel_rfl
theorem bin_gtr3 (a b : Int) {r : Bool} (h : decide (b < a) = r) (W : World) : (binOp .gtr 3 (.int .i64 a) (.int .i64 b)).run Tryz.prog W = .ok (.bool r) W := by
  rw [← h]; kernel_rfl
theorem wp_rowM {w1 : World} {ops : Array Oper} {rest : List Oper} {o : Oper} {a : Act} {Q : Exit → Act → World → Prop} (hgd : o.guard = none) (x : Operand) (ho : o.op = .convert 9 68 x) {l : Bs} (hx : a.eval x = .string (bs l)) (hl : l.length ≤ 140737488355328)
    (h : ∀ cap w2, RowM w2 w1.heap.size w1.heap.size cap l → Below w1.heap.size w1 w2 → wpList Tryz.prog ops Q rest (a.put o.dst (.slice (some ⟨w1.heap.size, 0, none⟩) l.length cap)) w2) : wpList Tryz.prog ops Q (o :: rest) a w1 := by
  obtain ⟨cap, w2, hr, hrow, hb⟩ := conv_row w1 l hl
  refine wpList_plain hgd fun K hK => ?_
  unfold Oper.wp execOp
  simp only [ho, hx, Sem.run_bind, hr, Result.andThen_ok]
  exact hK _ _ (h cap w2 hrow hb)
theorem own_texts {B : Nat} {w : World} {v : Value} {l : List Bs} (h : OwnS B w v l) (h0 : l ≠ []) : ∃ bl c, v = .slice (some ⟨bl, 0, none⟩) l.length c ∧ l.length ≤ c ∧ c ≤ MX ∧ bl < w.heap.size ∧ CE l bl w := by
  have ho := h
  obtain ⟨hl, ⟨_, h1⟩ | ⟨g, cap, cur, rfl, hg, hh, hn, hcm, hcs, htk⟩⟩ := h
  · exact absurd (List.eq_nil_of_length_eq_zero h1) h0
  · refine ⟨g, cap, rfl, hn, hcm, (Array.getElem?_eq_some_iff.1 hh).1, fun j y hj => ?_⟩
    have hc := World.ownsRow.cells ho (g := g) rfl j (.string (bs y)) (by unfold StC; rw [List.getElem?_map, hj]; rfl)
    rw [Addr.add_lit, Nat.zero_add] at hc
    exact hc
set_option maxRecDepth 100000 in
set_option maxHeartbeats 4000000 in
theorem RGroup_any (n : Nat) (hn : n ≤ 34359738367) (w : World) : Calls Tryz.prog 49 #[.int .i64 (n : Nat)] w fun e w' => e = .returned (.string (bs (grpB n))) ∧ Below w.heap.size w w' := by
  obtain ⟨c, hc⟩ : ∃ c, c = UInt8.ofNat (n % 128) := ⟨_, rfl⟩
  have hcn : c.toNat = n % 128 := by rw [hc]; exact u8_lt _ (by omega)
  have hcv := fun u => conv_1 c ((n : Int) % 128) (by omega) u
  obtain ⟨G, hG⟩ : ∃ G, G = grpB n := ⟨_, rfl⟩
  have HG : Hid (G = grpT (n / 128) ++ [c]) := Lib.hid (by rw [hG, hc]; rfl)
  have HGL : Hid (G.length ≤ 5) := Lib.hid (by rw [hG]; exact grpB_len hn)
  rw [← hG]
  have HB0 := Lib.hid (b_alloc w (.cells #[.int .u8 ((n : Int) % 128)] 5))
  clear hc hcn hG
  go_enter Tryz.func49, Tryz.ntmps49
  go_upto_region 3 with fail
  clear hcv
  go_loopg [0, 3] (n / 128) (fun gg s0 s3 wr => ∃ (m : Nat) (S : Bs), gg = m ∧ s0 = .int .i64 (m : Nat) ∧ s3 = .string (bs S) ∧ Aside (G = grpT m ++ S ∧ m ≤ 34359738367) ∧ Aside (Below w.heap.size w wr))
  case atStart => exact ⟨n / 128, [c], rfl, rfl, rfl, ⟨HG.out, by omega⟩, HB0.out⟩
  case round =>
    obtain ⟨gm, S, rfl, rfl, rfl, HA, HB⟩ := hrel
    clear HB0
    have hml := HA.out.2
    by_cases hm : gk = 0
    · subst hm
      have HE : Hid (G = S) := Lib.hid (by rw [HA.out.1, grpT_zero]; rfl)
      go_wp2_with fail
      go_ret
      rw [HE.out]
      exact ⟨rfl, HB.out⟩
    · have hmz : (0 : Int) < (gk : Int) := by omega
      obtain ⟨d, hd⟩ : ∃ d, d = UInt8.ofNat (128 + gk % 128) := ⟨_, rfl⟩
      have hdn : d.toNat = 128 + gk % 128 := by rw [hd]; exact u8_lt _ (by omega)
      have hcv := fun u => conv_1 d (128 + (gk : Int) % 128) (by omega) u
      have HA2 : Hid (G = grpT (gk / 128) ++ (d :: S)) := Lib.hid (by rw [HA.out.1, grpT_pos hm, hd]; simp)
      have HSB : Hid (bs [d] ++ bs S = bs (d :: S)) := Lib.hid (by rw [bs_app2]; rfl)
      have zd : (bs [d]).size = 1 := bs_size [d]
      have zS := bs_size S
      have hSl : S.length ≤ 5 := by have h1 := HGL.out; rw [HA.out.1, List.length_append] at h1; omega
      have HB2 := Lib.hid (HB.out.trans ((b_alloc wr (.cells #[.int .u8 (128 + (gk : Int) % 128)] 5)).mono HB.out.size))
      clear hd hdn HA hm
      go_wp2_with fail
      rw [HSB.out]
      go_roundg (gk / 128)
      case measure => omega
      case rel => exact ⟨gk / 128, d :: S, rfl, by go_num, rfl, ⟨HA2.out, by omega⟩, HB2.out⟩
theorem numT_ge : ∀ (k n : Nat), 10 ^ k ≤ n → k + 1 ≤ (numT n).length
  | 0, n, _ => by
    have := List.length_pos_iff.2 (numT_dig n).2.2
    omega
  | k + 1, n, h => by
    rw [Nat.pow_succ] at h
    have hk : 1 ≤ 10 ^ k := Nat.one_le_pow _ _ (by decide)
    rw [numT_big (by omega), List.length_append]
    have := numT_ge k (n / 10) (by omega)
    simp only [List.length_cons, List.length_nil]
    omega
theorem grp_num {n : Nat} (h : n ≤ 2147483647) : (grpB n).length ≤ (numT n).length := by
  have hg : (grpB n).length = (grpT (n / 128)).length + 1 := by unfold grpB; simp
  have key : ∀ k, n / 128 < 128 ^ k → 10 ^ k ≤ n → (grpB n).length ≤ (numT n).length := fun k h1 h2 => by
    have a1 := grpT_le k _ h1
    have a2 := numT_ge k n h2
    omega
  by_cases h0 : n < 128
  · have := List.length_pos_iff.2 (numT_dig n).2.2
    rw [hg, show n / 128 = 0 by omega, grpT_zero]
    exact this
  · by_cases h1 : n < 16384
    · exact key 1 (by omega) (by omega)
    · by_cases h2 : n < 2097152
      · exact key 2 (by omega) (by omega)
      · by_cases h3 : n < 268435456
        · exact key 3 (by omega) (by omega)
        · exact key 4 (by omega) (by omega)
theorem tail_grp : ∀ l : List Nat, (∀ n ∈ l, n ≤ 2147483647) → ((l.map grpB).flatten).length + l.length ≤ (tailT l).length
  | [], _ => Nat.le_refl _
  | n :: l, h => by
    have h1 := grp_num (h n (List.mem_cons_self ..))
    have h2 := tail_grp l fun m hm => h m (List.mem_cons_of_mem _ hm)
    simp only [List.map_cons, List.flatten_cons, List.length_append, List.length_cons, tailT]; omega
theorem oid_fits {s : Bs} {a b : Nat} {r : List Nat} (h : a :: b :: r = (splitW s).map fun w => (digS w).toNat) (hw : (splitW s).all wordR = true) (hr : ∀ n ∈ r, n ≤ 2147483647) : ((r.map grpB).flatten).length + r.length + 3 ≤ s.length := by
  have h1 : splitW s = (a :: b :: r).map numT := by
    rw [h, List.map_map]
    exact ((List.map_congr_left fun w hm => (wordR_of (List.all_eq_true.1 hw w hm)).1.symm).trans (List.map_id _)).symm
  have h2 := join_split s
  rw [h1, List.map_cons, text_tail] at h2
  rw [← h2]
  have ha := List.length_pos_iff.2 (numT_dig a).2.2
  have hb := List.length_pos_iff.2 (numT_dig b).2.2
  have ht := tail_grp r hr
  simp only [List.length_append, tailT, List.length_cons]
  omega
set_option maxRecDepth 100000 in
set_option maxHeartbeats 16000000 in
theorem ROfOid_any (s : Bs) (w : World) (hs : s.length ≤ 1048576) : Calls Tryz.prog 19 #[.string (bs s)] w (RetDv w (ofOidR s)) := by
  have hSB := SB_eq
  have hMX := MX_eq
  have hR := Rws.start w
  obtain ⟨ws, hws⟩ : ∃ ws, ws = splitW s := ⟨_, rfl⟩
  obtain ⟨hwl, hww⟩ := splitW_len s
  have hne := split_ne s
  have HSP : Hid (∀ u, Calls Tryz.prog 47 #[.string (bs s)] u fun e w' => ∃ g c, e = .returned (.slice (some ⟨g, 0, none⟩) ws.length c) ∧ ws.length ≤ c ∧ c ≤ MX ∧ g < w'.heap.size ∧ CE ws g w' ∧ Below u.heap.size u w') := Lib.hid fun u => (RSplit_any s u hs).mono fun e w' hh => by
    obtain ⟨⟨v, rfl, ho⟩, hb⟩ := hh
    obtain ⟨g, c, rfl, h1, h2, h3, h4⟩ := own_texts ho hne
    exact ⟨g, c, by rw [hws], by rw [hws]; exact h1, h2, h3, by rw [hws]; exact h4, hb⟩
  have HBW : Hid (∀ x, x ∈ ws → wordR x = false → ofOidR s = (.zero, 61)) := Lib.hid fun x hx h => by
    unfold ofOidR
    rw [← hws, if_pos]
    cases hall : ws.all wordR with
    | false => rfl
    | true => rw [List.all_eq_true.1 hall x hx] at h; cases h
  have HXX : Hid (ws.all wordR = true → ofOidR s = match ws.map (fun w => (digS w).toNat) with
    | a :: b :: r => if 2 < a ∨ (a < 2 ∧ 39 < b) ∨ 2147483647 < 40 * a + b then (.zero, 61)
      else if (oidV (grpB (40 * a + b) ++ (r.map grpB).flatten)).check ≠ 0 then (.zero, 61) else (oidV (grpB (40 * a + b) ++ (r.map grpB).flatten), 0)
    | _ => (.zero, 61)) := Lib.hid fun h => by
    unfold ofOidR
    rw [← hws, if_neg (by rw [h]; decide)]
    rfl
  rw [← hws] at hwl hww hne
  have HWW := Lib.hid hww
  have HNE := Lib.hid hne
  have HFT : Hid (∀ a b r, a :: b :: r = ws.map (fun w => (digS w).toNat) → ws.all wordR = true → (∀ n ∈ r, n ≤ 2147483647) → ((r.map grpB).flatten).length + r.length + 3 ≤ s.length) := Lib.hid fun a b r h1 h2 h3 => oid_fits (by rw [← hws]; exact h1) (by rw [← hws]; exact h2) h3
  clear hws hww hne
  go_enter Tryz.func19, Tryz.ntmps19
  go_upto_region 1 with (refine wpList_alloc_rws rfl _ (by rfl) (by exact hR) (dvC .zero none 0) zero_der ?_; intro g2 w1 hR)
  go_upto_region 2 with (go_at_call 47; refine (HSP.out _).mono ?_; rintro e w2 ⟨gs, cs, rfl, hcs1, hcs2, hgs, hce, hb2⟩; have hR := hR.call hb2)
  have HCE := Lib.hid hce
  have hR3 := hR
  have HO0 := Lib.hid (own_empty (w := w2) (B := w2.heap.size) (size := 1) (e := 3) (Nat.le_refl _))
  have HB0 := Lib.hid (b_alloc w2 (.cells #[] 3))
  clear hce hb2 hR
  go_upto_region 4 with fail
  obtain ⟨wb, hwb⟩ : ∃ wb : World, wb = w2 := ⟨_, rfl⟩
  rw [← hwb] at hR3 HO0 HB0 HCE hgs
  go_loopg [5, 6, 7, 8] ws.length (fun gg s5 s6 _ _ wr => ∃ (i : Nat) (l : List Nat) (v : Value), i ≤ ws.length ∧ gg = ws.length - i ∧ s5 = v ∧ s6 = .int .i64 (i : Nat) ∧ Aside (OwnI wb.heap.size wr v l) ∧ Aside (l = (ws.take i).map fun w => (digS w).toNat) ∧ Aside ((ws.take i).all wordR = true) ∧ Aside (Below wb.heap.size wb wr))
  case atStart => exact ⟨0, [], _, Nat.zero_le _, rfl, rfl, rfl, (by rw [← hwb]; exact HO0.out), (show [] = (ws.take 0).map (fun w => (digS w).toNat) from rfl), (show (ws.take 0).all wordR = true from rfl), (by rw [← hwb]; exact HB0.out)⟩
  case round =>
    obtain ⟨i, l, v, hil, rfl, rfl, rfl, HO, HL, HAW, HB⟩ := hrel
    clear HO0 HB0 hwb
    by_cases hlt : i < ws.length
    · have hltz : (i : Int) < (ws.length : Int) := by omega
      obtain ⟨x, hx⟩ : ∃ x, ws[i]? = some x := ⟨ws[i], List.getElem?_eq_getElem hlt⟩
      have fx : wr.cell? ⟨gs, i, none⟩ = some (.string (bs x)) := (HB.out.cell (p := ⟨gs, i, none⟩) hgs).trans (HCE.out i x hx)
      have hxm : x ∈ ws := List.mem_of_getElem? hx
      have hxl : x.length ≤ 1048576 := by have := HWW.out x hxm; omega
      have zx := bs_size x
      have HTK : Hid (ws.take (i + 1) = ws.take i ++ [x]) := Lib.hid (by
        simp [List.take_add_one, hx])
      have hz : True := trivial
      cases x with
      | nil =>
        have HBAD := Lib.hid (HBW.out [] hxm rfl)
        have hze : (bs ([] : Bs)).toList.isEmpty = true := by rw [bs_list]; rfl
        have HNU : Hid (∀ u, Calls Tryz.prog 48 #[.string (bs ([] : Bs))] u fun e w' => (∃ z, e = .returned (.int .i64 z) ∧ (([] : Bs).length ≤ 18 → z = digS [])) ∧ w' = u) := Lib.hid fun u => number_any [] u (Nat.zero_le _)
        clear hx hxm hz
        have hR := hR3.call HB.out
        go_wp2_with (first
          | (go_at_call 48; refine (HNU.out _).mono ?_; rintro e w7 ⟨⟨z, rfl, hz⟩, rfl⟩)
          | (refine wpList_store_rws rfl _ _ _ (by rfl) (by exact hR) g2 rfl (dvC .zero none 0) (by rfl) _ _ _ (by repeat (first | exact Pick.here | apply Pick.there)) (by kernel_rfl) (by kernel_rfl) (by kernel_rfl) ?_; intro w9 hR))
        have HR := Lib.hid hR
        refine bodyPost_rws2 rfl HR.out g2 rfl _ _ (List.Mem.head _) _ Tryz.underlying24 rfl (by kernel_rfl) _ rfl rfl (fun hbz => ?_)
        rw [HBAD.out]
        exact ⟨rfl, rfl, hbz⟩
      | cons c r =>
        have hze := neStr c r
        have hlen : (c :: r).length = r.length + 1 := rfl
        have HNU : Hid (∀ u, Calls Tryz.prog 48 #[.string (bs (c :: r))] u fun e w' => (∃ z, e = .returned (.int .i64 z) ∧ ((c :: r).length ≤ 18 → z = digS (c :: r))) ∧ w' = u) := Lib.hid fun u => number_any (c :: r) u (by omega)
        go_upto_region 8 with (go_at_call 48; refine (HNU.out _).mono ?_; rintro e w7 ⟨⟨z, rfl, hz⟩, rfl⟩)
        have hR := hR3.call HB.out
        by_cases h10 : 10 < (c :: r).length
        · have h10z : (10 : Int) < (r.length : Int) + 1 := by simp only [List.length_cons] at h10; omega
          have HBAD := Lib.hid (HBW.out (c :: r) hxm (by unfold wordR; rw [decide_eq_true h10]; simp))
          clear hx hxm hz h10
          go_wp2_with (refine wpList_store_rws rfl _ _ _ (by rfl) (by exact hR) g2 rfl (dvC .zero none 0) (by rfl) _ _ _ (by repeat (first | exact Pick.here | apply Pick.there)) (by kernel_rfl) (by kernel_rfl) (by kernel_rfl) ?_; intro w9 hR)
          have HR := Lib.hid hR
          refine bodyPost_rws2 rfl HR.out g2 rfl _ _ (List.Mem.head _) _ Tryz.underlying24 rfl (by kernel_rfl) _ rfl rfl (fun hbz => ?_)
          rw [HBAD.out]
          exact ⟨rfl, rfl, hbz⟩
        · have h10z : ¬ (10 : Int) < (r.length : Int) + 1 := by simp only [List.length_cons] at h10; omega
          have hzd := hz (by omega)
          obtain ⟨N, hN⟩ : ∃ N, N = digS (c :: r) := ⟨_, rfl⟩
          rw [← hN] at hzd
          subst hzd
          have hg0 : ∀ h, (bs (c :: r))[0]'h = c := fun h => bs_get (c :: r) 0 c rfl h
          have hcz : ((c.toNat : Int) == 48) = decide (c = 48) := by
            by_cases hq : c = 48
            · subst hq; rfl
            · have : c.toNat ≠ 48 := fun e => hq (by rw [← u8_back c, e]; rfl)
              rw [decide_eq_false hq]; simp; omega
          by_cases hn0 : z < 0
          · have HBAD := Lib.hid (HBW.out (c :: r) hxm (by unfold wordR; rw [← hN, decide_eq_true hn0]; simp))
            clear hx hxm hz h10 hN
            go_wp2_with (refine wpList_store_rws rfl _ _ _ (by rfl) (by exact hR) g2 rfl (dvC .zero none 0) (by rfl) _ _ _ (by repeat (first | exact Pick.here | apply Pick.there)) (by kernel_rfl) (by kernel_rfl) (by kernel_rfl) ?_; intro w9 hR)
            have HR := Lib.hid hR
            refine bodyPost_rws2 rfl HR.out g2 rfl _ _ (List.Mem.head _) _ Tryz.underlying24 rfl (by kernel_rfl) _ rfl rfl (fun hbz => ?_)
            rw [HBAD.out]
            exact ⟨rfl, rfl, hbz⟩
          · by_cases hc48 : c = 48 ∧ 1 < (c :: r).length
            · obtain ⟨rfl, hl1⟩ := hc48
              have hl1z : (1 : Int) < (r.length : Int) + 1 := by simp only [List.length_cons] at hl1; omega
              have HBAD := Lib.hid (HBW.out (48 :: r) hxm (by unfold wordR; rw [decide_eq_true hl1]; simp))
              clear hx hxm hz h10 hN hl1
              go_wp2_with (refine wpList_store_rws rfl _ _ _ (by rfl) (by exact hR) g2 rfl (dvC .zero none 0) (by rfl) _ _ _ (by repeat (first | exact Pick.here | apply Pick.there)) (by kernel_rfl) (by kernel_rfl) (by kernel_rfl) ?_; intro w9 hR)
              have HR := Lib.hid hR
              refine bodyPost_rws2 rfl HR.out g2 rfl _ _ (List.Mem.head _) _ Tryz.underlying24 rfl (by kernel_rfl) _ rfl rfl (fun hbz => ?_)
              rw [HBAD.out]
              exact ⟨rfl, rfl, hbz⟩
            · have hcc : ((c.toNat : Int) == 48) = false ∨ (((c.toNat : Int) == 48) = true ∧ ¬ (1 : Int) < (r.length : Int) + 1) := by
                rw [hcz]
                by_cases hq : c = 48
                · exact Or.inr ⟨decide_eq_true hq, by have : ¬ 1 < (c :: r).length := fun h => hc48 ⟨hq, h⟩; simp only [List.length_cons] at this; omega⟩
                · exact Or.inl (decide_eq_false hq)
              by_cases hbig : 2147483647 < z
              · have HBAD := Lib.hid (HBW.out (c :: r) hxm (by unfold wordR; rw [← hN, decide_eq_true hbig]; simp))
                clear hx hxm hz h10 hN hc48 hcz
                rcases hcc with h1 | ⟨h1, h2⟩
                all_goals
                  go_wp2_with (refine wpList_store_rws rfl _ _ _ (by rfl) (by exact hR) g2 rfl (dvC .zero none 0) (by rfl) _ _ _ (by repeat (first | exact Pick.here | apply Pick.there)) (by kernel_rfl) (by kernel_rfl) (by kernel_rfl) ?_; intro w9 hR)
                  have HR := Lib.hid hR
                  refine bodyPost_rws2 rfl HR.out g2 rfl _ _ (List.Mem.head _) _ Tryz.underlying24 rfl (by kernel_rfl) _ rfl rfl (fun hbz => ?_)
                  rw [HBAD.out]
                  exact ⟨rfl, rfl, hbz⟩
              · obtain ⟨m, rfl⟩ := Int.eq_ofNat_of_zero_le (by omega : 0 ≤ z)
                have hm : m ≤ 2147483647 := by omega
                have HMD : Hid ((digS (c :: r)).toNat = m) := Lib.hid (by rw [← hN]; rfl)
                have HWR : Hid (wordR (c :: r) = true) := Lib.hid (by
                  unfold wordR
                  rw [← hN]
                  simp only [Bool.not_eq_true', Bool.or_eq_false_iff, decide_eq_false_iff_not, Bool.and_eq_false_iff, beq_eq_false_iff_ne, List.isEmpty_eq_false_iff]
                  refine ⟨⟨⟨⟨by simp, h10⟩, hn0⟩, ?_⟩, hbig⟩
                  by_cases hq : c = 48
                  · exact Or.inr (fun h => hc48 ⟨hq, h⟩)
                  · exact Or.inl (by simpa using hq))
                have HL2 : Hid (l ++ [m] = (ws.take (i + 1)).map fun w => (digS w).toNat) := Lib.hid (by rw [HTK.out, List.map_append, ← HL.out, List.map_cons, List.map_nil, HMD.out])
                have HW2 : Hid ((ws.take (i + 1)).all wordR = true) := Lib.hid (by rw [HTK.out, List.all_append, HAW.out]; simp [HWR.out])
                have hk : l.length + 1 ≤ 3000000 := by rw [HL.out, List.length_map, List.length_take]; omega
                clear hx hxm hz h10 hN hc48 hcz
                rcases hcc with h1 | ⟨h1, h2⟩
                all_goals
                  go_wp2_with (at_builtin; refine wp_snocI (w := wb) (B := wb.heap.size) rfl _ _ (by rfl) m (by rfl) (by rfl) HO.out (Nat.le_refl _) HB.out hk ?_; intro v' w2 hO2 hB2)
                  go_roundg (ws.length - (i + 1))
                  case measure => omega
                  case rel => exact ⟨i + 1, l ++ [m], v', by omega, rfl, rfl, by go_num, hO2, HL2.out, HW2.out, hB2⟩
    · have hltz : ¬ (i : Int) < (ws.length : Int) := by omega
      have HLW : Hid (l = ws.map (fun w => (digS w).toNat) ∧ ws.all wordR = true) := Lib.hid (by
        have h1 := HL.out
        have h2 := HAW.out
        rw [List.take_of_length_le (by omega)] at h1 h2
        exact ⟨h1, h2⟩)
      have HXR := Lib.hid (HXX.out HLW.out.2)
      rw [← HLW.out.1] at HXR
      have HLB : Hid (∀ n ∈ l, n ≤ 2147483647) := Lib.hid fun n hn => by
        rw [HLW.out.1] at hn
        obtain ⟨x, hx, rfl⟩ := List.mem_map.1 hn
        have := (wordR_of (List.all_eq_true.1 HLW.out.2 x hx)).2.2.2
        omega
      have HLN : Hid (l.length = ws.length) := Lib.hid (by rw [HLW.out.1, List.length_map])
      clear HXX HBW HL HAW
      match l, HO, HXR, HLB, HLN, HLW with
      | [], HO, HXR, HLB, HLN, HLW => exact absurd (List.eq_nil_of_length_eq_zero HLN.out.symm) HNE.out
      | [a], HO, HXR, HLB, HLN, HLW =>
        have HBAD : Hid (ofOidR s = (.zero, 61)) := Lib.hid HXR.out
        obtain ⟨bl, c5, rfl, hc1, hc2, hbl, hce⟩ := own_ints HO.out
        have hR := hR3.call HB.out
        clear hce HO
        go_upto_region 11 with fail
        go_quiet (fail)
        go_wp2_with (refine wpList_store_rws rfl _ _ _ (by rfl) (by exact hR.call (below_drewN _ _)) g2 rfl (dvC .zero none 0) (by rfl) _ _ _ (by repeat (first | exact Pick.here | apply Pick.there)) (by kernel_rfl) (by kernel_rfl) (by kernel_rfl) ?_; intro w9 hR)
        have HR := Lib.hid hR
        refine bodyPost_rws2 rfl HR.out g2 rfl _ _ (List.Mem.head _) _ Tryz.underlying24 rfl (by kernel_rfl) _ rfl rfl (fun hbz => ?_)
        rw [HBAD.out]
        exact ⟨rfl, rfl, hbz⟩
      | a :: b :: rest, HO, HXR, HLB, HLN, HLW =>
        have HRL : Hid (rest.length ≤ 1048577) := Lib.hid (by have := HLN.out; simp only [List.length_cons] at this; omega)
        have hrl := HRL.out
        obtain ⟨G0, hG0⟩ : ∃ G0, G0 = grpB (40 * a + b) := ⟨_, rfl⟩
        have HG0D := Lib.hid hG0
        have HXR : Hid (ofOidR s = if 2 < a ∨ (a < 2 ∧ 39 < b) ∨ 2147483647 < 40 * a + b then (.zero, 61)
          else if (oidV (G0 ++ (rest.map grpB).flatten)).check ≠ 0 then (.zero, 61) else (oidV (G0 ++ (rest.map grpB).flatten), 0)) := Lib.hid (by rw [HXR.out, hG0])
        have HFB : Hid (((rest.map grpB).flatten).length + rest.length + 3 ≤ s.length) := Lib.hid (HFT.out a b rest HLW.out.1 HLW.out.2 fun n hn => HLB.out n (List.mem_cons_of_mem _ (List.mem_cons_of_mem _ hn)))
        clear hG0
        have ha2 : a ≤ 2147483647 := HLB.out a (List.mem_cons_self ..)
        have hb2 : b ≤ 2147483647 := HLB.out b (List.mem_cons_of_mem _ (List.mem_cons_self ..))
        have HRB : Hid (∀ n ∈ rest, n ≤ 2147483647) := Lib.hid fun n hn => HLB.out n (List.mem_cons_of_mem _ (List.mem_cons_of_mem _ hn))
        obtain ⟨bl, c5, rfl, hc1, hc2, hbl, hce⟩ := own_ints HO.out
        have HCE := Lib.hid hce
        have hR := hR3.call HB.out
        have HC0 : Hid (∀ u, Below wr.heap.size wr u → u.cell? ⟨bl, 0 + 0 * 1, none⟩ = some (.int .i64 (a : Nat))) := Lib.hid fun u hb => (hb.cell (p := ⟨bl, 0, none⟩) hbl).trans (HCE.out 0 a rfl)
        have HC1 : Hid (∀ u, Below wr.heap.size wr u → u.cell? ⟨bl, 0 + 1 * 1, none⟩ = some (.int .i64 (b : Nat))) := Lib.hid fun u hb => (hb.cell (p := ⟨bl, 1, none⟩) hbl).trans (HCE.out 1 b rfl)
        have HL2 : Hid (decide (((rest.length + 2 : Nat) : Int) < 2) = false) := Lib.hid (decide_eq_false (by omega))
        have c0 := hce 0 a rfl
        have c1 := hce 1 b rfl
        have hl2z : ¬ (rest.length : Int) + 1 + 1 < 2 := by omega
        have hw1 : ∀ _ : True, IntKind.i64.wrap (40 * (a : Int)) = 40 * (a : Int) := fun _ => IntWalk.i64_in _ (by omega)
        have hw2 : ∀ _ : True, IntKind.i64.wrap (40 * (a : Int) + (b : Int)) = 40 * (a : Int) + (b : Int) := fun _ => IntWalk.i64_in _ (by omega)
        clear hce HO hlt
        go_upto_region 11 with fail
        by_cases h1 : 2 < a
        · have HA2 : (2 : Int) < (a : Int) := by omega
          have HBAD : Hid (ofOidR s = (.zero, 61)) := Lib.hid (by rw [HXR.out, if_pos (Or.inl h1)])
          clear HC0 HC1 HL2
          go_quiet (fail)
          go_wp2_with (refine wpList_store_rws rfl _ _ _ (by rfl) (by exact hR.call (below_drewN _ _)) g2 rfl (dvC .zero none 0) (by rfl) _ _ _ (by repeat (first | exact Pick.here | apply Pick.there)) (by kernel_rfl) (by kernel_rfl) (by kernel_rfl) ?_; intro w9 hR)
          have HR := Lib.hid hR
          refine bodyPost_rws2 rfl HR.out g2 rfl _ _ (List.Mem.head _) _ Tryz.underlying24 rfl (by kernel_rfl) _ rfl rfl (fun hbz => ?_)
          rw [HBAD.out]
          exact ⟨rfl, rfl, hbz⟩
        · have HA2 : ¬ (2 : Int) < (a : Int) := by omega
          by_cases h2 : a < 2
          · have HA3 : (a : Int) < (2 : Int) := by omega
            by_cases h3 : 39 < b
            · have HB3 : (39 : Int) < (b : Int) := by omega
              have HBAD : Hid (ofOidR s = (.zero, 61)) := Lib.hid (by rw [HXR.out, if_pos (Or.inr (Or.inl ⟨h2, h3⟩))])
              clear HC0 HC1 HL2
              go_quiet (fail)
              go_wp2_with (refine wpList_store_rws rfl _ _ _ (by rfl) (by exact hR.call (below_drewN _ _)) g2 rfl (dvC .zero none 0) (by rfl) _ _ _ (by repeat (first | exact Pick.here | apply Pick.there)) (by kernel_rfl) (by kernel_rfl) (by kernel_rfl) ?_; intro w9 hR)
              have HR := Lib.hid hR
              refine bodyPost_rws2 rfl HR.out g2 rfl _ _ (List.Mem.head _) _ Tryz.underlying24 rfl (by kernel_rfl) _ rfl rfl (fun hbz => ?_)
              rw [HBAD.out]
              exact ⟨rfl, rfl, hbz⟩
            · have HB3 : ¬ (39 : Int) < (b : Int) := by omega
              have HC3 : ¬ (2147483647 : Int) < 40 * (a : Int) + (b : Int) := by omega
              have HXR : Hid (ofOidR s = if (oidV (G0 ++ (rest.map grpB).flatten)).check ≠ 0 then (.zero, 61) else (oidV (G0 ++ (rest.map grpB).flatten), 0)) := Lib.hid (by rw [HXR.out, if_neg (by omega)])
              clear HC0 HC1 HL2
              go_quiet (fail)
              go_upto_region 13 with fail
              obtain ⟨w11, hw11⟩ : ∃ w11, w11 = wr.drewN nq := ⟨_, rfl⟩
              have hR := hR.call (below_drewN wr nq)
              have hb11 : Below wr.heap.size wr w11 := by rw [hw11]; exact below_drewN _ _
              rw [← hw11] at hR ⊢
              have hbl0 : bl < w11.heap.size := Nat.lt_of_lt_of_le hbl hb11.size
              have HCE : Hid (∀ (j : Nat) y, (a :: b :: rest)[j]? = some y → w11.cell? ⟨bl, j, none⟩ = some (.int .i64 (y : Nat))) := Lib.hid fun j y hj => (hb11.cell (p := ⟨bl, j, none⟩) hbl).trans (HCE.out j y hj)
              have hbl := hbl0
              have HC0 : Hid (∀ u, Below w11.heap.size w11 u → u.cell? ⟨bl, 0 + 0 * 1, none⟩ = some (.int .i64 (a : Nat))) := Lib.hid fun u hb => (hb.cell (p := ⟨bl, 0, none⟩) hbl).trans (HCE.out 0 a rfl)
              have HC1 : Hid (∀ u, Below w11.heap.size w11 u → u.cell? ⟨bl, 0 + 1 * 1, none⟩ = some (.int .i64 (b : Nat))) := Lib.hid fun u hb => (hb.cell (p := ⟨bl, 1, none⟩) hbl).trans (HCE.out 1 b rfl)
              have HG0 : Hid (∀ u, Below w11.heap.size w11 u → Calls Tryz.prog 49 #[.int .i64 (40 * a + b : Nat)] u (RW (Is (.string (bs G0))) u)) := Lib.hid fun u _ => by rw [HG0D.out]; exact (RGroup_any _ (by omega) u).mono fun _ _ h => rw_below h
              have HG0L : Hid (G0.length ≤ 5) := Lib.hid (by rw [HG0D.out]; exact grpB_len (by omega))
              have hg0l := HG0L.out
              have zg0 := bs_size G0
              clear hb11 hbl0 hw11
              refine wp_region_softG 9 (by kernel_rfl) (by kernel_rfl) (by rfl) hR ?_
              refine g_move (R := Is (.slice (some ⟨bl, 0, none⟩) ((b :: rest).length + 1) c5)) (by rfl) (stb_is _) (by exact fun _ _ _ h => h) ?_
              refine g_ixi (b := bl) (f := 0) (len := ((b :: rest).length + 1)) (c := c5) (i := 0) (by rfl) (by exact fun _ _ _ h => h) (by exact fun _ _ _ h => h) (by simp) ?_
              refine g_cellw (g := bl) (k := 0 + 0 * 1) (v := .int .i64 (a : Nat)) (R := Is (.int .i64 (a : Nat))) (by rfl) (by exact fun _ _ _ h => h) (HC0.out) isAgg_int (stb_is _) (by exact fun _ _ => rfl) ?_
              refine g_bin (v := .int .i64 40) (u := .int .i64 (a : Nat)) (r := .int .i64 (40 * a : Nat)) (by rfl) (by exact fun _ _ _ h => h) (by exact fun _ _ _ h => h) (by rfl) (fun W => bin_mul2 40 _ _ rfl (by omega) W) ?_
              refine g_move (R := Is (.slice (some ⟨bl, 0, none⟩) ((b :: rest).length + 1) c5)) (by rfl) (stb_is _) (by exact fun _ _ _ h => h) ?_
              refine g_ixi (b := bl) (f := 0) (len := ((b :: rest).length + 1)) (c := c5) (i := 1) (by rfl) (by exact fun _ _ _ h => h) (by exact fun _ _ _ h => h) (by simp) ?_
              refine g_cellw (g := bl) (k := 0 + 1 * 1) (v := .int .i64 (b : Nat)) (R := Is (.int .i64 (b : Nat))) (by rfl) (by exact fun _ _ _ h => h) (HC1.out) isAgg_int (stb_is _) (by exact fun _ _ => rfl) ?_
              refine g_bin (v := .int .i64 (40 * a : Nat)) (u := .int .i64 (b : Nat)) (r := .int .i64 (40 * a + b : Nat)) (by rfl) (by exact fun _ _ _ h => h) (by exact fun _ _ _ h => h) (by rfl) (fun W => bin_add2 _ _ _ rfl (by omega) W) ?_
              refine g_callK (f := 49) (xs := [.tmp 97]) [.int .i64 (40 * a + b : Nat)] (R := Is (.string (bs G0))) (by rfl) Tryz.func49 (by kernel_rfl) rfl (stb_is _) ⟨(by exact fun _ _ _ h => h), trivial⟩ (HG0.out) ?_
              intro w13 hR13 hb13 v90 h90 v91 h91 v92 h92 v93 h93 v94 h94 v95 h95 v96 h96 v97 h97 v98 h98
              simp only [softEnd, Act.put, List.setIfInBounds_toArray, List.set_cons_succ, List.set_cons_zero, List.drop_succ_cons, List.drop_zero]
              obtain rfl : v98 = .string (bs G0) := h98
              clear h90 h91 h92 h93 h94 h95 h96 h97
              clear HC0 HC1 HG0 hR
              go_upto_region 14 with (refine wp_rowM rfl _ (by rfl) (l := G0) (by rfl) (by omega) ?_; intro cap w14 hS14 hb14)
              have hR14 := hR13.call hb14
              have hbl14 : bl < w13.heap.size := Nat.lt_of_lt_of_le hbl hb13.size
              have HCE14 : Hid (∀ (j : Nat) y, (a :: b :: rest)[j]? = some y → w13.cell? ⟨bl, j, none⟩ = some (.int .i64 (y : Nat))) := Lib.hid fun j y hj => (hb13.cell (p := ⟨bl, j, none⟩) hbl).trans (HCE.out j y hj)
              have HR13 := Lib.hid hR13
              have HS14 := Lib.hid hS14
              have HB14 := Lib.hid hb14
              have HBL := Lib.hid hbl14
              clear hR13 hR14 hS14 hb14 hb13 hbl14 HCE hbl
              obtain ⟨K, hK⟩ : ∃ K, K = rest.length + 1 + 1 := ⟨_, rfl⟩
              have HK : Hid (K = rest.length + 2) := Lib.hid hK
              rw [← hK]
              clear hK hl2z
              go_upto_region 15 with fail
              obtain ⟨wd, hwd⟩ : ∃ wd : World, wd = w13 := ⟨_, rfl⟩
              rw [← hwd] at HR13 HS14 HB14 HBL HCE14 ⊢
              clear hwd
              go_loopg [9, 10] rest.length (fun gg s9 s10 wr => ∃ (q g' cap' : Nat) (T : Bs), q ≤ rest.length ∧ gg = rest.length - q ∧ s9 = .slice (some ⟨g', 0, none⟩) T.length cap' ∧ s10 = .int .i64 (q + 2 : Nat) ∧ Aside (T = G0 ++ ((rest.take q).map grpB).flatten) ∧ Aside (RowM wr wd.heap.size g' cap' T) ∧ Aside (Below wd.heap.size wd wr))
              case atStart => exact ⟨0, _, _, G0, Nat.zero_le _, rfl, rfl, rfl, (show G0 = G0 ++ ((rest.take 0).map grpB).flatten by rw [List.take_zero]; simp), HS14.out, HB14.out⟩
              case round =>
                obtain ⟨q, g', cap', T, hq, rfl, rfl, rfl, HT, HS, HB⟩ := hrel
                have hTl : T.length ≤ 5 * q + 5 := by
                  have h1 := grps_len (rest.take q) fun n hn => HRB.out n (List.mem_of_mem_take hn)
                  rw [List.length_take] at h1
                  have h2 := HG0L.out
                  rw [HT.out, List.length_append]; omega
                have hrl := HRL.out
                have zT := bs_size T
                by_cases hqlt : q < rest.length
                · have hqz : ((q + 2 : Nat) : Int) < (K : Int) := by have := HK.out; omega
                  obtain ⟨x, hx⟩ : ∃ x, rest[q]? = some x := ⟨rest[q], List.getElem?_eq_getElem hqlt⟩
                  have fx : wr.cell? ⟨bl, q + 2, none⟩ = some (.int .i64 (x : Nat)) := (HB.out.cell (p := ⟨bl, q + 2, none⟩) HBL.out).trans (HCE14.out (q + 2) x (by simpa using hx))
                  have hxl : x ≤ 2147483647 := HRB.out x (List.mem_of_getElem? hx)
                  have HGX : Hid (∀ u, Calls Tryz.prog 49 #[.int .i64 (x : Nat)] u fun e w' => e = .returned (.string (bs (grpB x))) ∧ Below u.heap.size u w') := Lib.hid fun u => RGroup_any x (by omega) u
                  have hgl : (grpB x).length ≤ 5 := grpB_len (by omega)
                  have HT2 : Hid (T ++ grpB x = G0 ++ ((rest.take (q + 1)).map grpB).flatten) := Lib.hid (by
                    rw [HT.out, List.take_add_one, hx]
                    simp)
                  obtain ⟨GX, hGX⟩ : ∃ GX, GX = grpB x := ⟨_, rfl⟩
                  rw [← hGX] at HGX hgl HT2
                  have hB0 := Lib.hid HB.out
                  clear hx hxl hGX HT
                  go_wp2_with (first
                    | (go_at_call 49; refine (HGX.out _).mono ?_; rintro e w8 ⟨rfl, hb8⟩)
                    | (at_builtin; refine wp_appT (w := wd) (B := wd.heap.size) rfl _ _ (by rfl) GX (by rfl) (by rfl) (HS.out.below hb8) (Nat.le_refl _) (hB0.out.trans (hb8.mono hB0.out.size)) (by omega) ?_; intro T2 g2' cap2 w10 hT2 hS2 hB2 hgr; have HTT := Lib.hid (hT2.trans HT2.out); clear hT2 hgr))
                  go_roundg (rest.length - (q + 1))
                  case measure => omega
                  case rel => exact ⟨q + 1, g2', cap2, T2, by omega, rfl, rfl, by go_num, HTT.out, hS2, hB2⟩
                · have hqz : ¬ ((q + 2 : Nat) : Int) < (K : Int) := by have := HK.out; omega
                  have HTE : Hid (T = G0 ++ (rest.map grpB).flatten) := Lib.hid (by
                    rw [HT.out, List.take_of_length_le (by omega)])
                  have hcv := HS.out.text cap'
                  have hR := HR13.out.call HB.out
                  have hTB : T.length ≤ 1048576 := by
                    have h1 := HFB.out
                    have h2 := HG0L.out
                    have h3 := grps_len rest HRB.out
                    rw [HTE.out, List.length_append]
                    omega
                  have HCK : Hid (∀ u, Calls Tryz.prog 50 #[dvv (oidV T) none 0] u (RetI (oidV T).check u)) := Lib.hid fun u => rcheck_6 (oidV T) none 0 u hTB rfl rfl u (Below.refl _ _)
                  have HX2 : Hid (ofOidR s = if (oidV T).check ≠ 0 then (.zero, 61) else (oidV T, 0)) := Lib.hid (by rw [HXR.out, HTE.out])
                  clear HT HS hTl hTB
                  go_upto_region 19 with (first
                    | (refine wQ_alloc (cs := dvC .zero none 0) rfl _ (by rfl) (by exact hR) zero_der ?_; intro g11 w18 hR hb18 hg18)
                    | (refine wQ_store rfl _ _ _ (by rfl) (by exact hR) g11 rfl (dvC (oidV T) none 0) (by rfl) _ _ _ (by repeat (first | exact Pick.here | apply Pick.there)) (by kernel_rfl) (by kernel_rfl) (by kernel_rfl) ?_; intro w19 hR hsm19 hsz19))
                  clear hb18 hg18 hsm19 hsz19
                  obtain ⟨E, hE⟩ : ∃ E, E = (oidV T).check := ⟨_, rfl⟩
                  rw [← hE] at HCK HX2
                  clear hE
                  by_cases hE0 : E = 0
                  · subst hE0
                    have HX3 : Hid (ofOidR s = (oidV T, 0)) := Lib.hid (by rw [HX2.out, if_neg (by simp)])
                    go_wp2_with (first
                      | (refine wpList_load_rws rfl _ _ (by rfl) (by exact hR) g11 rfl (dvC (oidV T) none 0) _ (by repeat (first | exact List.Mem.head _ | refine List.Mem.tail _ ?_)) _ Tryz.underlying24 rfl (by kernel_rfl) ?_)
                      | (go_at_call 50; refine (HCK.out _).mono ?_; rintro e w20 ⟨rfl, hb20⟩; have hR := hR.call hb20)
                      | (refine wpList_store_rws rfl _ _ _ (by rfl) (by exact hR) g2 rfl (dvC (oidV T) none 0) (by rfl) _ _ _ (by repeat (first | exact Pick.here | apply Pick.there)) (by kernel_rfl) (by kernel_rfl) (by kernel_rfl) ?_; intro w9 hR))
                    have HR := Lib.hid hR
                    refine bodyPost_rws2 rfl HR.out g2 rfl _ _ (by repeat (first | exact List.Mem.head _ | refine List.Mem.tail _ ?_)) _ Tryz.underlying24 rfl (by kernel_rfl) _ rfl rfl (fun hbz => ?_)
                    rw [HX3.out]
                    exact ⟨rfl, rfl, hbz⟩
                  · have hEz : (E == 0) = false := by simpa using hE0
                    have HBAD : Hid (ofOidR s = (.zero, 61)) := Lib.hid (by rw [HX2.out, if_pos hE0])
                    go_wp2_with (first
                      | (refine wpList_load_rws rfl _ _ (by rfl) (by exact hR) g11 rfl (dvC (oidV T) none 0) _ (by repeat (first | exact List.Mem.head _ | refine List.Mem.tail _ ?_)) _ Tryz.underlying24 rfl (by kernel_rfl) ?_)
                      | (go_at_call 50; refine (HCK.out _).mono ?_; rintro e w20 ⟨rfl, hb20⟩; have hR := hR.call hb20)
                      | (refine wpList_store_rws rfl _ _ _ (by rfl) (by exact hR) g2 rfl (dvC .zero none 0) (by rfl) _ _ _ (by repeat (first | exact Pick.here | apply Pick.there)) (by kernel_rfl) (by kernel_rfl) (by kernel_rfl) ?_; intro w9 hR))
                    have HR := Lib.hid hR
                    refine bodyPost_rws2 rfl HR.out g2 rfl _ _ (by repeat (first | exact List.Mem.head _ | refine List.Mem.tail _ ?_)) _ Tryz.underlying24 rfl (by kernel_rfl) _ rfl rfl (fun hbz => ?_)
                    rw [HBAD.out]
                    exact ⟨rfl, rfl, hbz⟩
          · have HA3 : ¬ (a : Int) < (2 : Int) := by omega
            by_cases h4 : 2147483647 < 40 * a + b
            · have HC3 : (2147483647 : Int) < 40 * (a : Int) + (b : Int) := by omega
              have HBAD : Hid (ofOidR s = (.zero, 61)) := Lib.hid (by rw [HXR.out, if_pos (Or.inr (Or.inr h4))])
              clear HC0 HC1 HL2
              go_quiet (fail)
              go_wp2_with (refine wpList_store_rws rfl _ _ _ (by rfl) (by exact hR.call (below_drewN _ _)) g2 rfl (dvC .zero none 0) (by rfl) _ _ _ (by repeat (first | exact Pick.here | apply Pick.there)) (by kernel_rfl) (by kernel_rfl) (by kernel_rfl) ?_; intro w9 hR)
              have HR := Lib.hid hR
              refine bodyPost_rws2 rfl HR.out g2 rfl _ _ (List.Mem.head _) _ Tryz.underlying24 rfl (by kernel_rfl) _ rfl rfl (fun hbz => ?_)
              rw [HBAD.out]
              exact ⟨rfl, rfl, hbz⟩
            · have HC3 : ¬ (2147483647 : Int) < 40 * (a : Int) + (b : Int) := by omega
              have HXR : Hid (ofOidR s = if (oidV (G0 ++ (rest.map grpB).flatten)).check ≠ 0 then (.zero, 61) else (oidV (G0 ++ (rest.map grpB).flatten), 0)) := Lib.hid (by rw [HXR.out, if_neg (by omega)])
              clear HC0 HC1 HL2
              go_quiet (fail)
              go_upto_region 13 with fail
              obtain ⟨w11, hw11⟩ : ∃ w11, w11 = wr.drewN nq := ⟨_, rfl⟩
              have hR := hR.call (below_drewN wr nq)
              have hb11 : Below wr.heap.size wr w11 := by rw [hw11]; exact below_drewN _ _
              rw [← hw11] at hR ⊢
              have hbl0 : bl < w11.heap.size := Nat.lt_of_lt_of_le hbl hb11.size
              have HCE : Hid (∀ (j : Nat) y, (a :: b :: rest)[j]? = some y → w11.cell? ⟨bl, j, none⟩ = some (.int .i64 (y : Nat))) := Lib.hid fun j y hj => (hb11.cell (p := ⟨bl, j, none⟩) hbl).trans (HCE.out j y hj)
              have hbl := hbl0
              have HC0 : Hid (∀ u, Below w11.heap.size w11 u → u.cell? ⟨bl, 0 + 0 * 1, none⟩ = some (.int .i64 (a : Nat))) := Lib.hid fun u hb => (hb.cell (p := ⟨bl, 0, none⟩) hbl).trans (HCE.out 0 a rfl)
              have HC1 : Hid (∀ u, Below w11.heap.size w11 u → u.cell? ⟨bl, 0 + 1 * 1, none⟩ = some (.int .i64 (b : Nat))) := Lib.hid fun u hb => (hb.cell (p := ⟨bl, 1, none⟩) hbl).trans (HCE.out 1 b rfl)
              have HG0 : Hid (∀ u, Below w11.heap.size w11 u → Calls Tryz.prog 49 #[.int .i64 (40 * a + b : Nat)] u (RW (Is (.string (bs G0))) u)) := Lib.hid fun u _ => by rw [HG0D.out]; exact (RGroup_any _ (by omega) u).mono fun _ _ h => rw_below h
              have HG0L : Hid (G0.length ≤ 5) := Lib.hid (by rw [HG0D.out]; exact grpB_len (by omega))
              have hg0l := HG0L.out
              have zg0 := bs_size G0
              clear hb11 hbl0 hw11
              refine wp_region_softG 9 (by kernel_rfl) (by kernel_rfl) (by rfl) hR ?_
              refine g_move (R := Is (.slice (some ⟨bl, 0, none⟩) ((b :: rest).length + 1) c5)) (by rfl) (stb_is _) (by exact fun _ _ _ h => h) ?_
              refine g_ixi (b := bl) (f := 0) (len := ((b :: rest).length + 1)) (c := c5) (i := 0) (by rfl) (by exact fun _ _ _ h => h) (by exact fun _ _ _ h => h) (by simp) ?_
              refine g_cellw (g := bl) (k := 0 + 0 * 1) (v := .int .i64 (a : Nat)) (R := Is (.int .i64 (a : Nat))) (by rfl) (by exact fun _ _ _ h => h) (HC0.out) isAgg_int (stb_is _) (by exact fun _ _ => rfl) ?_
              refine g_bin (v := .int .i64 40) (u := .int .i64 (a : Nat)) (r := .int .i64 (40 * a : Nat)) (by rfl) (by exact fun _ _ _ h => h) (by exact fun _ _ _ h => h) (by rfl) (fun W => bin_mul2 40 _ _ rfl (by omega) W) ?_
              refine g_move (R := Is (.slice (some ⟨bl, 0, none⟩) ((b :: rest).length + 1) c5)) (by rfl) (stb_is _) (by exact fun _ _ _ h => h) ?_
              refine g_ixi (b := bl) (f := 0) (len := ((b :: rest).length + 1)) (c := c5) (i := 1) (by rfl) (by exact fun _ _ _ h => h) (by exact fun _ _ _ h => h) (by simp) ?_
              refine g_cellw (g := bl) (k := 0 + 1 * 1) (v := .int .i64 (b : Nat)) (R := Is (.int .i64 (b : Nat))) (by rfl) (by exact fun _ _ _ h => h) (HC1.out) isAgg_int (stb_is _) (by exact fun _ _ => rfl) ?_
              refine g_bin (v := .int .i64 (40 * a : Nat)) (u := .int .i64 (b : Nat)) (r := .int .i64 (40 * a + b : Nat)) (by rfl) (by exact fun _ _ _ h => h) (by exact fun _ _ _ h => h) (by rfl) (fun W => bin_add2 _ _ _ rfl (by omega) W) ?_
              refine g_callK (f := 49) (xs := [.tmp 97]) [.int .i64 (40 * a + b : Nat)] (R := Is (.string (bs G0))) (by rfl) Tryz.func49 (by kernel_rfl) rfl (stb_is _) ⟨(by exact fun _ _ _ h => h), trivial⟩ (HG0.out) ?_
              intro w13 hR13 hb13 v90 h90 v91 h91 v92 h92 v93 h93 v94 h94 v95 h95 v96 h96 v97 h97 v98 h98
              simp only [softEnd, Act.put, List.setIfInBounds_toArray, List.set_cons_succ, List.set_cons_zero, List.drop_succ_cons, List.drop_zero]
              obtain rfl : v98 = .string (bs G0) := h98
              clear h90 h91 h92 h93 h94 h95 h96 h97
              clear HC0 HC1 HG0 hR
              go_upto_region 14 with (refine wp_rowM rfl _ (by rfl) (l := G0) (by rfl) (by omega) ?_; intro cap w14 hS14 hb14)
              have hR14 := hR13.call hb14
              have hbl14 : bl < w13.heap.size := Nat.lt_of_lt_of_le hbl hb13.size
              have HCE14 : Hid (∀ (j : Nat) y, (a :: b :: rest)[j]? = some y → w13.cell? ⟨bl, j, none⟩ = some (.int .i64 (y : Nat))) := Lib.hid fun j y hj => (hb13.cell (p := ⟨bl, j, none⟩) hbl).trans (HCE.out j y hj)
              have HR13 := Lib.hid hR13
              have HS14 := Lib.hid hS14
              have HB14 := Lib.hid hb14
              have HBL := Lib.hid hbl14
              clear hR13 hR14 hS14 hb14 hb13 hbl14 HCE hbl
              obtain ⟨K, hK⟩ : ∃ K, K = rest.length + 1 + 1 := ⟨_, rfl⟩
              have HK : Hid (K = rest.length + 2) := Lib.hid hK
              rw [← hK]
              clear hK hl2z
              go_upto_region 15 with fail
              obtain ⟨wd, hwd⟩ : ∃ wd : World, wd = w13 := ⟨_, rfl⟩
              rw [← hwd] at HR13 HS14 HB14 HBL HCE14 ⊢
              clear hwd
              go_loopg [9, 10] rest.length (fun gg s9 s10 wr => ∃ (q g' cap' : Nat) (T : Bs), q ≤ rest.length ∧ gg = rest.length - q ∧ s9 = .slice (some ⟨g', 0, none⟩) T.length cap' ∧ s10 = .int .i64 (q + 2 : Nat) ∧ Aside (T = G0 ++ ((rest.take q).map grpB).flatten) ∧ Aside (RowM wr wd.heap.size g' cap' T) ∧ Aside (Below wd.heap.size wd wr))
              case atStart => exact ⟨0, _, _, G0, Nat.zero_le _, rfl, rfl, rfl, (show G0 = G0 ++ ((rest.take 0).map grpB).flatten by rw [List.take_zero]; simp), HS14.out, HB14.out⟩
              case round =>
                obtain ⟨q, g', cap', T, hq, rfl, rfl, rfl, HT, HS, HB⟩ := hrel
                have hTl : T.length ≤ 5 * q + 5 := by
                  have h1 := grps_len (rest.take q) fun n hn => HRB.out n (List.mem_of_mem_take hn)
                  rw [List.length_take] at h1
                  have h2 := HG0L.out
                  rw [HT.out, List.length_append]; omega
                have hrl := HRL.out
                have zT := bs_size T
                by_cases hqlt : q < rest.length
                · have hqz : ((q + 2 : Nat) : Int) < (K : Int) := by have := HK.out; omega
                  obtain ⟨x, hx⟩ : ∃ x, rest[q]? = some x := ⟨rest[q], List.getElem?_eq_getElem hqlt⟩
                  have fx : wr.cell? ⟨bl, q + 2, none⟩ = some (.int .i64 (x : Nat)) := (HB.out.cell (p := ⟨bl, q + 2, none⟩) HBL.out).trans (HCE14.out (q + 2) x (by simpa using hx))
                  have hxl : x ≤ 2147483647 := HRB.out x (List.mem_of_getElem? hx)
                  have HGX : Hid (∀ u, Calls Tryz.prog 49 #[.int .i64 (x : Nat)] u fun e w' => e = .returned (.string (bs (grpB x))) ∧ Below u.heap.size u w') := Lib.hid fun u => RGroup_any x (by omega) u
                  have hgl : (grpB x).length ≤ 5 := grpB_len (by omega)
                  have HT2 : Hid (T ++ grpB x = G0 ++ ((rest.take (q + 1)).map grpB).flatten) := Lib.hid (by
                    rw [HT.out, List.take_add_one, hx]
                    simp)
                  obtain ⟨GX, hGX⟩ : ∃ GX, GX = grpB x := ⟨_, rfl⟩
                  rw [← hGX] at HGX hgl HT2
                  have hB0 := Lib.hid HB.out
                  clear hx hxl hGX HT
                  go_wp2_with (first
                    | (go_at_call 49; refine (HGX.out _).mono ?_; rintro e w8 ⟨rfl, hb8⟩)
                    | (at_builtin; refine wp_appT (w := wd) (B := wd.heap.size) rfl _ _ (by rfl) GX (by rfl) (by rfl) (HS.out.below hb8) (Nat.le_refl _) (hB0.out.trans (hb8.mono hB0.out.size)) (by omega) ?_; intro T2 g2' cap2 w10 hT2 hS2 hB2 hgr; have HTT := Lib.hid (hT2.trans HT2.out); clear hT2 hgr))
                  go_roundg (rest.length - (q + 1))
                  case measure => omega
                  case rel => exact ⟨q + 1, g2', cap2, T2, by omega, rfl, rfl, by go_num, HTT.out, hS2, hB2⟩
                · have hqz : ¬ ((q + 2 : Nat) : Int) < (K : Int) := by have := HK.out; omega
                  have HTE : Hid (T = G0 ++ (rest.map grpB).flatten) := Lib.hid (by
                    rw [HT.out, List.take_of_length_le (by omega)])
                  have hcv := HS.out.text cap'
                  have hR := HR13.out.call HB.out
                  have hTB : T.length ≤ 1048576 := by
                    have h1 := HFB.out
                    have h2 := HG0L.out
                    have h3 := grps_len rest HRB.out
                    rw [HTE.out, List.length_append]
                    omega
                  have HCK : Hid (∀ u, Calls Tryz.prog 50 #[dvv (oidV T) none 0] u (RetI (oidV T).check u)) := Lib.hid fun u => rcheck_6 (oidV T) none 0 u hTB rfl rfl u (Below.refl _ _)
                  have HX2 : Hid (ofOidR s = if (oidV T).check ≠ 0 then (.zero, 61) else (oidV T, 0)) := Lib.hid (by rw [HXR.out, HTE.out])
                  clear HT HS hTl hTB
                  go_upto_region 19 with (first
                    | (refine wQ_alloc (cs := dvC .zero none 0) rfl _ (by rfl) (by exact hR) zero_der ?_; intro g11 w18 hR hb18 hg18)
                    | (refine wQ_store rfl _ _ _ (by rfl) (by exact hR) g11 rfl (dvC (oidV T) none 0) (by rfl) _ _ _ (by repeat (first | exact Pick.here | apply Pick.there)) (by kernel_rfl) (by kernel_rfl) (by kernel_rfl) ?_; intro w19 hR hsm19 hsz19))
                  clear hb18 hg18 hsm19 hsz19
                  obtain ⟨E, hE⟩ : ∃ E, E = (oidV T).check := ⟨_, rfl⟩
                  rw [← hE] at HCK HX2
                  clear hE
                  by_cases hE0 : E = 0
                  · subst hE0
                    have HX3 : Hid (ofOidR s = (oidV T, 0)) := Lib.hid (by rw [HX2.out, if_neg (by simp)])
                    go_wp2_with (first
                      | (refine wpList_load_rws rfl _ _ (by rfl) (by exact hR) g11 rfl (dvC (oidV T) none 0) _ (by repeat (first | exact List.Mem.head _ | refine List.Mem.tail _ ?_)) _ Tryz.underlying24 rfl (by kernel_rfl) ?_)
                      | (go_at_call 50; refine (HCK.out _).mono ?_; rintro e w20 ⟨rfl, hb20⟩; have hR := hR.call hb20)
                      | (refine wpList_store_rws rfl _ _ _ (by rfl) (by exact hR) g2 rfl (dvC (oidV T) none 0) (by rfl) _ _ _ (by repeat (first | exact Pick.here | apply Pick.there)) (by kernel_rfl) (by kernel_rfl) (by kernel_rfl) ?_; intro w9 hR))
                    have HR := Lib.hid hR
                    refine bodyPost_rws2 rfl HR.out g2 rfl _ _ (by repeat (first | exact List.Mem.head _ | refine List.Mem.tail _ ?_)) _ Tryz.underlying24 rfl (by kernel_rfl) _ rfl rfl (fun hbz => ?_)
                    rw [HX3.out]
                    exact ⟨rfl, rfl, hbz⟩
                  · have hEz : (E == 0) = false := by simpa using hE0
                    have HBAD : Hid (ofOidR s = (.zero, 61)) := Lib.hid (by rw [HX2.out, if_pos hE0])
                    go_wp2_with (first
                      | (refine wpList_load_rws rfl _ _ (by rfl) (by exact hR) g11 rfl (dvC (oidV T) none 0) _ (by repeat (first | exact List.Mem.head _ | refine List.Mem.tail _ ?_)) _ Tryz.underlying24 rfl (by kernel_rfl) ?_)
                      | (go_at_call 50; refine (HCK.out _).mono ?_; rintro e w20 ⟨rfl, hb20⟩; have hR := hR.call hb20)
                      | (refine wpList_store_rws rfl _ _ _ (by rfl) (by exact hR) g2 rfl (dvC .zero none 0) (by rfl) _ _ _ (by repeat (first | exact Pick.here | apply Pick.there)) (by kernel_rfl) (by kernel_rfl) (by kernel_rfl) ?_; intro w9 hR))
                    have HR := Lib.hid hR
                    refine bodyPost_rws2 rfl HR.out g2 rfl _ _ (by repeat (first | exact List.Mem.head _ | refine List.Mem.tail _ ?_)) _ Tryz.underlying24 rfl (by kernel_rfl) _ rfl rfl (fun hbz => ?_)
                    rw [HBAD.out]
                    exact ⟨rfl, rfl, hbz⟩
end Go.Proofs.YtebhiplcoioenaaGreatDoor
