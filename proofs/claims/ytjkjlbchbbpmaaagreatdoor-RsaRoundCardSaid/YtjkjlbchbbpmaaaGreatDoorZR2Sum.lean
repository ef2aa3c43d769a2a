/- The reference of hash (layer 2): (Kind).Sum: the walk. -/
import Derived.Test.YtjkjlbchbbpmaaaGreatDoorZR2Loop
namespace Go.Proofs.YtjkjlbchbbpmaaaGreatDoor
open Go.RowKit

set_option maxRecDepth 100000 in
set_option maxHeartbeats 40000000 in
theorem r2ksum_any (s : ByteArray) (gk ck gf cf : Nat) (w : World) (hs : s.size + 80 ≤ 140737488355328) (hk : Rd w .u64 (some ⟨gk, 0, none⟩) 64 ck kF) (hf : Rd w .u64 (some ⟨gf, 0, none⟩) 8 cf firstF) :
    Calls Tryz.prog 68 #[.agg (kdc (.slice (some ⟨gk, 0, none⟩) 64 ck) (.slice (some ⟨gf, 0, none⟩) 8 cf)), .string s] w fun e w' => e = .returned (.string (sha s)) ∧ Below w.heap.size w w' := by
  obtain ⟨N, hN⟩ : ∃ N, N = s.size := ⟨_, rfl⟩
  have hNs : N + 80 ≤ 140737488355328 := by omega
  obtain ⟨T, hT⟩ : ∃ T, T = padT N := ⟨_, rfl⟩
  have hT1 : N + 9 ≤ T := by rw [hT]; unfold padT; omega
  have hT2 : T ≤ N + 72 := by rw [hT]; unfold padT; omega
  have HT3 : Hid (T % 64 = 0) := by rw [hT]; unfold padT; show _ = 0; omega
  obtain ⟨kd, hkd⟩ : ∃ kd, kd = kdc (.slice (some ⟨gk, 0, none⟩) 64 ck) (.slice (some ⟨gf, 0, none⟩) 8 cf) := ⟨_, rfl⟩
  have hkds : kd.size = 17 := by rw [hkd]; rfl
  rw [← hkd]
  have hR0 := Rws.start w
  have HK := Lib.hid hk; have HF := Lib.hid hf; have HT := Lib.hid hT; have HN := Lib.hid hN; have HKD := Lib.hid hkd; have HKS := Lib.hid hkds
  clear hk hf hT hN hkd hkds
  go_enter Tryz.func68, Tryz.ntmps68
  go_upto_region 1 with (refine wpList_box_rws rfl _ _ (by rfl) (by assumption) _ rfl ?_; intro g2 w1 hR)
  have hkc : ∀ j v, (kdc (.slice (some ⟨gk, 0, none⟩) 64 ck) (.slice (some ⟨gf, 0, none⟩) 8 cf))[j]? = some v → w1.cell? ⟨g2, j, none⟩ = some v := fun j v h => hR.cellAt (List.Mem.head _) j (by rw [HKD.out]; exact h)
  have HKC := Lib.hid hkc
  clear hkc
  have c0 : w1.cell? ⟨g2, 0, none⟩ = some (.int .i64 32) := HKC.out 0 _ rfl
  go_upto_region 2 with fail
  clear c0
  have HR := Lib.hid hR
  clear hR hR0
  obtain ⟨cs, hcs⟩ : ∃ cs, cs = padL N 1 := ⟨_, rfl⟩
  have hcl : cs.length = 1 := by rw [hcs]; rfl
  have hcv : (cs.map fun c => Value.int .u8 (c.toNat : Nat)) = [Value.int .u8 128] := by rw [hcs, padL_succ, padB_0]; rfl
  have hsl : s.data.toList.length = N := by rw [HN.out]; simp
  have HCV := Lib.hid hcv; have HCL := Lib.hid hcl; have HSL := Lib.hid hsl; have HCS := Lib.hid hcs
  clear hcv hcl hsl hcs
  go_upto_region 3 with (first
    | (refine wpList_bytesM _ rfl _ rfl s rfl (by omega) ?_; intro v1 w2 hbm hb2)
    | (at_builtin; refine wpList_append_bm _ rfl (.tmp 28) (.tmp 29) _ rfl Tryz.underlying46 w1.heap.size _ s.data.toList rfl (hbm.below ((Below.refl _ _).alloc (Nat.le_refl _) _)) ⟨w2.heap.size, 0, none⟩ 1 1 cs rfl HCL.out ?h1 (by rw [HSL.out]; have := HN.out; omega) (by have := hb2.size; simp; omega) w1 (hb2.alloc hb2.size _) ?_; rotate_left; intro v3 w3 hbm3 hb3))
  case h1 => rw [HCV.out]; exact new_cells _ _ _
  clear hbm hb2
  have hbm4 : BufM w3 w1.heap.size v3 (s.data.toList ++ padL N 1) := by rw [← HCS.out]; exact hbm3
  clear hbm3 HCS HCV HCL
  go_loopw [6] (fun bv wr => ∃ e : Nat, 0 < e ∧ N + e + 8 ≤ T ∧ BufM wr w1.heap.size bv (s.data.toList ++ padL N e) ∧ Below w1.heap.size w1 wr) (fun bv _ => T - slen bv)
  case atStart => exact ⟨1, by omega, by omega, hbm4, hb3⟩
  case round =>
    clear hbm4 hb3
    obtain ⟨e, he0, he, hbuf, hbel⟩ := hrel
    have hRr := HR.out.call hbel
    obtain ⟨gb, cb, hv, hcb, hgB, hgw⟩ := hbuf.form
    have hll : (s.data.toList ++ padL N e).length = N + e := by rw [List.length_append, HSL.out, padL_length]
    rw [hll] at hv hcb
    have hsz := hbel.size
    obtain ⟨n, hn⟩ : ∃ n, n = N + e := ⟨_, rfl⟩
    rw [← hn] at hv hcb hll
    have hnle : n + 8 ≤ T := by omega
    by_cases hend : n + 8 < T
    · have hb0 : (((n : Int) + 8) % 64 != 0) = true := by
        rw [bne_iff_ne]
        have h3 := HT3.out
        omega
      have HB0 := Lib.hid hb0
      clear hb0
      obtain ⟨cs, hcs⟩ : ∃ cs, cs = [UInt8.ofNat 0] := ⟨_, rfl⟩
      have hcl : cs.length = 1 := by rw [hcs]; rfl
      have hcv : (cs.map fun c => Value.int .u8 (c.toNat : Nat)) = [Value.int .u8 0] := by rw [hcs]; rfl
      have hq : N + e + 8 < padT N := by rw [← HT.out, ← hn]; exact hend
      have hps : s.data.toList ++ padL N (e + 1) = s.data.toList ++ padL N e ++ cs := by rw [padL_succ, padB_mid N e he0 hq, hcs, List.append_assoc]
      clear hq
      have hpl : (s.data.toList ++ padL N e).length + 1 ≤ 140737488355328 := by rw [hll]; omega
      have HCV := Lib.hid hcv; have HPS := Lib.hid hps; have HPL := Lib.hid hpl; have HCL := Lib.hid hcl; have HV := Lib.hid hv; have HNN := Lib.hid hn; have HLL := Lib.hid hll
      clear hcs hcv hps hpl hcl hv hn hll
      rw [HV.out]
      have hb0 := HB0.out
      go_upto_region 4 with fail
      clear hb0
      go_wp2_with (at_builtin; refine wpList_append_bm _ rfl (.tmp 40) (.tmp 41) _ rfl Tryz.underlying46 w1.heap.size _ (s.data.toList ++ padL N e) (by rw [HV.out]; rfl) (hbuf.below ((Below.refl _ _).alloc (Nat.le_refl _) _)) ⟨wr.heap.size, 0, none⟩ 1 1 cs rfl HCL.out ?h1 HPL.out (by simp; omega) w1 (hbel.alloc hsz _) ?_; rotate_left; intro v' w4 hbuf3 hbel3)
      case h1 => rw [HCV.out]; exact new_cells _ _ _
      have hn := HNN.out
      go_roundw
      case rel => exact ⟨e + 1, by omega, by omega, by rw [HPS.out]; exact hbuf3, hbel3⟩
      case measure =>
        obtain ⟨g', c', hv', _⟩ := hbuf3.form
        rw [List.length_append, HLL.out, HCL.out] at hv'
        rw [hv']
        show T - (n + 1) < T - n
        omega
    · have hb0 : (((n : Int) + 8) % 64 != 0) = false := by
        rw [bne_eq_false_iff_eq]
        have h3 := HT3.out
        omega
      have HV := Lib.hid hv; have HNN := Lib.hid hn; have HLL := Lib.hid hll
      clear hv hn hll
      rw [HV.out]
      go_upto_region 5 with fail
      clear hb0
      obtain ⟨c8, hc8⟩ : ∃ c8, c8 = bytesL (8 * N) 8 := ⟨_, rfl⟩
      have h8l : c8.length = 8 := by rw [hc8, bytesL_length]
      have hnT : n + 8 = T := by omega
      have hall : s.data.toList ++ padL N e ++ c8 = s.data.toList ++ padL N (e + 8) := by rw [hc8, List.append_assoc, padL_end N e (by rw [← HT.out, ← HNN.out]; exact hnT) he0]
      have hby := r2bytes_any (8 * N) 8 wr (by omega) (by omega)
      rw [← hc8] at hby
      have H8L := Lib.hid h8l; have HALL := Lib.hid hall; have HBY := Lib.hid hby; have HNT := Lib.hid hnT
      clear hc8 h8l hall hby hnT hend
      have hN8 : (s.size : Int) = (N : Int) := by rw [HN.out]
      go_wp2_with fail
      rw [show 8 * (N : Int) = ((8 * N : Nat) : Int) by omega]
      clear hN8
      refine (HBY.out).mono ?_
      rintro e5 w5 ⟨v5, rfl, hb5, hbe5⟩
      obtain ⟨g5, c5, rfl, hc5⟩ := hb5.form (by rw [H8L.out]; omega)
      have h5c := hb5.own.cells (g := g5) rfl
      have hbuf5 := hbuf.below hbe5
      have hbel5 := hbel.trans (hbe5.mono hsz)
      have hsz5 := hbel5.size
      have hll5 : (s.data.toList ++ padL N e).length + c8.length ≤ 140737488355328 := by rw [HLL.out, H8L.out]; omega
      clear hbuf hbe5 hbel hb5 hgw hsz hRr hc5
      go_upto_region 6 with (at_builtin; refine wpList_append_bm _ rfl (.tmp 43) (.tmp 50) _ rfl Tryz.underlying46 w1.heap.size _ (s.data.toList ++ padL N e) (by rw [HV.out]; rfl) hbuf5 ⟨g5, 0, none⟩ c8.length c5 c8 rfl rfl h5c hll5 hsz5 w1 hbel5 ?_; intro v6 w6 hbm6 hbe6)
      clear hbuf5 hbel5 h5c hll5 hsz5
      rw [HALL.out] at hbm6
      obtain ⟨LL, hLL⟩ : ∃ LL, LL = s.data.toList ++ padL N (e + 8) := ⟨_, rfl⟩
      have hLn : LL.length = T := by rw [hLL, List.length_append, HSL.out, padL_length]; have h1 := HNT.out; have h2 := HNN.out; omega
      have hLb : ∀ j, j < T → (LL.getD j 0).toNat = allF s j := fun j hj => by
        have h1 := HNT.out; have h2 := HNN.out; have h3 := HN.out; have h4 := HT.out
        rw [hLL, h3]
        exact all_getD s (e + 8) (by rw [← h3, ← h4]; omega) j (by omega)
      rw [← hLL] at hbm6
      obtain ⟨gB, cB, rfl, hcB, hgB1, hgB2⟩ := hbm6.form
      have h6b : ∀ j, j < T → w6.cell? ⟨gB, j, none⟩ = some (.int .u8 ((allF s j : Nat) : Int)) := fun j hj => by
        rw [← hLb j hj]; exact hbm6.cell j (by rw [hLn]; exact hj)
      rw [hLn] at hcB ⊢
      have hg2 : g2 < w1.heap.size := HR.out.lt (List.Mem.head _)
      have hsz1 : w.heap.size ≤ w1.heap.size := HR.out.len
      have hsz6 := hbe6.size
      have hgk : gk < w.heap.size := HK.out.lt (show 0 < 64 by omega)
      have hgf : gf < w.heap.size := HF.out.lt (show 0 < 8 by omega)
      have hbw : Below w.heap.size w w6 := HR.out.below.trans (hbe6.mono hsz1)
      have c16 : (w6.alloc (.cells #[] 51)).cell? ⟨g2, 16, none⟩ = some (.slice (some ⟨gf, 0, none⟩) 8 cf) := (((Below.refl _ w6).alloc (Nat.le_refl _) (.cells #[] 51)).cell (p := ⟨g2, 16, none⟩) (by show g2 < _; omega)).trans ((hbe6.cell (p := ⟨g2, 16, none⟩) hg2).trans (HKC.out 16 _ rfl))
      have hrow6 : w6.heap[g2]? = some (.cells kd 99 (0, 0)) := (hbe6.block g2 hg2).trans (HR.out.row _ (List.Mem.head _)).2
      have h6c : ∀ j v, (kdc (.slice (some ⟨gk, 0, none⟩) 64 ck) (.slice (some ⟨gf, 0, none⟩) 8 cf))[j]? = some v → w6.cell? ⟨g2, j, none⟩ = some v := fun j v h => (hbe6.cell (p := ⟨g2, j, none⟩) hg2).trans (HKC.out j v h)
      have h6k : ∀ j, j < 64 → w6.cell? ⟨gk, j, none⟩ = some (.int .u64 ((kF j : Nat) : Int)) := fun j hj => (hbw.cell (p := ⟨gk, j, none⟩) hgk).trans (HK.out.word j hj)
      obtain ⟨fl, hfl⟩ : ∃ fl, fl = (List.range 8).map firstF := ⟨_, rfl⟩
      have hfn : fl.length = 8 := by rw [hfl]; rfl
      have hfc : ∀ W : World, Below w6.heap.size w6 W → ∀ j u, (fl.map fun (c : Nat) => Value.int .u64 (c : Int))[j]? = some u → W.cell? ((⟨gf, 0, none⟩ : Addr).add j) = some u := fun W hW j u hu => by
        have hj : j < 8 := by have := (List.getElem?_eq_some_iff.1 hu).1; rw [List.length_map, hfn] at this; exact this
        rw [addr_add, Nat.zero_add, hW.cell (p := ⟨gf, j, none⟩) (by show gf < _; omega), hbw.cell (p := ⟨gf, j, none⟩) hgf, HF.out.word j hj]
        rw [hfl, List.map_map, List.getElem?_map, List.getElem?_range hj] at hu
        exact hu
      have hfd : ∀ j, j < 8 → fl.getD j 0 = firstF j := fun j hj => by rw [hfl, List.getD_eq_getElem?_getD, List.getElem?_map, List.getElem?_range hj]; rfl
      have HFN := Lib.hid hfn; have HFC := Lib.hid hfc; have HFD := Lib.hid hfd; have H6B := Lib.hid h6b; have H6C := Lib.hid h6c; have H6K := Lib.hid h6k; have HROW6 := Lib.hid hrow6; have HBW := Lib.hid hbw
      clear hfl hfn hfc hfd h6b h6c h6k hrow6 hbw hLb hLn hLL hbm6 HALL HBY H8L HNT HLL
      go_upto_region 7 with (at_builtin; refine wpList_append_u64 _ rfl (.tmp 52) (.tmp 54) _ rfl Tryz.underlying47 w6.heap.size _ [] rfl (b64_new w6 [] (by decide)) ⟨gf, 0, none⟩ 8 cf fl rfl HFN.out (HFC.out _ ((Below.refl _ _).alloc (Nat.le_refl _) _)) (by simp) (by simp) w6 ((Below.refl _ _).alloc (Nat.le_refl _) _) ?_; intro v7 w7 hb7 hbe7)
      clear c16
      rw [List.nil_append] at hb7
      obtain ⟨gs, cst, rfl, hgs, hcs, hcsm, hst0⟩ := OwnC.of hb7 (by rw [HFN.out]; omega)
      rw [HFN.out] at hcs hst0 ⊢
      have hst : OwnC w7 gs 8 (fold32 firstF (allF s) 0) := hst0.congr HFD.out
      have hsz7 := hbe7.size
      have hgsw : gs < w7.heap.size := hst.lt
      have H7B : Hid (∀ j, j < T → w7.cell? ⟨gB, j, none⟩ = some (.int .u8 ((allF s j : Nat) : Int))) := fun j hj => (hbe7.cell (p := ⟨gB, j, none⟩) hgB2).trans (H6B.out j hj)
      have H7C : Hid (∀ j v, (kdc (.slice (some ⟨gk, 0, none⟩) 64 ck) (.slice (some ⟨gf, 0, none⟩) 8 cf))[j]? = some v → w7.cell? ⟨g2, j, none⟩ = some v) := fun j v h => (hbe7.cell (p := ⟨g2, j, none⟩) (by show g2 < _; omega)).trans (H6C.out j v h)
      have H7K : Hid (∀ j, j < 64 → w7.cell? ⟨gk, j, none⟩ = some (.int .u64 ((kF j : Nat) : Int))) := fun j hj => (hbe7.cell (p := ⟨gk, j, none⟩) (by show gk < _; omega)).trans (H6K.out j hj)
      have H7R : Hid (w7.heap[g2]? = some (.cells kd 99 (0, 0))) := (hbe7.block g2 (by omega)).trans HROW6.out
      have HBW7 : Hid (Below w.heap.size w w7) := HBW.out.trans (hbe7.mono (by omega))
      have HROR : Hid (∀ x n w, x < 4294967296 → n ≤ 32 → Calls Tryz.prog 108 #[.agg kd, .int .u64 ((x : Nat) : Int), .int .i64 ((n : Nat) : Int)] w fun e w' => e = .returned (.int .u64 ((ror32 x n : Nat) : Int)) ∧ Below w.heap.size w w') := fun x n w hx hn => by rw [HKD.out]; exact r2ror_any _ _ x n w hx hn
      have HCUT : Hid (∀ x w, x < 18446744073709551616 → Calls Tryz.prog 107 #[.agg kd, .int .u64 ((x : Nat) : Int)] w fun e w' => e = .returned (.int .u64 ((x % 4294967296 : Nat) : Int)) ∧ Below w.heap.size w w') := fun x w hx => by rw [HKD.out]; exact r2cut_any _ _ x w hx
      have HX : Hid (∀ x y, x < 4294967296 → y < 4294967296 → x ^^^ y < 4294967296) := fun x y hx hy => Nat.xor_lt_two_pow (n := 32) hx hy
      clear hst0 hb7 hbe7 H6B H6C H6K HROW6 HBW HFN HFC HFD HKC HR hbe6
      have n2 : some g2 ≠ some gs := fun e => by injection e with e; omega
      have nk : some gk ≠ some gs := fun e => by injection e with e; omega
      have nB : some gB ≠ some gs := fun e => by injection e with e; omega
      have l2 : g2 < w7.heap.size := by omega
      have lk : gk < w7.heap.size := by omega
      have lB : gB < w7.heap.size := by omega
      have lw : w.heap.size ≤ w7.heap.size := by omega
      have lgs : w.heap.size ≤ gs := by omega
      go_upto_region 8 with fail
      clear hgs hcs hgB1 hgB2 hg2 hsz1 hsz6 hgk hgf hsz7 hcb hnle he he0 hgB
      refine wp_loop_mask [false, false, false, false, false, false, false, false, true, true, true, true, true, true, true, true, true, true, true, true, true, true, false, false, false, false, false, false, false, false, false, false, false, false, false, false, false, false, false, false, false, false, false, false, false, false, false, false, false, false, false, false, false, false, false, false, true, true, true, true, true, true, true, true, true, true, true, true, true, true, true, true, true, true, true, true, true, true, true, true, true, true, true, true, true, true, true, true, true, true, true, true, true, true, true, true, true, true, true, true, true, true, true, true, true, true, true, true, true, true, true, true, true, true, true, true, true, true, true, true, true, true, true, true, true, true, true, true, true, true, true, true, true, true, true, true, true, true, true, true, true, true, true, true, true, true, true, true, true, true, true, true, true, true, true, true, true, true, true, true, true, true, true, true, true, true, true, true, true, true, true, true, true, true, true, true, true, true, true, true, true, true, true, true, true, true, true, true, true, true, true, true, true, true, true, true, true, true, true, true, true, true, true, true, true, true, true, true, true, true, true, true, true, true, true, true, true, true, true, true, true, true, true, true, true, true, true, true, true, true, true, true, true, true, true, true, true, true, true, true, true, true, true, true, true, true, true, true, true, true, true, true, true, true, true, true, true, true, true, true, true, true, true, true, true, true, true, true, true, true, true, true, true, true, true, true, true, true, true, true, true, true, true, true, true, true, true, true, true, true, true, true, true, true, true, true, true, true, true, true, true, true, true, true, true, true, true, true, true, true, true, true, true, true, true, true, true, true, true, true, true, true, false, false, false, false, false, false, false, false, false, false, false, false, false, false, false, false, false, false] (fun u wr => ∃ m : Nat, 64 * m ≤ T ∧ u 8 = .int .i64 ((64 * m : Nat) : Int) ∧ OwnC wr gs 8 (fold32 firstF (allF s) m) ∧ w7.grownBy wr (some gs)) (fun u _ => T - (intOf (u 8)).toNat) rfl ?atStart ?round
      case atStart => exact ⟨0, by omega, rfl, hst, gb_refl _ _⟩
      case round =>
        clear hst
        intro u wr hrel
        obtain ⟨m, hm, hu8, hst, hgb⟩ := hrel
        obtain ⟨p, hp⟩ : ∃ p, p = 64 * m := ⟨_, rfl⟩
        rw [← hp] at hm hu8
        dsimp only [mask, Nat.reduceAdd]
        rw [hu8]
        clear hu8
        have HP := Lib.hid hp
        have hwsz := hgb.size
        have hg2w : g2 < wr.heap.size := Nat.lt_of_lt_of_le l2 hwsz
        have hgkw : gk < wr.heap.size := Nat.lt_of_lt_of_le lk hwsz
        have hgBw : gB < wr.heap.size := Nat.lt_of_lt_of_le lB hwsz
        have hgsw2 : gs < wr.heap.size := Nat.lt_of_lt_of_le hgsw hwsz
        have HC2 : Hid (∀ j v, (kdc (.slice (some ⟨gk, 0, none⟩) 64 ck) (.slice (some ⟨gf, 0, none⟩) 8 cf))[j]? = some v → wr.cell? ⟨g2, j, none⟩ = some v) := fun j v h => hgb.cell (H7C.out j v h) n2
        have HRW : Hid (wr.heap[g2]? = some (.cells kd 99 (0, 0))) := (hgb.block g2 l2 n2).trans H7R.out
        have HKW : Hid (∀ j, j < 64 → wr.cell? ⟨gk, j, none⟩ = some (.int .u64 ((kF j : Nat) : Int))) := fun j hj => hgb.cell (H7K.out j hj) nk
        have HBB : Hid (∀ j, j < T → wr.cell? ⟨gB, j, none⟩ = some (.int .u8 ((allF s j : Nat) : Int))) := fun j hj => hgb.cell (H7B.out j hj) nB
        clear hp
        by_cases hmT : p < T
        · have hp64 : p + 64 ≤ T := by have h1 := HP.out; have h2 := HT3.out; omega
          have hdec : decide ((p : Int) < (T : Int)) = true := by rw [decide_eq_true_eq]; omega
          obtain ⟨b, hb⟩ : ∃ b : Nat → Nat, b = fun j => allF s (64 * m + j) := ⟨_, rfl⟩
          have hbl : ∀ j, b j < 256 := fun j => by rw [hb]; exact allF_lt s _
          have hbc : ∀ j, j < 64 → wr.cell? ⟨gB, p + j, none⟩ = some (.int .u8 ((b j : Nat) : Int)) := fun j hj => by rw [hb, HBB.out (p + j) (by omega), HP.out]
          obtain ⟨st, hstE⟩ : ∃ st, st = fold32 firstF (allF s) m := ⟨_, rfl⟩
          have hnext : fold32 firstF (allF s) (m + 1) = next32 st b := by rw [hb, hstE]; rfl
          have hstl : ∀ j, st j < 4294967296 := fun j => by rw [hstE]; exact fold32_lt firstF_lt _ _ _
          rw [← hstE] at hst
          have HB := Lib.hid hb; have HBL := Lib.hid hbl; have HBC := Lib.hid hbc; have HNX := Lib.hid hnext; have HSTL := Lib.hid hstl
          clear hb hbl hbc hnext hstl hstE HBB
          have c1 : wr.cell? ⟨g2, 1, none⟩ = some (.int .i64 64) := HC2.out 1 _ rfl
          obtain ⟨wo, hwo⟩ : ∃ wo : World, wo = wr := ⟨_, rfl⟩
          have hst0 : OwnC wo gs 8 st := by rw [hwo]; exact hst
          go_upto_region 11 with (refine wpList_make_row _ rfl _ _ _ rfl 51 .u64 8 Tryz.underlying47 r2info64 .i64 .i64 _ _ 64 rfl rfl rfl rfl (by omega) (by omega) ?_; intro gw w8 hgw hown hb8)
          rw [← hwo] at hgw hb8 hg2w hgkw hgBw hgsw2 hgb c1 HC2 HRW HKW HBC
          have HGW := Lib.hid hgw
          clear hdec hst hwo hwsz
          have hown0 : Own w8 .u64 51 gw 64 (wHd b 0) := hown.congr fun j _ => wHd_0 b j
          have HC2o := HC2; have HRWo := HRW; have HKWo := HKW; have HBCo := HBC
          have hg2o := hg2w; have hgko := hgkw; have hgBo := hgBw; have hgso := hgsw2
          clear hown HC2 HRW HKW HBC hg2w hgkw hgBw hgsw2 c1
          go_upto_region 12 with fail
          go_loopw [10] (fun iv wr => ∃ i : Nat, i ≤ 16 ∧ iv = .int .i64 i ∧ Own wr .u64 51 gw 64 (wHd b i) ∧ Below wo.heap.size wo wr) (fun iv _ => 16 - (intOf iv).toNat)
          case atStart => exact ⟨0, Nat.zero_le _, rfl, hown0, hb8⟩
          case round =>
            clear hown0 hb8
            obtain ⟨i, hi, rfl, hown, hbel⟩ := hrel
            by_cases hin : i < 16
            · have hdec : decide ((i : Int) < 16) = true := by rw [decide_eq_true_eq]; omega
              have hown2 : Own wr .u64 51 gw 64 (wIn b i 0) := hown.congr fun j _ => wHd_in b i j
              clear hown
              go_upto_region 15 with fail
              go_loopw [11] (fun nv wr => ∃ n : Nat, n ≤ 4 ∧ nv = .int .i64 n ∧ Own wr .u64 51 gw 64 (wIn b i n) ∧ Below wo.heap.size wo wr) (fun nv _ => 4 - (intOf nv).toNat)
              case atStart => exact ⟨0, Nat.zero_le _, rfl, hown2, hbel⟩
              case round =>
                clear hown2 hbel hdec
                obtain ⟨n, hn, rfl, hown, hbel⟩ := hrel
                by_cases hn4 : n < 4
                · have hdec2 : decide ((n : Int) < 4) = true := by rw [decide_eq_true_eq]; omega
                  obtain ⟨c, hc⟩ : ∃ c, c = b (4 * i + n) := ⟨_, rfl⟩
                  have hcl : c < 256 := by rw [hc]; exact HBL.out _
                  obtain ⟨x, hx⟩ : ∃ x, x = wIn b i n i := ⟨_, rfl⟩
                  have hxl : x < 16777216 := by rw [hx]; exact wIn_lt b HBL.out i n hn4
                  obtain ⟨y, hy⟩ : ∃ y, y = x * 256 + c := ⟨_, rfl⟩
                  have hyn : y = wordN b i (n + 1) := by rw [hy, hx, wIn_at, hc]; rfl
                  obtain ⟨q, hq⟩ : ∃ q, q = 4 * i := ⟨_, rfl⟩
                  obtain ⟨r, hr⟩ : ∃ r, r = p + q := ⟨_, rfl⟩
                  obtain ⟨z, hz⟩ : ∃ z, z = r + n := ⟨_, rfl⟩
                  have hzT : z < T := by omega
                  have hwsz := hbel.size
                  have hgBw : gB < wr.heap.size := by omega
                  have hgww : gw < wr.heap.size := hown.lt
                  have hcb : wr.cell? ⟨gB, z, none⟩ = some (.int .u8 (c : Int)) := by
                    rw [hbel.cell (p := ⟨gB, z, none⟩) hgBo, hz, hr, hq, Nat.add_assoc, HBCo.out (4 * i + n) (by omega), ← hc]
                  have hcx : wr.cell? ⟨gw, i, none⟩ = some (.int .u64 (x : Int)) := by rw [hx]; exact hown.cell i (by omega)
                  have HM1 : Hid (∀ w : World, (binOp .mul 3 (.int .i64 ((4 : Nat) : Int)) (.int .i64 ((i : Nat) : Int))).run Tryz.prog w = .ok (.int .i64 (q : Int)) w) := run_muli hq.symm (by omega)
                  have HA1 : Hid (∀ w : World, (binOp .add 3 (.int .i64 ((p : Nat) : Int)) (.int .i64 ((q : Nat) : Int))).run Tryz.prog w = .ok (.int .i64 (r : Int)) w) := run_addi' hr.symm (by omega)
                  have HA2 : Hid (∀ w : World, (binOp .add 3 (.int .i64 ((r : Nat) : Int)) (.int .i64 ((n : Nat) : Int))).run Tryz.prog w = .ok (.int .i64 (z : Int)) w) := run_addi' hz.symm (by omega)
                  have HOR : Hid (∀ w : World, (binOp .or 51 (.int .u64 ((x * 256 : Nat) : Int)) (.int .u64 (c : Int))).run Tryz.prog w = .ok (.int .u64 (y : Int)) w) := fun w => by rw [hy]; exact run_or8 (by omega) hcl w
                  have HYN := Lib.hid hyn
                  clear hq hr hz hy hyn hc hx
                  go_upto_region 17 with fail
                  refine wp_region_calm 20 (by rfl) (by kernel_rfl) (Rws.start wr) ?_
                  refine lexC_move (v := .slice (some ⟨gw, 0, none⟩) 64 64) rfl rfl ?_
                  (first | (simp only [put_some]; dsimp only [List.set_cons_succ, List.set_cons_zero]) | simp only [Act.put])
                  refine lexC_move (v := .int .i64 ((i : Nat) : Int)) rfl rfl ?_
                  (first | (simp only [put_some]; dsimp only [List.set_cons_succ, List.set_cons_zero]) | simp only [Act.put])
                  refine lexC_move (v := .slice (some ⟨gw, 0, none⟩) 64 64) rfl rfl ?_
                  (first | (simp only [put_some]; dsimp only [List.set_cons_succ, List.set_cons_zero]) | simp only [Act.put])
                  refine lexC_move (v := .int .i64 ((i : Nat) : Int)) rfl rfl ?_
                  (first | (simp only [put_some]; dsimp only [List.set_cons_succ, List.set_cons_zero]) | simp only [Act.put])
                  refine lexC_ixs (g := gw) (off := 0) (k := i) (len := 64) (cap := 64) rfl rfl rfl Tryz.underlying47 (by kernel_rfl) (by omega) ?_
                  (first | (simp only [put_some]; dsimp only [List.set_cons_succ, List.set_cons_zero]) | simp only [Act.put])
                  refine lexC_old (g := gw) (k := i) (v := .int .u64 ((x : Nat) : Int)) rfl (by simp only [Nat.zero_add]; rfl) hgww hcx isAgg_word64 ?_
                  (first | (simp only [put_some]; dsimp only [List.set_cons_succ, List.set_cons_zero]) | simp only [Act.put])
                  refine lexC_bin (r := .int .u64 ((x * 256 : Nat) : Int)) rfl rfl rfl (run_shl8 (by omega)) (fun _ => rfl) ?_
                  (first | (simp only [put_some]; dsimp only [List.set_cons_succ, List.set_cons_zero]) | simp only [Act.put])
                  refine lexC_move (v := .slice (some ⟨gB, 0, none⟩) T cB) rfl rfl ?_
                  (first | (simp only [put_some]; dsimp only [List.set_cons_succ, List.set_cons_zero]) | simp only [Act.put])
                  refine lexC_move (v := .int .i64 ((p : Nat) : Int)) rfl rfl ?_
                  (first | (simp only [put_some]; dsimp only [List.set_cons_succ, List.set_cons_zero]) | simp only [Act.put])
                  refine lexC_move (v := .int .i64 4) rfl rfl ?_
                  (first | (simp only [put_some]; dsimp only [List.set_cons_succ, List.set_cons_zero]) | simp only [Act.put])
                  refine lexC_move (v := .int .i64 ((i : Nat) : Int)) rfl rfl ?_
                  (first | (simp only [put_some]; dsimp only [List.set_cons_succ, List.set_cons_zero]) | simp only [Act.put])
                  refine lexC_bin (r := .int .i64 ((q : Nat) : Int)) rfl rfl rfl (HM1.out) (fun _ => rfl) ?_
                  (first | (simp only [put_some]; dsimp only [List.set_cons_succ, List.set_cons_zero]) | simp only [Act.put])
                  refine lexC_bin (r := .int .i64 ((r : Nat) : Int)) rfl rfl rfl (HA1.out) (fun _ => rfl) ?_
                  (first | (simp only [put_some]; dsimp only [List.set_cons_succ, List.set_cons_zero]) | simp only [Act.put])
                  refine lexC_move (v := .int .i64 ((n : Nat) : Int)) rfl rfl ?_
                  (first | (simp only [put_some]; dsimp only [List.set_cons_succ, List.set_cons_zero]) | simp only [Act.put])
                  refine lexC_bin (r := .int .i64 ((z : Nat) : Int)) rfl rfl rfl (HA2.out) (fun _ => rfl) ?_
                  (first | (simp only [put_some]; dsimp only [List.set_cons_succ, List.set_cons_zero]) | simp only [Act.put])
                  refine lexC_ixs (g := gB) (off := 0) (k := z) (len := T) (cap := cB) rfl rfl rfl Tryz.underlying46 (by kernel_rfl) hzT ?_
                  (first | (simp only [put_some]; dsimp only [List.set_cons_succ, List.set_cons_zero]) | simp only [Act.put])
                  refine lexC_old (g := gB) (k := z) (v := .int .u8 (c : Int)) rfl (by simp only [Nat.zero_add]; rfl) hgBw hcb Tryz.isAgg5 ?_
                  (first | (simp only [put_some]; dsimp only [List.set_cons_succ, List.set_cons_zero]) | simp only [Act.put])
                  refine lexC_conv (r := .int .u64 ((c : Nat) : Int)) rfl rfl (run_conv864 c hcl) ?_
                  (first | (simp only [put_some]; dsimp only [List.set_cons_succ, List.set_cons_zero]) | simp only [Act.put])
                  refine lexC_bin (r := .int .u64 ((y : Nat) : Int)) rfl rfl rfl (HOR.out) (fun _ => rfl) ?_
                  (first | (simp only [put_some]; dsimp only [List.set_cons_succ, List.set_cons_zero]) | simp only [Act.put])
                  refine lexC_ixs (g := gw) (off := 0) (k := i) (len := 64) (cap := 64) rfl rfl rfl Tryz.underlying47 (by kernel_rfl) (by omega) ?_
                  (first | (simp only [put_some]; dsimp only [List.set_cons_succ, List.set_cons_zero]) | simp only [Act.put])
                  refine lexC_zero ?_; simp only [List.take_succ_cons, List.take_zero, List.drop_succ_cons, List.drop_zero]; (repeat (first | (refine aN_cons (by rfl) ?_; intro g; (first | (simp only [put_some]; dsimp only [List.set_cons_succ, List.set_cons_zero]) | simp only [Act.put])) | (refine afterAl_skip (by rfl) ?_))); refine afterAl_nil ?_; intro w9 hR9; (try simp only)
                  have hb9 := hR9.below
                  have hbel9 := hbel.trans (hb9.mono hwsz)
                  have hown9 := hown.below hb9 (Nat.le_refl _)
                  have hc9 := hown9.cell i (by omega)
                  have hf9 := hown9.frozen i
                  clear hR9 hown hbel hcb hcx hb9 hdec2
                  go_wp2_with fail
                  have hown10 : Own (w9.setCell ⟨gw, i, none⟩ (.int .u64 ((y : Nat) : Int))) .u64 51 gw 64 (wIn b i (n + 1)) := (hown9.set i y).congr fun j _ => wIn_next b i n y HYN.out j
                  go_roundw
                  case rel => exact ⟨n + 1, by omega, by go_num, hown10, hbel9.setCell HGW.out _⟩
                  case measure => simp [intOf]; omega
                · obtain rfl : n = 4 := by omega
                  have hown3 : Own wr .u64 51 gw 64 (wHd b (i + 1)) := hown.congr fun j _ => wIn_hd b i j
                  go_wp2_with fail
                  go_roundw
                  case rel => exact ⟨i + 1, by omega, by go_num, hown3, hbel⟩
                  case measure => simp [intOf]; omega
            · obtain rfl : i = 16 := by omega
              have hown2 : Own wr .u64 51 gw 64 (wrun (wordsOf b) 0) := hown.congr fun j _ => wHd_16 b j
              have HW : Hid (∀ n j, wrun (wordsOf b) n j < 4294967296) := wrun_lt (wordsOf_lt b HBL.out)
              clear hown
              rw [show ((16 : Nat) : Int) = 16 from rfl]
              go_upto_region 19 with fail
              refine wp_loop_mask [false, false, false, false, false, false, false, false, false, false, false, false, true, true, true, false, false, false, false, false, false, false, false, false, false, false, false, false, false, false, false, false, false, false, false, false, false, false, false, false, false, false, false, false, false, false, false, false, false, false, false, false, false, false, false, false, false, false, false, false, false, false, false, false, false, false, false, false, false, false, false, false, false, false, false, false, false, false, false, false, false, false, false, false, false, false, false, false, false, false, false, false, false, false, false, false, true, true, true, true, true, true, true, true, true, true, true, true, true, true, true, true, true, true, true, true, true, true, true, true, true, true, true, true, true, true, true, true, true, true, true, true, true, true, true, true, true, true, true, true, true, true, true, true, true, true, true, true, true, true, true, true, true, true, true, true, true, true, true, true, true, true, true, true, true, true, true, true, false, false, false, false, false, false, false, false, false, false, false, false, false, false, false, false, false, false, false, false, false, false, false, false, false, false, false, false, false, false, false, false, false, false, false, false, false, false, false, false, false, false, false, false, false, false, false, false, false, false, false, false, false, false, false, false, false, false, false, false, false, false, false, false, false, false, false, false, false, false, false, false, false, false, false, false, false, false, false, false, false, false, false, false, false, false, false, false, false, false, false, false, false, false, false, false, false, false, false, false, false, false, false, false, false, false, false, false, false, false, false, false, false, false, false, false, false, false, false, false, false, false, false, false, false, false, false, false, false, false, false, false, false, false, false, false, false, false, false, false, false, false, false, false, false, false, false, false, false, false, false, false, false, false, false, false, false, false, false, false, false, false, false, false, false, false, false, false, false, false, false, false] (fun u wr => ∃ i : Nat, 16 ≤ i ∧ i ≤ 64 ∧ u 12 = .int .i64 i ∧ Own wr .u64 51 gw 64 (wrun (wordsOf b) (i - 16)) ∧ Below wo.heap.size wo wr) (fun u _ => 64 - (intOf (u 12)).toNat) rfl ?atStart ?round
              case atStart => exact ⟨16, Nat.le_refl _, by omega, rfl, hown2, hbel⟩
              case round =>
                clear hown2 hbel
                intro u2 wr hrel
                obtain ⟨i, hi16, hi, hu12, hown, hbel⟩ := hrel
                dsimp only [mask, Nat.reduceAdd]
                rw [hu12]
                clear hu12
                have hwsz := hbel.size
                have hg2w : g2 < wr.heap.size := by omega
                have HC2 : Hid (∀ j v, (kdc (.slice (some ⟨gk, 0, none⟩) 64 ck) (.slice (some ⟨gf, 0, none⟩) 8 cf))[j]? = some v → wr.cell? ⟨g2, j, none⟩ = some v) := fun j v h => (hbel.cell (p := ⟨g2, j, none⟩) hg2o).trans (HC2o.out j v h)
                have c1 : wr.cell? ⟨g2, 1, none⟩ = some (.int .i64 64) := HC2.out 1 _ rfl
                by_cases hin : i < 64
                · have hdec2 : decide ((i : Int) < 64) = true := by rw [decide_eq_true_eq]; omega
                  have HRW : Hid (wr.heap[g2]? = some (.cells kd 99 (0, 0))) := (hbel.block g2 hg2o).trans HRWo.out
                  obtain ⟨f, hf⟩ : ∃ f, f = wrun (wordsOf b) (i - 16) := ⟨_, rfl⟩
                  have hfl : ∀ j, f j < 4294967296 := fun j => by rw [hf]; exact HW.out _ _
                  rw [← hf] at hown
                  obtain ⟨a16, h16⟩ : ∃ a, a + 16 = i := ⟨i - 16, by omega⟩
                  obtain ⟨a15, h15⟩ : ∃ a, a + 15 = i := ⟨i - 15, by omega⟩
                  obtain ⟨a7, h7⟩ : ∃ a, a + 7 = i := ⟨i - 7, by omega⟩
                  obtain ⟨a2, h2⟩ : ∃ a, a + 2 = i := ⟨i - 2, by omega⟩
                  obtain ⟨x, hx⟩ : ∃ x, x = f a15 := ⟨_, rfl⟩
                  obtain ⟨y, hy⟩ : ∃ y, y = f a2 := ⟨_, rfl⟩
                  obtain ⟨u, hu⟩ : ∃ u, u = f a16 := ⟨_, rfl⟩
                  obtain ⟨v, hv⟩ : ∃ v, v = f a7 := ⟨_, rfl⟩
                  have hxl : x < 4294967296 := by rw [hx]; exact hfl _
                  have hyl : y < 4294967296 := by rw [hy]; exact hfl _
                  have hul : u < 4294967296 := by rw [hu]; exact hfl _
                  have hvl : v < 4294967296 := by rw [hv]; exact hfl _
                  obtain ⟨mx, hmx⟩ : ∃ mx, mx = mix32 x 7 18 3 true := ⟨_, rfl⟩
                  obtain ⟨my, hmy⟩ : ∃ my, my = mix32 y 17 19 10 true := ⟨_, rfl⟩
                  have hmxl : mx < 4294967296 := by rw [hmx]; exact mix32_lt _ _ _ _ _ hxl
                  have hmyl : my < 4294967296 := by rw [hmy]; exact mix32_lt _ _ _ _ _ hyl
                  obtain ⟨z, hz⟩ : ∃ z, z = (u + mx + v + my) % 4294967296 := ⟨_, rfl⟩
                  have hzs : z = wstep f i i := by rw [hz, hu, hmx, hx, hv, hmy, hy, ← wstep_sum f i, show i - 16 = a16 by omega, show i - 15 = a15 by omega, show i - 7 = a7 by omega, show i - 2 = a2 by omega]
                  have hrow : ∀ j, (if j = i then z else f j) = wrun (wordsOf b) (i + 1 - 16) j := fun j => by
                    have e : wrun (wordsOf b) (i + 1 - 16) = wstep f i := by
                      rw [hf, show i + 1 - 16 = (i - 16) + 1 by omega]
                      show wstep (wrun (wordsOf b) (i - 16)) (16 + (i - 16)) = _
                      rw [show 16 + (i - 16) = i by omega]
                    rw [e]
                    by_cases ej : j = i
                    · rw [if_pos ej, ej, hzs]
                    · rw [if_neg ej]; unfold wstep; rw [if_neg ej]
                  have cx : wr.cell? ⟨gw, a15, none⟩ = some (.int .u64 (x : Int)) := by rw [hx]; exact hown.cell a15 (by omega)
                  have cy : wr.cell? ⟨gw, a2, none⟩ = some (.int .u64 (y : Int)) := by rw [hy]; exact hown.cell a2 (by omega)
                  have hgww : gw < wr.heap.size := hown.lt
                  have HCUZ : Hid (∀ w, Calls Tryz.prog 107 #[.agg kd, .int .u64 ((u + mx + v + my : Nat) : Int)] w fun e w' => e = .returned (.int .u64 ((z : Nat) : Int)) ∧ Below w.heap.size w w') := fun w => by rw [hz]; exact HCUT.out _ w (by omega)
                  have HXL := Lib.hid hxl; have HYL := Lib.hid hyl
                  have HMX : Hid (ror32 x 7 ^^^ ror32 x 18 ^^^ (x / 2 ^ 3) = mx) := by rw [hmx]; rfl
                  have HMY : Hid (ror32 y 17 ^^^ ror32 y 19 ^^^ (y / 2 ^ 10) = my) := by rw [hmy]; rfl
                  have HU := Lib.hid hu; have HV2 := Lib.hid hv; have H16 := Lib.hid h16; have H15 := Lib.hid h15; have H7 := Lib.hid h7; have H2 := Lib.hid h2; have HROW := Lib.hid hrow
                  have hl16 : a16 < 64 := by omega
                  have hl15 : a15 < 64 := by omega
                  have hl7 : a7 < 64 := by omega
                  have hl2 : a2 < 64 := by omega
                  clear hx hy hu hv hmx hmy hz hzs hrow hf hfl h16 h15 h7 h2
                  go_upto_region 21 with fail
                  have e15 : (i : Int) - 15 = (a15 : Int) := by have := H15.out; omega
                  have e2 : (i : Int) - 2 = (a2 : Int) := by have := H2.out; omega
                  go_quiet (fail)
                  clear e15 e2
                  obtain ⟨w9, hw9⟩ : ∃ w9 : World, w9 = wr.drewN nq := ⟨_, rfl⟩
                  rw [← hw9]
                  have hb9 : Below wr.heap.size wr w9 := by rw [hw9]; exact below_drewN (Below.refl _ _) nq
                  clear hw9
                  have hwsz9 := hb9.size
                  have hbel9 := hbel.trans (hb9.mono hwsz)
                  have hown9 := hown.below hb9 (Nat.le_refl _)
                  have HC29 : Hid (∀ j v, (kdc (.slice (some ⟨gk, 0, none⟩) 64 ck) (.slice (some ⟨gf, 0, none⟩) 8 cf))[j]? = some v → w9.cell? ⟨g2, j, none⟩ = some v) := fun j v h => (hb9.cell (p := ⟨g2, j, none⟩) hg2w).trans (HC2.out j v h)
                  have HRW9 : Hid (w9.heap[g2]? = some (.cells kd 99 (0, 0))) := (hb9.block g2 hg2w).trans HRW.out
                  clear HC2 HRW hb9 hown hbel c1 cx cy hdec2
                  have hg2w : g2 < w9.heap.size := by omega
                  have HC2 := HC29; have HRW := HRW9
                  clear HC29 HRW9
                  have hgww : gw < w9.heap.size := hown9.lt
                  have cu : w9.cell? ⟨gw, a16, none⟩ = some (.int .u64 (u : Int)) := by rw [HU.out]; exact hown9.cell a16 hl16
                  have cv : w9.cell? ⟨gw, a7, none⟩ = some (.int .u64 (v : Int)) := by rw [HV2.out]; exact hown9.cell a7 hl7
                  go_upto_region 22 with fail
                  refine wp_region_calm 56 (by rfl) (by kernel_rfl) (Rws.start w9) ?_
                  refine lexC_move (v := .slice (some ⟨gw, 0, none⟩) 64 64) rfl rfl ?_
                  (first | (simp only [put_some]; dsimp only [List.set_cons_succ, List.set_cons_zero]) | simp only [Act.put])
                  refine lexC_move (v := .int .i64 ((i : Nat) : Int)) rfl rfl ?_
                  (first | (simp only [put_some]; dsimp only [List.set_cons_succ, List.set_cons_zero]) | simp only [Act.put])
                  refine lexC_oldrow (cs := kd) rfl rfl hg2w HRW.out Tryz.underlying99 rfl (by rw [HKS.out]; exact kd_info) ?_
                  (first | (simp only [put_some]; dsimp only [List.set_cons_succ, List.set_cons_zero]) | simp only [Act.put])
                  refine lexC_move (v := .slice (some ⟨gw, 0, none⟩) 64 64) rfl rfl ?_
                  (first | (simp only [put_some]; dsimp only [List.set_cons_succ, List.set_cons_zero]) | simp only [Act.put])
                  refine lexC_move (v := .int .i64 ((i : Nat) : Int)) rfl rfl ?_
                  (first | (simp only [put_some]; dsimp only [List.set_cons_succ, List.set_cons_zero]) | simp only [Act.put])
                  refine lexC_bin (r := .int .i64 ((a16 : Nat) : Int)) rfl rfl rfl (run_subi H16.out (by omega)) (fun _ => rfl) ?_
                  (first | (simp only [put_some]; dsimp only [List.set_cons_succ, List.set_cons_zero]) | simp only [Act.put])
                  refine lexC_ixs (g := gw) (off := 0) (k := a16) (len := 64) (cap := 64) rfl rfl rfl Tryz.underlying47 (by kernel_rfl) hl16 ?_
                  (first | (simp only [put_some]; dsimp only [List.set_cons_succ, List.set_cons_zero]) | simp only [Act.put])
                  refine lexC_old (g := gw) (k := a16) (v := .int .u64 ((u : Nat) : Int)) rfl (by simp only [Nat.zero_add]; rfl) hgww cu isAgg_word64 ?_
                  (first | (simp only [put_some]; dsimp only [List.set_cons_succ, List.set_cons_zero]) | simp only [Act.put])
                  refine lexC_oldrow (cs := kd) rfl rfl hg2w HRW.out Tryz.underlying99 rfl (by rw [HKS.out]; exact kd_info) ?_
                  (first | (simp only [put_some]; dsimp only [List.set_cons_succ, List.set_cons_zero]) | simp only [Act.put])
                  refine lexC_move (v := .int .u64 ((x : Nat) : Int)) rfl rfl ?_
                  (first | (simp only [put_some]; dsimp only [List.set_cons_succ, List.set_cons_zero]) | simp only [Act.put])
                  refine lexC_field (g := g2) (k := 0) (off := 3) rfl rfl Tryz.underlying99 rfl ⟨2, by kernel_rfl⟩ rfl ?_
                  (first | (simp only [put_some]; dsimp only [List.set_cons_succ, List.set_cons_zero]) | simp only [Act.put])
                  refine lexC_ixo (g := g2) (q := 3) (k := 0) rfl rfl rfl Tryz.underlying97 int_info (by decide) ?_
                  (first | (simp only [put_some]; dsimp only [List.set_cons_succ, List.set_cons_zero]) | simp only [Act.put])
                  refine lexC_old (g := g2) (k := 3) (v := .int .i64 ((7 : Nat) : Int)) rfl rfl hg2w (HC2.out 3 _ rfl) isAgg_int ?_
                  (first | (simp only [put_some]; dsimp only [List.set_cons_succ, List.set_cons_zero]) | simp only [Act.put])
                  refine lexC_call (v := .int .u64 ((ror32 x 7 : Nat) : Int)) rfl Tryz.func108 (by kernel_rfl) rfl rfl (fun w _ => HROR.out x 7 w HXL.out (by omega)) ?_
                  (first | (simp only [put_some]; dsimp only [List.set_cons_succ, List.set_cons_zero]) | simp only [Act.put])
                  refine lexC_oldrow (cs := kd) rfl rfl hg2w HRW.out Tryz.underlying99 rfl (by rw [HKS.out]; exact kd_info) ?_
                  (first | (simp only [put_some]; dsimp only [List.set_cons_succ, List.set_cons_zero]) | simp only [Act.put])
                  refine lexC_move (v := .int .u64 ((x : Nat) : Int)) rfl rfl ?_
                  (first | (simp only [put_some]; dsimp only [List.set_cons_succ, List.set_cons_zero]) | simp only [Act.put])
                  refine lexC_field (g := g2) (k := 0) (off := 3) rfl rfl Tryz.underlying99 rfl ⟨2, by kernel_rfl⟩ rfl ?_
                  (first | (simp only [put_some]; dsimp only [List.set_cons_succ, List.set_cons_zero]) | simp only [Act.put])
                  refine lexC_ixo (g := g2) (q := 3) (k := 1) rfl rfl rfl Tryz.underlying97 int_info (by decide) ?_
                  (first | (simp only [put_some]; dsimp only [List.set_cons_succ, List.set_cons_zero]) | simp only [Act.put])
                  refine lexC_old (g := g2) (k := 4) (v := .int .i64 ((18 : Nat) : Int)) rfl rfl hg2w (HC2.out 4 _ rfl) isAgg_int ?_
                  (first | (simp only [put_some]; dsimp only [List.set_cons_succ, List.set_cons_zero]) | simp only [Act.put])
                  refine lexC_call (v := .int .u64 ((ror32 x 18 : Nat) : Int)) rfl Tryz.func108 (by kernel_rfl) rfl rfl (fun w _ => HROR.out x 18 w HXL.out (by omega)) ?_
                  (first | (simp only [put_some]; dsimp only [List.set_cons_succ, List.set_cons_zero]) | simp only [Act.put])
                  refine lexC_bin (r := .int .u64 ((ror32 x 7 ^^^ ror32 x 18 : Nat) : Int)) rfl rfl rfl (run_xorw (ror32_lt x _ HXL.out) (ror32_lt x _ HXL.out)) (fun _ => rfl) ?_
                  (first | (simp only [put_some]; dsimp only [List.set_cons_succ, List.set_cons_zero]) | simp only [Act.put])
                  refine lexC_move (v := .int .u64 ((x : Nat) : Int)) rfl rfl ?_
                  (first | (simp only [put_some]; dsimp only [List.set_cons_succ, List.set_cons_zero]) | simp only [Act.put])
                  refine lexC_field (g := g2) (k := 0) (off := 3) rfl rfl Tryz.underlying99 rfl ⟨2, by kernel_rfl⟩ rfl ?_
                  (first | (simp only [put_some]; dsimp only [List.set_cons_succ, List.set_cons_zero]) | simp only [Act.put])
                  refine lexC_ixo (g := g2) (q := 3) (k := 2) rfl rfl rfl Tryz.underlying97 int_info (by decide) ?_
                  (first | (simp only [put_some]; dsimp only [List.set_cons_succ, List.set_cons_zero]) | simp only [Act.put])
                  refine lexC_old (g := g2) (k := 5) (v := .int .i64 ((3 : Nat) : Int)) rfl rfl hg2w (HC2.out 5 _ rfl) isAgg_int ?_
                  (first | (simp only [put_some]; dsimp only [List.set_cons_succ, List.set_cons_zero]) | simp only [Act.put])
                  refine lexC_bin (r := .int .u64 ((x / 2 ^ 3 : Nat) : Int)) rfl rfl rfl (run_shr64 (by omega)) (fun _ => rfl) ?_
                  (first | (simp only [put_some]; dsimp only [List.set_cons_succ, List.set_cons_zero]) | simp only [Act.put])
                  refine lexC_bin (r := .int .u64 ((mx : Nat) : Int)) rfl rfl rfl (fun w => by rw [← HMX.out]; exact run_xorw (HX.out _ _ (ror32_lt x _ HXL.out) (ror32_lt x _ HXL.out)) (Nat.lt_of_le_of_lt (Nat.div_le_self _ _) HXL.out) w) (fun _ => rfl) ?_
                  (first | (simp only [put_some]; dsimp only [List.set_cons_succ, List.set_cons_zero]) | simp only [Act.put])
                  refine lexC_bin (r := .int .u64 ((u + mx : Nat) : Int)) rfl rfl rfl (run_addw (by omega) (by omega)) (fun _ => rfl) ?_
                  (first | (simp only [put_some]; dsimp only [List.set_cons_succ, List.set_cons_zero]) | simp only [Act.put])
                  refine lexC_move (v := .slice (some ⟨gw, 0, none⟩) 64 64) rfl rfl ?_
                  (first | (simp only [put_some]; dsimp only [List.set_cons_succ, List.set_cons_zero]) | simp only [Act.put])
                  refine lexC_move (v := .int .i64 ((i : Nat) : Int)) rfl rfl ?_
                  (first | (simp only [put_some]; dsimp only [List.set_cons_succ, List.set_cons_zero]) | simp only [Act.put])
                  refine lexC_bin (r := .int .i64 ((a7 : Nat) : Int)) rfl rfl rfl (run_subi H7.out (by omega)) (fun _ => rfl) ?_
                  (first | (simp only [put_some]; dsimp only [List.set_cons_succ, List.set_cons_zero]) | simp only [Act.put])
                  refine lexC_ixs (g := gw) (off := 0) (k := a7) (len := 64) (cap := 64) rfl rfl rfl Tryz.underlying47 (by kernel_rfl) hl7 ?_
                  (first | (simp only [put_some]; dsimp only [List.set_cons_succ, List.set_cons_zero]) | simp only [Act.put])
                  refine lexC_old (g := gw) (k := a7) (v := .int .u64 ((v : Nat) : Int)) rfl (by simp only [Nat.zero_add]; rfl) hgww cv isAgg_word64 ?_
                  (first | (simp only [put_some]; dsimp only [List.set_cons_succ, List.set_cons_zero]) | simp only [Act.put])
                  refine lexC_bin (r := .int .u64 ((u + mx + v : Nat) : Int)) rfl rfl rfl (run_addw (by omega) (by omega)) (fun _ => rfl) ?_
                  (first | (simp only [put_some]; dsimp only [List.set_cons_succ, List.set_cons_zero]) | simp only [Act.put])
                  refine lexC_oldrow (cs := kd) rfl rfl hg2w HRW.out Tryz.underlying99 rfl (by rw [HKS.out]; exact kd_info) ?_
                  (first | (simp only [put_some]; dsimp only [List.set_cons_succ, List.set_cons_zero]) | simp only [Act.put])
                  refine lexC_move (v := .int .u64 ((y : Nat) : Int)) rfl rfl ?_
                  (first | (simp only [put_some]; dsimp only [List.set_cons_succ, List.set_cons_zero]) | simp only [Act.put])
                  refine lexC_field (g := g2) (k := 0) (off := 6) rfl rfl Tryz.underlying99 rfl ⟨2, by kernel_rfl⟩ rfl ?_
                  (first | (simp only [put_some]; dsimp only [List.set_cons_succ, List.set_cons_zero]) | simp only [Act.put])
                  refine lexC_ixo (g := g2) (q := 6) (k := 0) rfl rfl rfl Tryz.underlying97 int_info (by decide) ?_
                  (first | (simp only [put_some]; dsimp only [List.set_cons_succ, List.set_cons_zero]) | simp only [Act.put])
                  refine lexC_old (g := g2) (k := 6) (v := .int .i64 ((17 : Nat) : Int)) rfl rfl hg2w (HC2.out 6 _ rfl) isAgg_int ?_
                  (first | (simp only [put_some]; dsimp only [List.set_cons_succ, List.set_cons_zero]) | simp only [Act.put])
                  refine lexC_call (v := .int .u64 ((ror32 y 17 : Nat) : Int)) rfl Tryz.func108 (by kernel_rfl) rfl rfl (fun w _ => HROR.out y 17 w HYL.out (by omega)) ?_
                  (first | (simp only [put_some]; dsimp only [List.set_cons_succ, List.set_cons_zero]) | simp only [Act.put])
                  refine lexC_oldrow (cs := kd) rfl rfl hg2w HRW.out Tryz.underlying99 rfl (by rw [HKS.out]; exact kd_info) ?_
                  (first | (simp only [put_some]; dsimp only [List.set_cons_succ, List.set_cons_zero]) | simp only [Act.put])
                  refine lexC_move (v := .int .u64 ((y : Nat) : Int)) rfl rfl ?_
                  (first | (simp only [put_some]; dsimp only [List.set_cons_succ, List.set_cons_zero]) | simp only [Act.put])
                  refine lexC_field (g := g2) (k := 0) (off := 6) rfl rfl Tryz.underlying99 rfl ⟨2, by kernel_rfl⟩ rfl ?_
                  (first | (simp only [put_some]; dsimp only [List.set_cons_succ, List.set_cons_zero]) | simp only [Act.put])
                  refine lexC_ixo (g := g2) (q := 6) (k := 1) rfl rfl rfl Tryz.underlying97 int_info (by decide) ?_
                  (first | (simp only [put_some]; dsimp only [List.set_cons_succ, List.set_cons_zero]) | simp only [Act.put])
                  refine lexC_old (g := g2) (k := 7) (v := .int .i64 ((19 : Nat) : Int)) rfl rfl hg2w (HC2.out 7 _ rfl) isAgg_int ?_
                  (first | (simp only [put_some]; dsimp only [List.set_cons_succ, List.set_cons_zero]) | simp only [Act.put])
                  refine lexC_call (v := .int .u64 ((ror32 y 19 : Nat) : Int)) rfl Tryz.func108 (by kernel_rfl) rfl rfl (fun w _ => HROR.out y 19 w HYL.out (by omega)) ?_
                  (first | (simp only [put_some]; dsimp only [List.set_cons_succ, List.set_cons_zero]) | simp only [Act.put])
                  refine lexC_bin (r := .int .u64 ((ror32 y 17 ^^^ ror32 y 19 : Nat) : Int)) rfl rfl rfl (run_xorw (ror32_lt y _ HYL.out) (ror32_lt y _ HYL.out)) (fun _ => rfl) ?_
                  (first | (simp only [put_some]; dsimp only [List.set_cons_succ, List.set_cons_zero]) | simp only [Act.put])
                  refine lexC_move (v := .int .u64 ((y : Nat) : Int)) rfl rfl ?_
                  (first | (simp only [put_some]; dsimp only [List.set_cons_succ, List.set_cons_zero]) | simp only [Act.put])
                  refine lexC_field (g := g2) (k := 0) (off := 6) rfl rfl Tryz.underlying99 rfl ⟨2, by kernel_rfl⟩ rfl ?_
                  (first | (simp only [put_some]; dsimp only [List.set_cons_succ, List.set_cons_zero]) | simp only [Act.put])
                  refine lexC_ixo (g := g2) (q := 6) (k := 2) rfl rfl rfl Tryz.underlying97 int_info (by decide) ?_
                  (first | (simp only [put_some]; dsimp only [List.set_cons_succ, List.set_cons_zero]) | simp only [Act.put])
                  refine lexC_old (g := g2) (k := 8) (v := .int .i64 ((10 : Nat) : Int)) rfl rfl hg2w (HC2.out 8 _ rfl) isAgg_int ?_
                  (first | (simp only [put_some]; dsimp only [List.set_cons_succ, List.set_cons_zero]) | simp only [Act.put])
                  refine lexC_bin (r := .int .u64 ((y / 2 ^ 10 : Nat) : Int)) rfl rfl rfl (run_shr64 (by omega)) (fun _ => rfl) ?_
                  (first | (simp only [put_some]; dsimp only [List.set_cons_succ, List.set_cons_zero]) | simp only [Act.put])
                  refine lexC_bin (r := .int .u64 ((my : Nat) : Int)) rfl rfl rfl (fun w => by rw [← HMY.out]; exact run_xorw (HX.out _ _ (ror32_lt y _ HYL.out) (ror32_lt y _ HYL.out)) (Nat.lt_of_le_of_lt (Nat.div_le_self _ _) HYL.out) w) (fun _ => rfl) ?_
                  (first | (simp only [put_some]; dsimp only [List.set_cons_succ, List.set_cons_zero]) | simp only [Act.put])
                  refine lexC_bin (r := .int .u64 ((u + mx + v + my : Nat) : Int)) rfl rfl rfl (run_addw (by omega) (by omega)) (fun _ => rfl) ?_
                  (first | (simp only [put_some]; dsimp only [List.set_cons_succ, List.set_cons_zero]) | simp only [Act.put])
                  refine lexC_call (v := .int .u64 ((z : Nat) : Int)) rfl Tryz.func107 (by kernel_rfl) rfl rfl (fun w _ => HCUZ.out w) ?_
                  (first | (simp only [put_some]; dsimp only [List.set_cons_succ, List.set_cons_zero]) | simp only [Act.put])
                  refine lexC_ixs (g := gw) (off := 0) (k := i) (len := 64) (cap := 64) rfl rfl rfl Tryz.underlying47 (by kernel_rfl) hin ?_
                  (first | (simp only [put_some]; dsimp only [List.set_cons_succ, List.set_cons_zero]) | simp only [Act.put])
                  refine lexC_zero ?_; simp only [List.take_succ_cons, List.take_zero, List.drop_succ_cons, List.drop_zero]; (repeat (first | (refine aN_cons (by rfl) ?_; intro g; (first | (simp only [put_some]; dsimp only [List.set_cons_succ, List.set_cons_zero]) | simp only [Act.put])) | (refine afterAl_skip (by rfl) ?_))); refine afterAl_nil ?_; intro w10 hR10; (try simp only)
                  have hb10 := hR10.below
                  have hbel10 := hbel9.trans (hb10.mono (by omega))
                  have hown10 := hown9.below hb10 (Nat.le_refl _)
                  have hc10 := hown10.cell i hin
                  have hf10 := hown10.frozen i
                  clear hR10 hown9 hbel9 hb10 cu cv
                  go_wp2_with fail
                  have hown11 : Own (w10.setCell ⟨gw, i, none⟩ (.int .u64 ((z : Nat) : Int))) .u64 51 gw 64 (wrun (wordsOf b) (i + 1 - 16)) := (hown10.set i z).congr fun j _ => HROW.out j
                  have hv12 : (Value.int .i64 ((i : Int) + 1)) = .int .i64 ((i + 1 : Nat) : Int) := by go_num
                  refine RoundEnd.mk (by ((repeat (refine And.intro rfl ?_)); exact True.intro)) ⟨i + 1, by omega, by omega, hv12, hown11, hbel10.setCell HGW.out _⟩ ?_
                  show 64 - (intOf (.int .i64 ((i : Int) + 1))).toNat < 64 - (intOf (.int .i64 ((i : Nat) : Int))).toNat
                  simp [intOf]; omega
                · obtain rfl : i = 64 := by omega
                  obtain ⟨f, hf⟩ : ∃ f, f = wrun (wordsOf b) 48 := ⟨_, rfl⟩
                  have hfl : ∀ j, f j < 4294967296 := fun j => by rw [hf]; exact HW.out _ _
                  have hown1 : Own wr .u64 51 gw 64 f := by rw [hf]; exact hown
                  have HF48 := Lib.hid hf; have HFL := Lib.hid hfl
                  clear hf hfl hown
                  rw [show ((64 : Nat) : Int) = 64 from rfl]
                  obtain ⟨sv, hsv⟩ : ∃ sv, sv = (List.range 8).map st := ⟨_, rfl⟩
                  have hsn : sv.length = 8 := by rw [hsv]; rfl
                  have hstw : OwnC wr gs 8 st := hst0.at (hbel.block gs hgso)
                  have hsc : ∀ W : World, Below wr.heap.size wr W → ∀ j u, (sv.map fun (c : Nat) => Value.int .u64 (c : Int))[j]? = some u → W.cell? ((⟨gs, 0, none⟩ : Addr).add j) = some u := fun W hW j u hu => by
                    have hj : j < 8 := by have := (List.getElem?_eq_some_iff.1 hu).1; rw [List.length_map, hsn] at this; exact this
                    rw [addr_add, Nat.zero_add, (hstw.below hW).cell j hj]
                    rw [hsv, List.map_map, List.getElem?_map, List.getElem?_range hj] at hu
                    exact hu
                  have hsd : ∀ j, j < 8 → sv.getD j 0 = st j := fun j hj => by rw [hsv, List.getD_eq_getElem?_getD, List.getElem?_map, List.getElem?_range hj]; rfl
                  have HSN := Lib.hid hsn; have HSC := Lib.hid hsc; have HSD := Lib.hid hsd
                  clear hsv hsn hsc hsd hstw
                  go_upto_region 24 with (at_builtin; refine wpList_append_u64 _ rfl (.tmp 168) (.tmp 169) _ rfl Tryz.underlying47 wr.heap.size _ [] rfl (b64_new wr [] (by decide)) ⟨gs, 0, none⟩ 8 cst sv rfl HSN.out (HSC.out _ ((Below.refl _ _).alloc (Nat.le_refl _) _)) (by simp) (by simp) wr ((Below.refl _ _).alloc (Nat.le_refl _) _) ?_; intro v11 w11 hb11 hbe11)
                  rw [List.nil_append] at hb11
                  obtain ⟨gv, cv, rfl, hgv, hcv, hcvm, hv0⟩ := OwnC.of hb11 (by rw [HSN.out]; omega)
                  rw [HSN.out] at hcv hv0 ⊢
                  have hrd0 : Rd w11 .u64 (some ⟨gv, 0, none⟩) 8 cv (rrun st kF f 0) := (hv0.congr HSD.out).rd cv hcv hcvm
                  have hbel11 := hbel.trans (hbe11.mono hwsz)
                  have hown11 := hown1.below hbe11 (Nat.le_refl _)
                  have hgv0 : wo.heap.size ≤ gv := by omega
                  clear hb11 hv0 hbel hown1 hbe11 HSN HSC HSD c1 HC2 hg2w hwsz
                  have HVS : Hid (∀ n j, rrun st kF f n j < 4294967296) := rrun_lt HSTL.out
                  go_upto_region 25 with fail
                  refine wp_loop_mask [false, false, false, false, false, false, false, false, false, false, false, false, false, false, false, true, true, true, true, true, true, false, false, false, false, false, false, false, false, false, false, false, false, false, false, false, false, false, false, false, false, false, false, false, false, false, false, false, false, false, false, false, false, false, false, false, false, false, false, false, false, false, false, false, false, false, false, false, false, false, false, false, false, false, false, false, false, false, false, false, false, false, false, false, false, false, false, false, false, false, false, false, false, false, false, false, false, false, false, false, false, false, false, false, false, false, false, false, false, false, false, false, false, false, false, false, false, false, false, false, false, false, false, false, false, false, false, false, false, false, false, false, false, false, false, false, false, false, false, false, false, false, false, false, false, false, false, false, false, false, false, false, false, false, false, false, false, false, false, false, false, false, false, false, false, false, false, false, false, false, false, true, true, true, true, true, true, true, true, true, true, true, true, true, true, true, true, true, true, true, true, true, true, true, true, true, true, true, true, true, true, true, true, true, true, true, true, true, true, true, true, true, true, true, true, true, true, true, true, true, true, true, true, true, true, true, true, true, true, true, true, true, true, true, true, true, true, true, true, true, true, true, true, true, true, true, true, true, true, true, true, true, true, true, true, true, true, true, true, true, true, true, true, true, true, true, true, true, true, true, true, true, true, true, true, true, true, true, true, true, true, true, true, true, true, true, true, true, true, true, true, true, true, true, true, true, true, true, true, true, true, true, true, true, false, false, false, false, false, false, false, false, false, false, false, false, false, false, false, false, false, false, false, false, false, false, false, false, false, false, false, false, false, false, false, false, false, false, false, false] (fun u wr => ∃ (i gv cv : Nat), i ≤ 64 ∧ u 15 = .slice (some ⟨gv, 0, none⟩) 8 cv ∧ u 16 = .int .i64 i ∧ wo.heap.size ≤ gv ∧ Rd wr .u64 (some ⟨gv, 0, none⟩) 8 cv (rrun st kF f i) ∧ Own wr .u64 51 gw 64 f ∧ Below wo.heap.size wo wr) (fun u _ => 64 - (intOf (u 16)).toNat) rfl ?atStart ?round
                  case atStart => exact ⟨0, gv, cv, Nat.zero_le _, rfl, rfl, hgv0, hrd0, hown11, hbel11⟩
                  case round =>
                    clear hrd0 hown11 hbel11
                    intro u3 wr hrel
                    obtain ⟨i, gv, cv, hi, hu15, hu16, hgv0, hrd, hown, hbel⟩ := hrel
                    dsimp only [mask, Nat.reduceAdd]
                    rw [hu15, hu16]
                    clear hu15 hu16
                    have hwsz := hbel.size
                    have hg2w : g2 < wr.heap.size := by omega
                    have HC2 : Hid (∀ j v, (kdc (.slice (some ⟨gk, 0, none⟩) 64 ck) (.slice (some ⟨gf, 0, none⟩) 8 cf))[j]? = some v → wr.cell? ⟨g2, j, none⟩ = some v) := fun j v h => (hbel.cell (p := ⟨g2, j, none⟩) hg2o).trans (HC2o.out j v h)
                    have c1 : wr.cell? ⟨g2, 1, none⟩ = some (.int .i64 64) := HC2.out 1 _ rfl
                    by_cases hin : i < 64
                    · have hdec2 : decide ((i : Int) < 64) = true := by rw [decide_eq_true_eq]; omega
                      have HRW : Hid (wr.heap[g2]? = some (.cells kd 99 (0, 0))) := (hbel.block g2 hg2o).trans HRWo.out
                      obtain ⟨v, hv⟩ : ∃ v, v = rrun st kF f i := ⟨_, rfl⟩
                      rw [← hv] at hrd
                      have HVL : Hid (∀ j, v j < 4294967296) := by rw [hv]; exact HVS.out i
                      have HAL : Hid (∀ x j, x &&& v j < 4294967296) := fun x j => Nat.and_lt_two_pow (n := 32) x (HVL.out j)
                      have HNT : Hid (4294967295 ^^^ v 4 < 4294967296) := Nat.xor_lt_two_pow (n := 32) (by omega) (HVL.out 4)
                      have HCN : Hid (∀ w, Calls Tryz.prog 107 #[.agg kd, .int .u64 ((18446744073709551615 ^^^ v 4 : Nat) : Int)] w fun e w' => e = .returned (.int .u64 ((4294967295 ^^^ v 4 : Nat) : Int)) ∧ Below w.heap.size w w') := fun w => by
                        have h := HCUT.out (18446744073709551615 ^^^ v 4) w (Nat.xor_lt_two_pow (n := 64) (by omega) (by have := HVL.out 4; omega))
                        rw [not_mod _ (HVL.out 4)] at h
                        exact h
                      obtain ⟨m1, hm1⟩ : ∃ m1, m1 = mix32 (v 4) 6 11 25 false := ⟨_, rfl⟩
                      obtain ⟨m2, hm2⟩ : ∃ m2, m2 = mix32 (v 0) 2 13 22 false := ⟨_, rfl⟩
                      have hm1l : m1 < 4294967296 := by rw [hm1]; exact mix32_lt _ _ _ _ _ (HVL.out 4)
                      have hm2l : m2 < 4294967296 := by rw [hm2]; exact mix32_lt _ _ _ _ _ (HVL.out 0)
                      obtain ⟨ch, hch⟩ : ∃ ch, ch = (v 4 &&& v 5) ^^^ ((4294967295 ^^^ v 4) &&& v 6) := ⟨_, rfl⟩
                      obtain ⟨mj, hmj⟩ : ∃ mj, mj = (v 0 &&& v 1) ^^^ (v 0 &&& v 2) ^^^ (v 1 &&& v 2) := ⟨_, rfl⟩
                      have hchl : ch < 4294967296 := by rw [hch]; exact HX.out _ _ (HAL.out _ _) (HAL.out _ _)
                      have hmjl : mj < 4294967296 := by rw [hmj]; exact HX.out _ _ (HX.out _ _ (HAL.out _ _) (HAL.out _ _)) (HAL.out _ _)
                      obtain ⟨x7, hx7⟩ : ∃ x7, x7 = v 7 := ⟨_, rfl⟩
                      have hx7l : x7 < 4294967296 := by rw [hx7]; exact HVL.out 7
                      obtain ⟨x3, hx3⟩ : ∃ x3, x3 = v 3 := ⟨_, rfl⟩
                      have hx3l : x3 < 4294967296 := by rw [hx3]; exact HVL.out 3
                      obtain ⟨kk, hkk⟩ : ∃ kk, kk = kF i := ⟨_, rfl⟩
                      have hkl : kk < 4294967296 := by rw [hkk]; exact kF_lt i
                      obtain ⟨ff, hff⟩ : ∃ ff, ff = f i := ⟨_, rfl⟩
                      have hffl : ff < 4294967296 := by rw [hff]; exact HFL.out i
                      obtain ⟨tt, htt⟩ : ∃ tt, tt = x7 + m1 + ch + kk + ff := ⟨_, rfl⟩
                      have httl : tt < 21474836480 := by omega
                      obtain ⟨uu, huu⟩ : ∃ uu, uu = m2 + mj := ⟨_, rfl⟩
                      have huul : uu < 8589934592 := by omega
                      have hrT : tt % 4294967296 = rT v kk ff := by rw [htt, hx7, hm1, hch]; exact rT_sum v kk ff
                      have hrU : uu % 4294967296 = rU v := by rw [huu, hm2, hmj]; exact rU_sum v
                      have hvs : rrun st kF f (i + 1) = rstep v kk ff := by rw [hv, hkk, hff]; rfl
                      have hE0 : (tt + uu) % 4294967296 = rstep v kk ff 0 := by show _ = (rT v kk ff + rU v) % 4294967296; omega
                      have hE4 : (x3 + tt) % 4294967296 = rstep v kk ff 4 := by show _ = (v 3 + rT v kk ff) % 4294967296; omega
                      have HCE0 : Hid (∀ w, Calls Tryz.prog 107 #[.agg kd, .int .u64 ((tt + uu : Nat) : Int)] w fun e w' => e = .returned (.int .u64 ((rstep v kk ff 0 : Nat) : Int)) ∧ Below w.heap.size w w') := fun w => by rw [← hE0]; exact HCUT.out _ w (by omega)
                      have HCE4 : Hid (∀ w, Calls Tryz.prog 107 #[.agg kd, .int .u64 ((x3 + tt : Nat) : Int)] w fun e w' => e = .returned (.int .u64 ((rstep v kk ff 4 : Nat) : Int)) ∧ Below w.heap.size w w') := fun w => by rw [← hE4]; exact HCUT.out _ w (by omega)
                      have HM1 : Hid (ror32 (v 4) 6 ^^^ ror32 (v 4) 11 ^^^ ror32 (v 4) 25 = m1) := by rw [hm1]; rfl
                      have HM2 : Hid (ror32 (v 0) 2 ^^^ ror32 (v 0) 13 ^^^ ror32 (v 0) 22 = m2) := by rw [hm2]; rfl
                      have HCH := Lib.hid hch; have HMJ := Lib.hid hmj; have HX7 := Lib.hid hx7; have HX3 := Lib.hid hx3; have HKK := Lib.hid hkk; have HFF := Lib.hid hff; have HTT := Lib.hid htt; have HUU := Lib.hid huu; have HVSS := Lib.hid hvs
                      clear hv hm1 hm2 hch hmj hx7 hx3 hkk hff htt huu hrT hrU hvs hE0 hE4
                      have hgvw : gv < wr.heap.size := hrd.lt (show 0 < 8 by omega)
                      have hgww : gw < wr.heap.size := hown.lt
                      have hgkw : gk < wr.heap.size := by omega
                      have HVC : Hid (∀ j, j < 8 → wr.cell? ⟨gv, j, none⟩ = some (.int .u64 ((v j : Nat) : Int))) := fun j hj => hrd.word j hj
                      have ckk : wr.cell? ⟨gk, i, none⟩ = some (.int .u64 (kk : Int)) := by rw [HKK.out, hbel.cell (p := ⟨gk, i, none⟩) hgko]; exact HKWo.out i hin
                      have cff : wr.cell? ⟨gw, i, none⟩ = some (.int .u64 (ff : Int)) := by rw [HFF.out]; exact hown.cell i hin
                      go_upto_region 27 with fail
                      have cv4 := HVC.out 4 (by decide)
                      have cv0 := HVC.out 0 (by decide)
                      go_quiet (fail)
                      obtain ⟨wA, hwA⟩ : ∃ wA : World, wA = wr.drewN nq := ⟨_, rfl⟩
                      rw [← hwA]
                      have hbA : Below wr.heap.size wr wA := by rw [hwA]; exact below_drewN (Below.refl _ _) nq
                      clear hwA hdec2 c1 cv4 cv0
                      have hb9 := hbA
                      clear hbA
                      have hrd9 := hrd.below hb9 (Nat.le_refl _)
                      have hown9 := hown.below hb9 (Nat.le_refl _)
                      have hbel9 := hbel.trans (hb9.mono hwsz)
                      have HC29 : Hid (∀ j v, (kdc (.slice (some ⟨gk, 0, none⟩) 64 ck) (.slice (some ⟨gf, 0, none⟩) 8 cf))[j]? = some v → wA.cell? ⟨g2, j, none⟩ = some v) := fun j v h => (hb9.cell (p := ⟨g2, j, none⟩) hg2w).trans (HC2.out j v h)
                      have HRW9 : Hid (wA.heap[g2]? = some (.cells kd 99 (0, 0))) := (hb9.block g2 hg2w).trans HRW.out
                      have HVC9 : Hid (∀ j, j < 8 → wA.cell? ⟨gv, j, none⟩ = some (.int .u64 ((v j : Nat) : Int))) := fun j hj => hrd9.word j hj
                      have ckk9 := (hb9.cell (p := ⟨gk, i, none⟩) hgkw).trans ckk
                      have cff9 := (hb9.cell (p := ⟨gw, i, none⟩) hgww).trans cff
                      have hsz9 := hb9.size
                      clear hrd hown hbel HC2 HRW HVC ckk cff hb9
                      have hwsz9 := Nat.le_trans hwsz hsz9
                      have hg2w9 : g2 < wA.heap.size := by omega
                      have hgvw9 : gv < wA.heap.size := by omega
                      have hgww9 : gw < wA.heap.size := by omega
                      have hgkw9 : gk < wA.heap.size := by omega
                      clear hwsz hg2w hgvw hgww hgkw hsz9
                      have hrd := hrd9
                      clear hrd9
                      have hown := hown9
                      clear hown9
                      have hbel := hbel9
                      clear hbel9
                      have HC2 := HC29
                      clear HC29
                      have HRW := HRW9
                      clear HRW9
                      have HVC := HVC9
                      clear HVC9
                      have ckk := ckk9
                      clear ckk9
                      have cff := cff9
                      clear cff9
                      have hwsz := hwsz9
                      clear hwsz9
                      have hg2w := hg2w9
                      clear hg2w9
                      have hgvw := hgvw9
                      clear hgvw9
                      have hgww := hgww9
                      clear hgww9
                      have hgkw := hgkw9
                      clear hgkw9
                      go_upto_region 28 with fail
                      refine wp_region_calm 50 (by rfl) (by kernel_rfl) (Rws.start wA) ?_
                      refine lexC_move (v := .slice (some ⟨gv, 0, none⟩) 8 cv) rfl rfl ?_
                      (first | (simp only [put_some]; dsimp only [List.set_cons_succ, List.set_cons_zero]) | simp only [Act.put])
                      refine lexC_ixs (g := gv) (off := 0) (k := 7) (len := 8) (cap := cv) rfl rfl rfl Tryz.underlying47 (by kernel_rfl) (by decide) ?_
                      (first | (simp only [put_some]; dsimp only [List.set_cons_succ, List.set_cons_zero]) | simp only [Act.put])
                      refine lexC_old (g := gv) (k := 7) (v := .int .u64 ((x7 : Nat) : Int)) rfl (by simp only [Nat.zero_add]; rfl) hgvw (by rw [HX7.out]; exact HVC.out 7 (by decide)) isAgg_word64 ?_
                      (first | (simp only [put_some]; dsimp only [List.set_cons_succ, List.set_cons_zero]) | simp only [Act.put])
                      refine lexC_oldrow (cs := kd) rfl rfl hg2w HRW.out Tryz.underlying99 rfl (by rw [HKS.out]; exact kd_info) ?_
                      (first | (simp only [put_some]; dsimp only [List.set_cons_succ, List.set_cons_zero]) | simp only [Act.put])
                      refine lexC_move (v := .int .u64 ((v 4 : Nat) : Int)) rfl rfl ?_
                      (first | (simp only [put_some]; dsimp only [List.set_cons_succ, List.set_cons_zero]) | simp only [Act.put])
                      refine lexC_field (g := g2) (k := 0) (off := 9) rfl rfl Tryz.underlying99 rfl ⟨2, by kernel_rfl⟩ rfl ?_
                      (first | (simp only [put_some]; dsimp only [List.set_cons_succ, List.set_cons_zero]) | simp only [Act.put])
                      refine lexC_ixo (g := g2) (q := 9) (k := 0) rfl rfl rfl Tryz.underlying97 int_info (by decide) ?_
                      (first | (simp only [put_some]; dsimp only [List.set_cons_succ, List.set_cons_zero]) | simp only [Act.put])
                      refine lexC_old (g := g2) (k := 9) (v := .int .i64 ((6 : Nat) : Int)) rfl rfl hg2w (HC2.out 9 _ rfl) isAgg_int ?_
                      (first | (simp only [put_some]; dsimp only [List.set_cons_succ, List.set_cons_zero]) | simp only [Act.put])
                      refine lexC_call (v := .int .u64 ((ror32 (v 4) 6 : Nat) : Int)) rfl Tryz.func108 (by kernel_rfl) rfl rfl (fun w _ => HROR.out (v 4) 6 w (HVL.out 4) (by omega)) ?_
                      (first | (simp only [put_some]; dsimp only [List.set_cons_succ, List.set_cons_zero]) | simp only [Act.put])
                      refine lexC_oldrow (cs := kd) rfl rfl hg2w HRW.out Tryz.underlying99 rfl (by rw [HKS.out]; exact kd_info) ?_
                      (first | (simp only [put_some]; dsimp only [List.set_cons_succ, List.set_cons_zero]) | simp only [Act.put])
                      refine lexC_move (v := .int .u64 ((v 4 : Nat) : Int)) rfl rfl ?_
                      (first | (simp only [put_some]; dsimp only [List.set_cons_succ, List.set_cons_zero]) | simp only [Act.put])
                      refine lexC_field (g := g2) (k := 0) (off := 9) rfl rfl Tryz.underlying99 rfl ⟨2, by kernel_rfl⟩ rfl ?_
                      (first | (simp only [put_some]; dsimp only [List.set_cons_succ, List.set_cons_zero]) | simp only [Act.put])
                      refine lexC_ixo (g := g2) (q := 9) (k := 1) rfl rfl rfl Tryz.underlying97 int_info (by decide) ?_
                      (first | (simp only [put_some]; dsimp only [List.set_cons_succ, List.set_cons_zero]) | simp only [Act.put])
                      refine lexC_old (g := g2) (k := 10) (v := .int .i64 ((11 : Nat) : Int)) rfl rfl hg2w (HC2.out 10 _ rfl) isAgg_int ?_
                      (first | (simp only [put_some]; dsimp only [List.set_cons_succ, List.set_cons_zero]) | simp only [Act.put])
                      refine lexC_call (v := .int .u64 ((ror32 (v 4) 11 : Nat) : Int)) rfl Tryz.func108 (by kernel_rfl) rfl rfl (fun w _ => HROR.out (v 4) 11 w (HVL.out 4) (by omega)) ?_
                      (first | (simp only [put_some]; dsimp only [List.set_cons_succ, List.set_cons_zero]) | simp only [Act.put])
                      refine lexC_bin (r := .int .u64 ((ror32 (v 4) 6 ^^^ ror32 (v 4) 11 : Nat) : Int)) rfl rfl rfl (run_xorw (ror32_lt (v 4) _ (HVL.out 4)) (ror32_lt (v 4) _ (HVL.out 4))) (fun _ => rfl) ?_
                      (first | (simp only [put_some]; dsimp only [List.set_cons_succ, List.set_cons_zero]) | simp only [Act.put])
                      refine lexC_oldrow (cs := kd) rfl rfl hg2w HRW.out Tryz.underlying99 rfl (by rw [HKS.out]; exact kd_info) ?_
                      (first | (simp only [put_some]; dsimp only [List.set_cons_succ, List.set_cons_zero]) | simp only [Act.put])
                      refine lexC_move (v := .int .u64 ((v 4 : Nat) : Int)) rfl rfl ?_
                      (first | (simp only [put_some]; dsimp only [List.set_cons_succ, List.set_cons_zero]) | simp only [Act.put])
                      refine lexC_field (g := g2) (k := 0) (off := 9) rfl rfl Tryz.underlying99 rfl ⟨2, by kernel_rfl⟩ rfl ?_
                      (first | (simp only [put_some]; dsimp only [List.set_cons_succ, List.set_cons_zero]) | simp only [Act.put])
                      refine lexC_ixo (g := g2) (q := 9) (k := 2) rfl rfl rfl Tryz.underlying97 int_info (by decide) ?_
                      (first | (simp only [put_some]; dsimp only [List.set_cons_succ, List.set_cons_zero]) | simp only [Act.put])
                      refine lexC_old (g := g2) (k := 11) (v := .int .i64 ((25 : Nat) : Int)) rfl rfl hg2w (HC2.out 11 _ rfl) isAgg_int ?_
                      (first | (simp only [put_some]; dsimp only [List.set_cons_succ, List.set_cons_zero]) | simp only [Act.put])
                      refine lexC_call (v := .int .u64 ((ror32 (v 4) 25 : Nat) : Int)) rfl Tryz.func108 (by kernel_rfl) rfl rfl (fun w _ => HROR.out (v 4) 25 w (HVL.out 4) (by omega)) ?_
                      (first | (simp only [put_some]; dsimp only [List.set_cons_succ, List.set_cons_zero]) | simp only [Act.put])
                      refine lexC_bin (r := .int .u64 ((m1 : Nat) : Int)) rfl rfl rfl (fun w => by rw [← HM1.out]; exact run_xorw (HX.out _ _ (ror32_lt _ _ (HVL.out 4)) (ror32_lt _ _ (HVL.out 4))) (ror32_lt _ _ (HVL.out 4)) w) (fun _ => rfl) ?_
                      (first | (simp only [put_some]; dsimp only [List.set_cons_succ, List.set_cons_zero]) | simp only [Act.put])
                      refine lexC_bin (r := .int .u64 ((x7 + m1 : Nat) : Int)) rfl rfl rfl (run_addw (by omega) (by omega)) (fun _ => rfl) ?_
                      (first | (simp only [put_some]; dsimp only [List.set_cons_succ, List.set_cons_zero]) | simp only [Act.put])
                      refine lexC_move (v := .int .u64 ((v 4 : Nat) : Int)) rfl rfl ?_
                      (first | (simp only [put_some]; dsimp only [List.set_cons_succ, List.set_cons_zero]) | simp only [Act.put])
                      refine lexC_move (v := .slice (some ⟨gv, 0, none⟩) 8 cv) rfl rfl ?_
                      (first | (simp only [put_some]; dsimp only [List.set_cons_succ, List.set_cons_zero]) | simp only [Act.put])
                      refine lexC_ixs (g := gv) (off := 0) (k := 5) (len := 8) (cap := cv) rfl rfl rfl Tryz.underlying47 (by kernel_rfl) (by decide) ?_
                      (first | (simp only [put_some]; dsimp only [List.set_cons_succ, List.set_cons_zero]) | simp only [Act.put])
                      refine lexC_old (g := gv) (k := 5) (v := .int .u64 ((v 5 : Nat) : Int)) rfl (by simp only [Nat.zero_add]; rfl) hgvw (HVC.out 5 (by decide)) isAgg_word64 ?_
                      (first | (simp only [put_some]; dsimp only [List.set_cons_succ, List.set_cons_zero]) | simp only [Act.put])
                      refine lexC_bin (r := .int .u64 ((v 4 &&& v 5 : Nat) : Int)) rfl rfl rfl (run_andw (HVL.out _) (HVL.out _)) (fun _ => rfl) ?_
                      (first | (simp only [put_some]; dsimp only [List.set_cons_succ, List.set_cons_zero]) | simp only [Act.put])
                      refine lexC_oldrow (cs := kd) rfl rfl hg2w HRW.out Tryz.underlying99 rfl (by rw [HKS.out]; exact kd_info) ?_
                      (first | (simp only [put_some]; dsimp only [List.set_cons_succ, List.set_cons_zero]) | simp only [Act.put])
                      refine lexC_move (v := .int .u64 ((v 4 : Nat) : Int)) rfl rfl ?_
                      (first | (simp only [put_some]; dsimp only [List.set_cons_succ, List.set_cons_zero]) | simp only [Act.put])
                      refine lexC_un (r := .int .u64 ((18446744073709551615 ^^^ v 4 : Nat) : Int)) rfl rfl (run_not64 (by have := HVL.out 4; omega)) ?_
                      (first | (simp only [put_some]; dsimp only [List.set_cons_succ, List.set_cons_zero]) | simp only [Act.put])
                      refine lexC_call (v := .int .u64 ((4294967295 ^^^ v 4 : Nat) : Int)) rfl Tryz.func107 (by kernel_rfl) rfl rfl (fun w _ => HCN.out w) ?_
                      (first | (simp only [put_some]; dsimp only [List.set_cons_succ, List.set_cons_zero]) | simp only [Act.put])
                      refine lexC_move (v := .slice (some ⟨gv, 0, none⟩) 8 cv) rfl rfl ?_
                      (first | (simp only [put_some]; dsimp only [List.set_cons_succ, List.set_cons_zero]) | simp only [Act.put])
                      refine lexC_ixs (g := gv) (off := 0) (k := 6) (len := 8) (cap := cv) rfl rfl rfl Tryz.underlying47 (by kernel_rfl) (by decide) ?_
                      (first | (simp only [put_some]; dsimp only [List.set_cons_succ, List.set_cons_zero]) | simp only [Act.put])
                      refine lexC_old (g := gv) (k := 6) (v := .int .u64 ((v 6 : Nat) : Int)) rfl (by simp only [Nat.zero_add]; rfl) hgvw (HVC.out 6 (by decide)) isAgg_word64 ?_
                      (first | (simp only [put_some]; dsimp only [List.set_cons_succ, List.set_cons_zero]) | simp only [Act.put])
                      refine lexC_bin (r := .int .u64 (((4294967295 ^^^ v 4) &&& v 6 : Nat) : Int)) rfl rfl rfl (run_andw HNT.out (HVL.out _)) (fun _ => rfl) ?_
                      (first | (simp only [put_some]; dsimp only [List.set_cons_succ, List.set_cons_zero]) | simp only [Act.put])
                      refine lexC_bin (r := .int .u64 ((ch : Nat) : Int)) rfl rfl rfl (fun w => by rw [HCH.out]; exact run_xorw (HAL.out _ _) (HAL.out _ _) w) (fun _ => rfl) ?_
                      (first | (simp only [put_some]; dsimp only [List.set_cons_succ, List.set_cons_zero]) | simp only [Act.put])
                      refine lexC_bin (r := .int .u64 ((x7 + m1 + ch : Nat) : Int)) rfl rfl rfl (run_addw (by omega) (by omega)) (fun _ => rfl) ?_
                      (first | (simp only [put_some]; dsimp only [List.set_cons_succ, List.set_cons_zero]) | simp only [Act.put])
                      refine lexC_field (g := g2) (k := 0) (off := 15) rfl rfl Tryz.underlying99 rfl ⟨0, by kernel_rfl⟩ rfl ?_
                      (first | (simp only [put_some]; dsimp only [List.set_cons_succ, List.set_cons_zero]) | simp only [Act.put])
                      refine lexC_old (g := g2) (k := 15) (v := .slice (some ⟨gk, 0, none⟩) 64 ck) rfl rfl hg2w (HC2.out 15 _ rfl) isAgg_sl ?_
                      (first | (simp only [put_some]; dsimp only [List.set_cons_succ, List.set_cons_zero]) | simp only [Act.put])
                      refine lexC_move (v := .int .i64 ((i : Nat) : Int)) rfl rfl ?_
                      (first | (simp only [put_some]; dsimp only [List.set_cons_succ, List.set_cons_zero]) | simp only [Act.put])
                      refine lexC_ixs (g := gk) (off := 0) (k := i) (len := 64) (cap := ck) rfl rfl rfl Tryz.underlying47 (by kernel_rfl) hin ?_
                      (first | (simp only [put_some]; dsimp only [List.set_cons_succ, List.set_cons_zero]) | simp only [Act.put])
                      refine lexC_old (g := gk) (k := i) (v := .int .u64 ((kk : Nat) : Int)) rfl (by simp only [Nat.zero_add]; rfl) hgkw ckk isAgg_word64 ?_
                      (first | (simp only [put_some]; dsimp only [List.set_cons_succ, List.set_cons_zero]) | simp only [Act.put])
                      refine lexC_bin (r := .int .u64 ((x7 + m1 + ch + kk : Nat) : Int)) rfl rfl rfl (run_addw (by omega) (by omega)) (fun _ => rfl) ?_
                      (first | (simp only [put_some]; dsimp only [List.set_cons_succ, List.set_cons_zero]) | simp only [Act.put])
                      refine lexC_move (v := .slice (some ⟨gw, 0, none⟩) 64 64) rfl rfl ?_
                      (first | (simp only [put_some]; dsimp only [List.set_cons_succ, List.set_cons_zero]) | simp only [Act.put])
                      refine lexC_move (v := .int .i64 ((i : Nat) : Int)) rfl rfl ?_
                      (first | (simp only [put_some]; dsimp only [List.set_cons_succ, List.set_cons_zero]) | simp only [Act.put])
                      refine lexC_ixs (g := gw) (off := 0) (k := i) (len := 64) (cap := 64) rfl rfl rfl Tryz.underlying47 (by kernel_rfl) hin ?_
                      (first | (simp only [put_some]; dsimp only [List.set_cons_succ, List.set_cons_zero]) | simp only [Act.put])
                      refine lexC_old (g := gw) (k := i) (v := .int .u64 ((ff : Nat) : Int)) rfl (by simp only [Nat.zero_add]; rfl) hgww cff isAgg_word64 ?_
                      (first | (simp only [put_some]; dsimp only [List.set_cons_succ, List.set_cons_zero]) | simp only [Act.put])
                      refine lexC_bin (r := .int .u64 ((tt : Nat) : Int)) rfl rfl rfl (fun w => by rw [HTT.out]; exact run_addw (by omega) (by omega) w) (fun _ => rfl) ?_
                      (first | (simp only [put_some]; dsimp only [List.set_cons_succ, List.set_cons_zero]) | simp only [Act.put])
                      refine lexC_zero ?_; simp only [List.take_succ_cons, List.take_zero, List.drop_succ_cons, List.drop_zero]; (repeat (first | (refine aN_cons (by rfl) ?_; intro g; (first | (simp only [put_some]; dsimp only [List.set_cons_succ, List.set_cons_zero]) | simp only [Act.put])) | (refine afterAl_skip (by rfl) ?_))); refine afterAl_nil ?_; intro wB hR9; (try simp only)
                      have hb9 := hR9.below
                      clear hR9
                      have hrd9 := hrd.below hb9 (Nat.le_refl _)
                      have hown9 := hown.below hb9 (Nat.le_refl _)
                      have hbel9 := hbel.trans (hb9.mono hwsz)
                      have HC29 : Hid (∀ j v, (kdc (.slice (some ⟨gk, 0, none⟩) 64 ck) (.slice (some ⟨gf, 0, none⟩) 8 cf))[j]? = some v → wB.cell? ⟨g2, j, none⟩ = some v) := fun j v h => (hb9.cell (p := ⟨g2, j, none⟩) hg2w).trans (HC2.out j v h)
                      have HRW9 : Hid (wB.heap[g2]? = some (.cells kd 99 (0, 0))) := (hb9.block g2 hg2w).trans HRW.out
                      have HVC9 : Hid (∀ j, j < 8 → wB.cell? ⟨gv, j, none⟩ = some (.int .u64 ((v j : Nat) : Int))) := fun j hj => hrd9.word j hj
                      have ckk9 := (hb9.cell (p := ⟨gk, i, none⟩) hgkw).trans ckk
                      have cff9 := (hb9.cell (p := ⟨gw, i, none⟩) hgww).trans cff
                      have hsz9 := hb9.size
                      clear hrd hown hbel HC2 HRW HVC ckk cff hb9
                      have hwsz9 := Nat.le_trans hwsz hsz9
                      have hg2w9 : g2 < wB.heap.size := by omega
                      have hgvw9 : gv < wB.heap.size := by omega
                      have hgww9 : gw < wB.heap.size := by omega
                      have hgkw9 : gk < wB.heap.size := by omega
                      clear hwsz hg2w hgvw hgww hgkw hsz9
                      have hrd := hrd9
                      clear hrd9
                      have hown := hown9
                      clear hown9
                      have hbel := hbel9
                      clear hbel9
                      have HC2 := HC29
                      clear HC29
                      have HRW := HRW9
                      clear HRW9
                      have HVC := HVC9
                      clear HVC9
                      have ckk := ckk9
                      clear ckk9
                      have cff := cff9
                      clear cff9
                      have hwsz := hwsz9
                      clear hwsz9
                      have hg2w := hg2w9
                      clear hg2w9
                      have hgvw := hgvw9
                      clear hgvw9
                      have hgww := hgww9
                      clear hgww9
                      have hgkw := hgkw9
                      clear hgkw9
                      go_upto_region 29 with fail
                      refine wp_region_calm 40 (by rfl) (by kernel_rfl) (Rws.start wB) ?_
                      refine lexC_oldrow (cs := kd) rfl rfl hg2w HRW.out Tryz.underlying99 rfl (by rw [HKS.out]; exact kd_info) ?_
                      (first | (simp only [put_some]; dsimp only [List.set_cons_succ, List.set_cons_zero]) | simp only [Act.put])
                      refine lexC_move (v := .int .u64 ((v 0 : Nat) : Int)) rfl rfl ?_
                      (first | (simp only [put_some]; dsimp only [List.set_cons_succ, List.set_cons_zero]) | simp only [Act.put])
                      refine lexC_field (g := g2) (k := 0) (off := 12) rfl rfl Tryz.underlying99 rfl ⟨2, by kernel_rfl⟩ rfl ?_
                      (first | (simp only [put_some]; dsimp only [List.set_cons_succ, List.set_cons_zero]) | simp only [Act.put])
                      refine lexC_ixo (g := g2) (q := 12) (k := 0) rfl rfl rfl Tryz.underlying97 int_info (by decide) ?_
                      (first | (simp only [put_some]; dsimp only [List.set_cons_succ, List.set_cons_zero]) | simp only [Act.put])
                      refine lexC_old (g := g2) (k := 12) (v := .int .i64 ((2 : Nat) : Int)) rfl rfl hg2w (HC2.out 12 _ rfl) isAgg_int ?_
                      (first | (simp only [put_some]; dsimp only [List.set_cons_succ, List.set_cons_zero]) | simp only [Act.put])
                      refine lexC_call (v := .int .u64 ((ror32 (v 0) 2 : Nat) : Int)) rfl Tryz.func108 (by kernel_rfl) rfl rfl (fun w _ => HROR.out (v 0) 2 w (HVL.out 0) (by omega)) ?_
                      (first | (simp only [put_some]; dsimp only [List.set_cons_succ, List.set_cons_zero]) | simp only [Act.put])
                      refine lexC_oldrow (cs := kd) rfl rfl hg2w HRW.out Tryz.underlying99 rfl (by rw [HKS.out]; exact kd_info) ?_
                      (first | (simp only [put_some]; dsimp only [List.set_cons_succ, List.set_cons_zero]) | simp only [Act.put])
                      refine lexC_move (v := .int .u64 ((v 0 : Nat) : Int)) rfl rfl ?_
                      (first | (simp only [put_some]; dsimp only [List.set_cons_succ, List.set_cons_zero]) | simp only [Act.put])
                      refine lexC_field (g := g2) (k := 0) (off := 12) rfl rfl Tryz.underlying99 rfl ⟨2, by kernel_rfl⟩ rfl ?_
                      (first | (simp only [put_some]; dsimp only [List.set_cons_succ, List.set_cons_zero]) | simp only [Act.put])
                      refine lexC_ixo (g := g2) (q := 12) (k := 1) rfl rfl rfl Tryz.underlying97 int_info (by decide) ?_
                      (first | (simp only [put_some]; dsimp only [List.set_cons_succ, List.set_cons_zero]) | simp only [Act.put])
                      refine lexC_old (g := g2) (k := 13) (v := .int .i64 ((13 : Nat) : Int)) rfl rfl hg2w (HC2.out 13 _ rfl) isAgg_int ?_
                      (first | (simp only [put_some]; dsimp only [List.set_cons_succ, List.set_cons_zero]) | simp only [Act.put])
                      refine lexC_call (v := .int .u64 ((ror32 (v 0) 13 : Nat) : Int)) rfl Tryz.func108 (by kernel_rfl) rfl rfl (fun w _ => HROR.out (v 0) 13 w (HVL.out 0) (by omega)) ?_
                      (first | (simp only [put_some]; dsimp only [List.set_cons_succ, List.set_cons_zero]) | simp only [Act.put])
                      refine lexC_bin (r := .int .u64 ((ror32 (v 0) 2 ^^^ ror32 (v 0) 13 : Nat) : Int)) rfl rfl rfl (run_xorw (ror32_lt (v 0) _ (HVL.out 0)) (ror32_lt (v 0) _ (HVL.out 0))) (fun _ => rfl) ?_
                      (first | (simp only [put_some]; dsimp only [List.set_cons_succ, List.set_cons_zero]) | simp only [Act.put])
                      refine lexC_oldrow (cs := kd) rfl rfl hg2w HRW.out Tryz.underlying99 rfl (by rw [HKS.out]; exact kd_info) ?_
                      (first | (simp only [put_some]; dsimp only [List.set_cons_succ, List.set_cons_zero]) | simp only [Act.put])
                      refine lexC_move (v := .int .u64 ((v 0 : Nat) : Int)) rfl rfl ?_
                      (first | (simp only [put_some]; dsimp only [List.set_cons_succ, List.set_cons_zero]) | simp only [Act.put])
                      refine lexC_field (g := g2) (k := 0) (off := 12) rfl rfl Tryz.underlying99 rfl ⟨2, by kernel_rfl⟩ rfl ?_
                      (first | (simp only [put_some]; dsimp only [List.set_cons_succ, List.set_cons_zero]) | simp only [Act.put])
                      refine lexC_ixo (g := g2) (q := 12) (k := 2) rfl rfl rfl Tryz.underlying97 int_info (by decide) ?_
                      (first | (simp only [put_some]; dsimp only [List.set_cons_succ, List.set_cons_zero]) | simp only [Act.put])
                      refine lexC_old (g := g2) (k := 14) (v := .int .i64 ((22 : Nat) : Int)) rfl rfl hg2w (HC2.out 14 _ rfl) isAgg_int ?_
                      (first | (simp only [put_some]; dsimp only [List.set_cons_succ, List.set_cons_zero]) | simp only [Act.put])
                      refine lexC_call (v := .int .u64 ((ror32 (v 0) 22 : Nat) : Int)) rfl Tryz.func108 (by kernel_rfl) rfl rfl (fun w _ => HROR.out (v 0) 22 w (HVL.out 0) (by omega)) ?_
                      (first | (simp only [put_some]; dsimp only [List.set_cons_succ, List.set_cons_zero]) | simp only [Act.put])
                      refine lexC_bin (r := .int .u64 ((m2 : Nat) : Int)) rfl rfl rfl (fun w => by rw [← HM2.out]; exact run_xorw (HX.out _ _ (ror32_lt _ _ (HVL.out 0)) (ror32_lt _ _ (HVL.out 0))) (ror32_lt _ _ (HVL.out 0)) w) (fun _ => rfl) ?_
                      (first | (simp only [put_some]; dsimp only [List.set_cons_succ, List.set_cons_zero]) | simp only [Act.put])
                      refine lexC_move (v := .int .u64 ((v 0 : Nat) : Int)) rfl rfl ?_
                      (first | (simp only [put_some]; dsimp only [List.set_cons_succ, List.set_cons_zero]) | simp only [Act.put])
                      refine lexC_move (v := .slice (some ⟨gv, 0, none⟩) 8 cv) rfl rfl ?_
                      (first | (simp only [put_some]; dsimp only [List.set_cons_succ, List.set_cons_zero]) | simp only [Act.put])
                      refine lexC_ixs (g := gv) (off := 0) (k := 1) (len := 8) (cap := cv) rfl rfl rfl Tryz.underlying47 (by kernel_rfl) (by decide) ?_
                      (first | (simp only [put_some]; dsimp only [List.set_cons_succ, List.set_cons_zero]) | simp only [Act.put])
                      refine lexC_old (g := gv) (k := 1) (v := .int .u64 ((v 1 : Nat) : Int)) rfl (by simp only [Nat.zero_add]; rfl) hgvw (HVC.out 1 (by decide)) isAgg_word64 ?_
                      (first | (simp only [put_some]; dsimp only [List.set_cons_succ, List.set_cons_zero]) | simp only [Act.put])
                      refine lexC_bin (r := .int .u64 ((v 0 &&& v 1 : Nat) : Int)) rfl rfl rfl (run_andw (HVL.out _) (HVL.out _)) (fun _ => rfl) ?_
                      (first | (simp only [put_some]; dsimp only [List.set_cons_succ, List.set_cons_zero]) | simp only [Act.put])
                      refine lexC_move (v := .int .u64 ((v 0 : Nat) : Int)) rfl rfl ?_
                      (first | (simp only [put_some]; dsimp only [List.set_cons_succ, List.set_cons_zero]) | simp only [Act.put])
                      refine lexC_move (v := .slice (some ⟨gv, 0, none⟩) 8 cv) rfl rfl ?_
                      (first | (simp only [put_some]; dsimp only [List.set_cons_succ, List.set_cons_zero]) | simp only [Act.put])
                      refine lexC_ixs (g := gv) (off := 0) (k := 2) (len := 8) (cap := cv) rfl rfl rfl Tryz.underlying47 (by kernel_rfl) (by decide) ?_
                      (first | (simp only [put_some]; dsimp only [List.set_cons_succ, List.set_cons_zero]) | simp only [Act.put])
                      refine lexC_old (g := gv) (k := 2) (v := .int .u64 ((v 2 : Nat) : Int)) rfl (by simp only [Nat.zero_add]; rfl) hgvw (HVC.out 2 (by decide)) isAgg_word64 ?_
                      (first | (simp only [put_some]; dsimp only [List.set_cons_succ, List.set_cons_zero]) | simp only [Act.put])
                      refine lexC_bin (r := .int .u64 ((v 0 &&& v 2 : Nat) : Int)) rfl rfl rfl (run_andw (HVL.out _) (HVL.out _)) (fun _ => rfl) ?_
                      (first | (simp only [put_some]; dsimp only [List.set_cons_succ, List.set_cons_zero]) | simp only [Act.put])
                      refine lexC_bin (r := .int .u64 (((v 0 &&& v 1) ^^^ (v 0 &&& v 2) : Nat) : Int)) rfl rfl rfl (run_xorw (HAL.out _ _) (HAL.out _ _)) (fun _ => rfl) ?_
                      (first | (simp only [put_some]; dsimp only [List.set_cons_succ, List.set_cons_zero]) | simp only [Act.put])
                      refine lexC_move (v := .slice (some ⟨gv, 0, none⟩) 8 cv) rfl rfl ?_
                      (first | (simp only [put_some]; dsimp only [List.set_cons_succ, List.set_cons_zero]) | simp only [Act.put])
                      refine lexC_ixs (g := gv) (off := 0) (k := 1) (len := 8) (cap := cv) rfl rfl rfl Tryz.underlying47 (by kernel_rfl) (by decide) ?_
                      (first | (simp only [put_some]; dsimp only [List.set_cons_succ, List.set_cons_zero]) | simp only [Act.put])
                      refine lexC_old (g := gv) (k := 1) (v := .int .u64 ((v 1 : Nat) : Int)) rfl (by simp only [Nat.zero_add]; rfl) hgvw (HVC.out 1 (by decide)) isAgg_word64 ?_
                      (first | (simp only [put_some]; dsimp only [List.set_cons_succ, List.set_cons_zero]) | simp only [Act.put])
                      refine lexC_move (v := .slice (some ⟨gv, 0, none⟩) 8 cv) rfl rfl ?_
                      (first | (simp only [put_some]; dsimp only [List.set_cons_succ, List.set_cons_zero]) | simp only [Act.put])
                      refine lexC_ixs (g := gv) (off := 0) (k := 2) (len := 8) (cap := cv) rfl rfl rfl Tryz.underlying47 (by kernel_rfl) (by decide) ?_
                      (first | (simp only [put_some]; dsimp only [List.set_cons_succ, List.set_cons_zero]) | simp only [Act.put])
                      refine lexC_old (g := gv) (k := 2) (v := .int .u64 ((v 2 : Nat) : Int)) rfl (by simp only [Nat.zero_add]; rfl) hgvw (HVC.out 2 (by decide)) isAgg_word64 ?_
                      (first | (simp only [put_some]; dsimp only [List.set_cons_succ, List.set_cons_zero]) | simp only [Act.put])
                      refine lexC_bin (r := .int .u64 ((v 1 &&& v 2 : Nat) : Int)) rfl rfl rfl (run_andw (HVL.out _) (HVL.out _)) (fun _ => rfl) ?_
                      (first | (simp only [put_some]; dsimp only [List.set_cons_succ, List.set_cons_zero]) | simp only [Act.put])
                      refine lexC_bin (r := .int .u64 ((mj : Nat) : Int)) rfl rfl rfl (fun w => by rw [HMJ.out]; exact run_xorw (HX.out _ _ (HAL.out _ _) (HAL.out _ _)) (HAL.out _ _) w) (fun _ => rfl) ?_
                      (first | (simp only [put_some]; dsimp only [List.set_cons_succ, List.set_cons_zero]) | simp only [Act.put])
                      refine lexC_bin (r := .int .u64 ((uu : Nat) : Int)) rfl rfl rfl (fun w => by rw [HUU.out]; exact run_addw (by omega) (by omega) w) (fun _ => rfl) ?_
                      (first | (simp only [put_some]; dsimp only [List.set_cons_succ, List.set_cons_zero]) | simp only [Act.put])
                      refine lexC_zero ?_; simp only [List.take_succ_cons, List.take_zero, List.drop_succ_cons, List.drop_zero]; (repeat (first | (refine aN_cons (by rfl) ?_; intro g; (first | (simp only [put_some]; dsimp only [List.set_cons_succ, List.set_cons_zero]) | simp only [Act.put])) | (refine afterAl_skip (by rfl) ?_))); refine afterAl_nil ?_; intro wC hR9; (try simp only)
                      have hb9 := hR9.below
                      clear hR9
                      have hrd9 := hrd.below hb9 (Nat.le_refl _)
                      have hown9 := hown.below hb9 (Nat.le_refl _)
                      have hbel9 := hbel.trans (hb9.mono hwsz)
                      have HC29 : Hid (∀ j v, (kdc (.slice (some ⟨gk, 0, none⟩) 64 ck) (.slice (some ⟨gf, 0, none⟩) 8 cf))[j]? = some v → wC.cell? ⟨g2, j, none⟩ = some v) := fun j v h => (hb9.cell (p := ⟨g2, j, none⟩) hg2w).trans (HC2.out j v h)
                      have HRW9 : Hid (wC.heap[g2]? = some (.cells kd 99 (0, 0))) := (hb9.block g2 hg2w).trans HRW.out
                      have HVC9 : Hid (∀ j, j < 8 → wC.cell? ⟨gv, j, none⟩ = some (.int .u64 ((v j : Nat) : Int))) := fun j hj => hrd9.word j hj
                      have ckk9 := (hb9.cell (p := ⟨gk, i, none⟩) hgkw).trans ckk
                      have cff9 := (hb9.cell (p := ⟨gw, i, none⟩) hgww).trans cff
                      have hsz9 := hb9.size
                      clear hrd hown hbel HC2 HRW HVC ckk cff hb9
                      have hwsz9 := Nat.le_trans hwsz hsz9
                      have hg2w9 : g2 < wC.heap.size := by omega
                      have hgvw9 : gv < wC.heap.size := by omega
                      have hgww9 : gw < wC.heap.size := by omega
                      have hgkw9 : gk < wC.heap.size := by omega
                      clear hwsz hg2w hgvw hgww hgkw hsz9
                      have hrd := hrd9
                      clear hrd9
                      have hown := hown9
                      clear hown9
                      have hbel := hbel9
                      clear hbel9
                      have HC2 := HC29
                      clear HC29
                      have HRW := HRW9
                      clear HRW9
                      have HVC := HVC9
                      clear HVC9
                      have ckk := ckk9
                      clear ckk9
                      have cff := cff9
                      clear cff9
                      have hwsz := hwsz9
                      clear hwsz9
                      have hg2w := hg2w9
                      clear hg2w9
                      have hgvw := hgvw9
                      clear hgvw9
                      have hgww := hgww9
                      clear hgww9
                      have hgkw := hgkw9
                      clear hgkw9
                      go_upto_region 30 with fail
                      refine wp_region_calm 30 (by rfl) (by kernel_rfl) (Rws.start wC) ?_
                      refine lexC_oldrow (cs := kd) rfl rfl hg2w HRW.out Tryz.underlying99 rfl (by rw [HKS.out]; exact kd_info) ?_
                      (first | (simp only [put_some]; dsimp only [List.set_cons_succ, List.set_cons_zero]) | simp only [Act.put])
                      refine lexC_move (v := .int .u64 ((tt : Nat) : Int)) rfl rfl ?_
                      (first | (simp only [put_some]; dsimp only [List.set_cons_succ, List.set_cons_zero]) | simp only [Act.put])
                      refine lexC_move (v := .int .u64 ((uu : Nat) : Int)) rfl rfl ?_
                      (first | (simp only [put_some]; dsimp only [List.set_cons_succ, List.set_cons_zero]) | simp only [Act.put])
                      refine lexC_bin (r := .int .u64 ((tt + uu : Nat) : Int)) rfl rfl rfl (run_addw (by omega) (by omega)) (fun _ => rfl) ?_
                      (first | (simp only [put_some]; dsimp only [List.set_cons_succ, List.set_cons_zero]) | simp only [Act.put])
                      refine lexC_call (v := .int .u64 ((rstep v kk ff 0 : Nat) : Int)) rfl Tryz.func107 (by kernel_rfl) rfl rfl (fun w _ => HCE0.out w) ?_
                      (first | (simp only [put_some]; dsimp only [List.set_cons_succ, List.set_cons_zero]) | simp only [Act.put])
                      refine lexC_move (v := .slice (some ⟨gv, 0, none⟩) 8 cv) rfl rfl ?_
                      (first | (simp only [put_some]; dsimp only [List.set_cons_succ, List.set_cons_zero]) | simp only [Act.put])
                      refine lexC_ixs (g := gv) (off := 0) (k := 0) (len := 8) (cap := cv) rfl rfl rfl Tryz.underlying47 (by kernel_rfl) (by decide) ?_
                      (first | (simp only [put_some]; dsimp only [List.set_cons_succ, List.set_cons_zero]) | simp only [Act.put])
                      refine lexC_old (g := gv) (k := 0) (v := .int .u64 ((v 0 : Nat) : Int)) rfl (by simp only [Nat.zero_add]; rfl) hgvw (HVC.out 0 (by decide)) isAgg_word64 ?_
                      (first | (simp only [put_some]; dsimp only [List.set_cons_succ, List.set_cons_zero]) | simp only [Act.put])
                      refine lexC_move (v := .slice (some ⟨gv, 0, none⟩) 8 cv) rfl rfl ?_
                      (first | (simp only [put_some]; dsimp only [List.set_cons_succ, List.set_cons_zero]) | simp only [Act.put])
                      refine lexC_ixs (g := gv) (off := 0) (k := 1) (len := 8) (cap := cv) rfl rfl rfl Tryz.underlying47 (by kernel_rfl) (by decide) ?_
                      (first | (simp only [put_some]; dsimp only [List.set_cons_succ, List.set_cons_zero]) | simp only [Act.put])
                      refine lexC_old (g := gv) (k := 1) (v := .int .u64 ((v 1 : Nat) : Int)) rfl (by simp only [Nat.zero_add]; rfl) hgvw (HVC.out 1 (by decide)) isAgg_word64 ?_
                      (first | (simp only [put_some]; dsimp only [List.set_cons_succ, List.set_cons_zero]) | simp only [Act.put])
                      refine lexC_move (v := .slice (some ⟨gv, 0, none⟩) 8 cv) rfl rfl ?_
                      (first | (simp only [put_some]; dsimp only [List.set_cons_succ, List.set_cons_zero]) | simp only [Act.put])
                      refine lexC_ixs (g := gv) (off := 0) (k := 2) (len := 8) (cap := cv) rfl rfl rfl Tryz.underlying47 (by kernel_rfl) (by decide) ?_
                      (first | (simp only [put_some]; dsimp only [List.set_cons_succ, List.set_cons_zero]) | simp only [Act.put])
                      refine lexC_old (g := gv) (k := 2) (v := .int .u64 ((v 2 : Nat) : Int)) rfl (by simp only [Nat.zero_add]; rfl) hgvw (HVC.out 2 (by decide)) isAgg_word64 ?_
                      (first | (simp only [put_some]; dsimp only [List.set_cons_succ, List.set_cons_zero]) | simp only [Act.put])
                      refine lexC_oldrow (cs := kd) rfl rfl hg2w HRW.out Tryz.underlying99 rfl (by rw [HKS.out]; exact kd_info) ?_
                      (first | (simp only [put_some]; dsimp only [List.set_cons_succ, List.set_cons_zero]) | simp only [Act.put])
                      refine lexC_move (v := .slice (some ⟨gv, 0, none⟩) 8 cv) rfl rfl ?_
                      (first | (simp only [put_some]; dsimp only [List.set_cons_succ, List.set_cons_zero]) | simp only [Act.put])
                      refine lexC_ixs (g := gv) (off := 0) (k := 3) (len := 8) (cap := cv) rfl rfl rfl Tryz.underlying47 (by kernel_rfl) (by decide) ?_
                      (first | (simp only [put_some]; dsimp only [List.set_cons_succ, List.set_cons_zero]) | simp only [Act.put])
                      refine lexC_old (g := gv) (k := 3) (v := .int .u64 ((x3 : Nat) : Int)) rfl (by simp only [Nat.zero_add]; rfl) hgvw (by rw [HX3.out]; exact HVC.out 3 (by decide)) isAgg_word64 ?_
                      (first | (simp only [put_some]; dsimp only [List.set_cons_succ, List.set_cons_zero]) | simp only [Act.put])
                      refine lexC_move (v := .int .u64 ((tt : Nat) : Int)) rfl rfl ?_
                      (first | (simp only [put_some]; dsimp only [List.set_cons_succ, List.set_cons_zero]) | simp only [Act.put])
                      refine lexC_bin (r := .int .u64 ((x3 + tt : Nat) : Int)) rfl rfl rfl (run_addw (by omega) (by omega)) (fun _ => rfl) ?_
                      (first | (simp only [put_some]; dsimp only [List.set_cons_succ, List.set_cons_zero]) | simp only [Act.put])
                      refine lexC_call (v := .int .u64 ((rstep v kk ff 4 : Nat) : Int)) rfl Tryz.func107 (by kernel_rfl) rfl rfl (fun w _ => HCE4.out w) ?_
                      (first | (simp only [put_some]; dsimp only [List.set_cons_succ, List.set_cons_zero]) | simp only [Act.put])
                      refine lexC_move (v := .slice (some ⟨gv, 0, none⟩) 8 cv) rfl rfl ?_
                      (first | (simp only [put_some]; dsimp only [List.set_cons_succ, List.set_cons_zero]) | simp only [Act.put])
                      refine lexC_ixs (g := gv) (off := 0) (k := 4) (len := 8) (cap := cv) rfl rfl rfl Tryz.underlying47 (by kernel_rfl) (by decide) ?_
                      (first | (simp only [put_some]; dsimp only [List.set_cons_succ, List.set_cons_zero]) | simp only [Act.put])
                      refine lexC_old (g := gv) (k := 4) (v := .int .u64 ((v 4 : Nat) : Int)) rfl (by simp only [Nat.zero_add]; rfl) hgvw (HVC.out 4 (by decide)) isAgg_word64 ?_
                      (first | (simp only [put_some]; dsimp only [List.set_cons_succ, List.set_cons_zero]) | simp only [Act.put])
                      refine lexC_move (v := .slice (some ⟨gv, 0, none⟩) 8 cv) rfl rfl ?_
                      (first | (simp only [put_some]; dsimp only [List.set_cons_succ, List.set_cons_zero]) | simp only [Act.put])
                      refine lexC_ixs (g := gv) (off := 0) (k := 5) (len := 8) (cap := cv) rfl rfl rfl Tryz.underlying47 (by kernel_rfl) (by decide) ?_
                      (first | (simp only [put_some]; dsimp only [List.set_cons_succ, List.set_cons_zero]) | simp only [Act.put])
                      refine lexC_old (g := gv) (k := 5) (v := .int .u64 ((v 5 : Nat) : Int)) rfl (by simp only [Nat.zero_add]; rfl) hgvw (HVC.out 5 (by decide)) isAgg_word64 ?_
                      (first | (simp only [put_some]; dsimp only [List.set_cons_succ, List.set_cons_zero]) | simp only [Act.put])
                      refine lexC_move (v := .slice (some ⟨gv, 0, none⟩) 8 cv) rfl rfl ?_
                      (first | (simp only [put_some]; dsimp only [List.set_cons_succ, List.set_cons_zero]) | simp only [Act.put])
                      refine lexC_ixs (g := gv) (off := 0) (k := 6) (len := 8) (cap := cv) rfl rfl rfl Tryz.underlying47 (by kernel_rfl) (by decide) ?_
                      (first | (simp only [put_some]; dsimp only [List.set_cons_succ, List.set_cons_zero]) | simp only [Act.put])
                      refine lexC_old (g := gv) (k := 6) (v := .int .u64 ((v 6 : Nat) : Int)) rfl (by simp only [Nat.zero_add]; rfl) hgvw (HVC.out 6 (by decide)) isAgg_word64 ?_
                      (first | (simp only [put_some]; dsimp only [List.set_cons_succ, List.set_cons_zero]) | simp only [Act.put])
                      refine lexC_zero ?_; simp only [List.take_succ_cons, List.take_zero, List.drop_succ_cons, List.drop_zero]; (repeat (first | (refine aN_cons (by rfl) ?_; intro g; (first | (simp only [put_some]; dsimp only [List.set_cons_succ, List.set_cons_zero]) | simp only [Act.put])) | (refine afterAl_skip (by rfl) ?_))); refine afterAl_nil ?_; intro wD hR9; (try simp only)
                      have hb9 := hR9.below
                      clear hR9
                      have hrd9 := hrd.below hb9 (Nat.le_refl _)
                      have hown9 := hown.below hb9 (Nat.le_refl _)
                      have hbel9 := hbel.trans (hb9.mono hwsz)
                      have HC29 : Hid (∀ j v, (kdc (.slice (some ⟨gk, 0, none⟩) 64 ck) (.slice (some ⟨gf, 0, none⟩) 8 cf))[j]? = some v → wD.cell? ⟨g2, j, none⟩ = some v) := fun j v h => (hb9.cell (p := ⟨g2, j, none⟩) hg2w).trans (HC2.out j v h)
                      have HRW9 : Hid (wD.heap[g2]? = some (.cells kd 99 (0, 0))) := (hb9.block g2 hg2w).trans HRW.out
                      have HVC9 : Hid (∀ j, j < 8 → wD.cell? ⟨gv, j, none⟩ = some (.int .u64 ((v j : Nat) : Int))) := fun j hj => hrd9.word j hj
                      have ckk9 := (hb9.cell (p := ⟨gk, i, none⟩) hgkw).trans ckk
                      have cff9 := (hb9.cell (p := ⟨gw, i, none⟩) hgww).trans cff
                      have hsz9 := hb9.size
                      clear hrd hown hbel HC2 HRW HVC ckk cff hb9
                      have hwsz9 := Nat.le_trans hwsz hsz9
                      have hg2w9 : g2 < wD.heap.size := by omega
                      have hgvw9 : gv < wD.heap.size := by omega
                      have hgww9 : gw < wD.heap.size := by omega
                      have hgkw9 : gk < wD.heap.size := by omega
                      clear hwsz hg2w hgvw hgww hgkw hsz9
                      have hrd := hrd9
                      clear hrd9
                      have hown := hown9
                      clear hown9
                      have hbel := hbel9
                      clear hbel9
                      have HC2 := HC29
                      clear HC29
                      have HRW := HRW9
                      clear HRW9
                      have HVC := HVC9
                      clear HVC9
                      have ckk := ckk9
                      clear ckk9
                      have cff := cff9
                      clear cff9
                      have hwsz := hwsz9
                      clear hwsz9
                      have hg2w := hg2w9
                      clear hg2w9
                      have hgvw := hgvw9
                      clear hgvw9
                      have hgww := hgww9
                      clear hgww9
                      have hgkw := hgkw9
                      clear hgkw9
                      go_wp2_with fail
                      obtain ⟨w12, hw12⟩ : ∃ w12, w12 = wD.alloc (.cells #[.int .u64 ((rstep v kk ff 0 : Nat) : Int), .int .u64 ((v 0 : Nat) : Int), .int .u64 ((v 1 : Nat) : Int), .int .u64 ((v 2 : Nat) : Int), .int .u64 ((rstep v kk ff 4 : Nat) : Int), .int .u64 ((v 4 : Nat) : Int), .int .u64 ((v 5 : Nat) : Int), .int .u64 ((v 6 : Nat) : Int)] 51) := ⟨_, rfl⟩
                      have hrd12 : Rd w12 .u64 (some ⟨wD.heap.size, 0, none⟩) 8 8 (rrun st kF f (i + 1)) := by
                        rw [HVSS.out, hw12]
                        refine ⟨Sh.some _ _ _, Nat.le_refl _, by omega, fun j hj => (cell_of_row _ wD.heap.size (0 + j) _ _ _ (heap_alloc_new wD _)).trans ?_⟩
                        rcases (by omega : j = 0 ∨ j = 1 ∨ j = 2 ∨ j = 3 ∨ j = 4 ∨ j = 5 ∨ j = 6 ∨ j = 7) with rfl | rfl | rfl | rfl | rfl | rfl | rfl | rfl <;> rfl
                      have hb12 : Below wD.heap.size wD w12 := by rw [hw12]; exact (Below.refl _ _).alloc (Nat.le_refl _) _
                      have hv16 : (Value.int .i64 ((i : Int) + 1)) = .int .i64 ((i + 1 : Nat) : Int) := by go_num
                      rw [← hw12]
                      refine RoundEnd.mk (by ((repeat (refine And.intro rfl ?_)); exact True.intro)) ⟨i + 1, wD.heap.size, 8, by omega, rfl, hv16, hwsz, hrd12, hown.below hb12 (Nat.le_refl _), hbel.trans (hb12.mono hwsz)⟩ ?_
                      show 64 - (intOf (.int .i64 ((i : Int) + 1))).toNat < 64 - (intOf (.int .i64 ((i : Nat) : Int))).toNat
                      simp [intOf]; omega
                    · obtain rfl : i = 64 := by omega
                      obtain ⟨v, hv⟩ : ∃ v, v = rrun st kF f 64 := ⟨_, rfl⟩
                      rw [← hv] at hrd
                      have HVL : Hid (∀ j, v j < 4294967296) := by rw [hv]; exact HVS.out 64
                      have HN32 : Hid (∀ j, (st j + v j) % 4294967296 = next32 st b j) := fun j => by
                        unfold next32
                        rw [← HF48.out, ← hv, Nat.add_comm]
                      clear hv
                      rw [show ((64 : Nat) : Int) = 64 from rfl]
                      have hstw : OwnC wr gs 8 (fun j => if j < 0 then next32 st b j else st j) := (hst0.at (hbel.block gs hgso)).congr fun j _ => (if_neg (Nat.not_lt_zero j)).symm
                      have hgbw : w7.grownBy wr (some gs) := gb_below hgb hbel
                      have hgvs : gv ≠ gs := by omega
                      have hgvw : gv < wr.heap.size := hrd.lt (show 0 < 8 by omega)
                      clear hown hbel HC2
                      go_upto_region 32 with fail
                      go_loopw [21] (fun iv wr => ∃ i : Nat, i ≤ 8 ∧ iv = .int .i64 i ∧ OwnC wr gs 8 (fun j => if j < i then next32 st b j else st j) ∧ Rd wr .u64 (some ⟨gv, 0, none⟩) 8 cv v ∧ w7.grownBy wr (some gs)) (fun iv _ => 8 - (intOf iv).toNat)
                      case atStart => exact ⟨0, Nat.zero_le _, rfl, hstw, hrd, hgbw⟩
                      case round =>
                        clear hstw hrd hgbw hgvw c1 hg2w hwsz
                        obtain ⟨i, hi, rfl, hstw, hrd, hgbw⟩ := hrel
                        have hwsz := hgbw.size
                        by_cases hin : i < 8
                        · have hdec2 : decide ((i : Int) < 8) = true := by rw [decide_eq_true_eq]; omega
                          have hg2w : g2 < wr.heap.size := by omega
                          have HRW : Hid (wr.heap[g2]? = some (.cells kd 99 (0, 0))) := (hgbw.block g2 l2 n2).trans H7R.out
                          obtain ⟨x, hx⟩ : ∃ x, x = st i := ⟨_, rfl⟩
                          obtain ⟨y, hy⟩ : ∃ y, y = v i := ⟨_, rfl⟩
                          obtain ⟨z, hz⟩ : ∃ z, z = next32 st b i := ⟨_, rfl⟩
                          have hxl : x < 4294967296 := by rw [hx]; exact HSTL.out i
                          have hyl : y < 4294967296 := by rw [hy]; exact HVL.out i
                          have hgvw : gv < wr.heap.size := hrd.lt (show 0 < 8 by omega)
                          have hgsw3 : gs < wr.heap.size := hstw.lt
                          have cx : wr.cell? ⟨gs, i, none⟩ = some (.int .u64 (x : Int)) := by rw [hx, hstw.cell i hin, if_neg (Nat.lt_irrefl i)]
                          have cy : wr.cell? ⟨gv, i, none⟩ = some (.int .u64 (y : Int)) := by rw [hy]; exact hrd.word i hin
                          have HCZ : Hid (∀ w, Calls Tryz.prog 107 #[.agg kd, .int .u64 ((x + y : Nat) : Int)] w fun e w' => e = .returned (.int .u64 ((z : Nat) : Int)) ∧ Below w.heap.size w w') := fun w => by
                            rw [hz, ← HN32.out i, hx, hy]; exact HCUT.out _ w (by have := HSTL.out i; have := HVL.out i; omega)
                          have HZ := Lib.hid hz
                          clear hx hy hz
                          go_upto_region 34 with fail
                          refine wp_region_calm 14 (by rfl) (by kernel_rfl) (Rws.start wr) ?_
                          refine lexC_move (v := .slice (some ⟨gs, 0, none⟩) 8 cst) rfl rfl ?_
                          (first | (simp only [put_some]; dsimp only [List.set_cons_succ, List.set_cons_zero]) | simp only [Act.put])
                          refine lexC_move (v := .int .i64 ((i : Nat) : Int)) rfl rfl ?_
                          (first | (simp only [put_some]; dsimp only [List.set_cons_succ, List.set_cons_zero]) | simp only [Act.put])
                          refine lexC_oldrow (cs := kd) rfl rfl hg2w HRW.out Tryz.underlying99 rfl (by rw [HKS.out]; exact kd_info) ?_
                          (first | (simp only [put_some]; dsimp only [List.set_cons_succ, List.set_cons_zero]) | simp only [Act.put])
                          refine lexC_move (v := .slice (some ⟨gs, 0, none⟩) 8 cst) rfl rfl ?_
                          (first | (simp only [put_some]; dsimp only [List.set_cons_succ, List.set_cons_zero]) | simp only [Act.put])
                          refine lexC_move (v := .int .i64 ((i : Nat) : Int)) rfl rfl ?_
                          (first | (simp only [put_some]; dsimp only [List.set_cons_succ, List.set_cons_zero]) | simp only [Act.put])
                          refine lexC_ixs (g := gs) (off := 0) (k := i) (len := 8) (cap := cst) rfl rfl rfl Tryz.underlying47 (by kernel_rfl) hin ?_
                          (first | (simp only [put_some]; dsimp only [List.set_cons_succ, List.set_cons_zero]) | simp only [Act.put])
                          refine lexC_old (g := gs) (k := i) (v := .int .u64 ((x : Nat) : Int)) rfl (by simp only [Nat.zero_add]; rfl) hgsw3 cx isAgg_word64 ?_
                          (first | (simp only [put_some]; dsimp only [List.set_cons_succ, List.set_cons_zero]) | simp only [Act.put])
                          refine lexC_move (v := .slice (some ⟨gv, 0, none⟩) 8 cv) rfl rfl ?_
                          (first | (simp only [put_some]; dsimp only [List.set_cons_succ, List.set_cons_zero]) | simp only [Act.put])
                          refine lexC_move (v := .int .i64 ((i : Nat) : Int)) rfl rfl ?_
                          (first | (simp only [put_some]; dsimp only [List.set_cons_succ, List.set_cons_zero]) | simp only [Act.put])
                          refine lexC_ixs (g := gv) (off := 0) (k := i) (len := 8) (cap := cv) rfl rfl rfl Tryz.underlying47 (by kernel_rfl) hin ?_
                          (first | (simp only [put_some]; dsimp only [List.set_cons_succ, List.set_cons_zero]) | simp only [Act.put])
                          refine lexC_old (g := gv) (k := i) (v := .int .u64 ((y : Nat) : Int)) rfl (by simp only [Nat.zero_add]; rfl) hgvw cy isAgg_word64 ?_
                          (first | (simp only [put_some]; dsimp only [List.set_cons_succ, List.set_cons_zero]) | simp only [Act.put])
                          refine lexC_bin (r := .int .u64 ((x + y : Nat) : Int)) rfl rfl rfl (run_addw (by omega) (by omega)) (fun _ => rfl) ?_
                          (first | (simp only [put_some]; dsimp only [List.set_cons_succ, List.set_cons_zero]) | simp only [Act.put])
                          refine lexC_call (v := .int .u64 ((z : Nat) : Int)) rfl Tryz.func107 (by kernel_rfl) rfl rfl (fun w _ => HCZ.out w) ?_
                          (first | (simp only [put_some]; dsimp only [List.set_cons_succ, List.set_cons_zero]) | simp only [Act.put])
                          refine lexC_ixs (g := gs) (off := 0) (k := i) (len := 8) (cap := cst) rfl rfl rfl Tryz.underlying47 (by kernel_rfl) hin ?_
                          (first | (simp only [put_some]; dsimp only [List.set_cons_succ, List.set_cons_zero]) | simp only [Act.put])
                          refine lexC_zero ?_; simp only [List.take_succ_cons, List.take_zero, List.drop_succ_cons, List.drop_zero]; (repeat (first | (refine aN_cons (by rfl) ?_; intro g; (first | (simp only [put_some]; dsimp only [List.set_cons_succ, List.set_cons_zero]) | simp only [Act.put])) | (refine afterAl_skip (by rfl) ?_))); refine afterAl_nil ?_; intro w9 hR9; (try simp only)
                          have hb9 := hR9.below
                          have hst9 := hstw.below hb9
                          have hrd9 := hrd.below hb9 (Nat.le_refl _)
                          have hgb9 := gb_below hgbw hb9
                          have hc9 := hst9.cell i hin
                          have hf9 := hst9.frozen i
                          clear hR9 hstw hrd hgbw cx cy hb9 hdec2
                          go_wp2_with fail
                          have hst10 : OwnC (w9.setCell ⟨gs, i, none⟩ (.int .u64 ((z : Nat) : Int))) gs 8 (fun j => if j < i + 1 then next32 st b j else st j) := hst9.set i z fun j _ => by
                            show (if j < i + 1 then _ else _) = if j = i then z else if j < i then _ else _
                            by_cases e : j = i
                            · rw [if_pos e, e, if_pos (by omega), HZ.out]
                            · rw [if_neg e]
                              by_cases h : j < i
                              · rw [if_pos h, if_pos (by omega)]
                              · rw [if_neg h, if_neg (by omega)]
                          go_roundw
                          case rel => exact ⟨i + 1, by omega, by go_num, hst10, hrd9.other _ hgvs, gb_set hgb9 i _⟩
                          case measure => simp [intOf]; omega
                        · obtain rfl : i = 8 := by omega
                          have hstn : OwnC wr gs 8 (fold32 firstF (allF s) (m + 1)) := hstw.congr fun j hj => by rw [if_pos hj, HNX.out]
                          have hpm : p + 64 = 64 * (m + 1) := by have := HP.out; omega
                          have HPM := Lib.hid hpm
                          clear hstw hpm
                          go_wp2_with fail
                          have hv8 : (Value.int .i64 ((p : Int) + 64)) = .int .i64 ((64 * (m + 1) : Nat) : Int) := by congr 1; have := HPM.out; omega
                          refine RoundEnd.mk (by ((repeat (refine And.intro rfl ?_)); exact True.intro)) ⟨m + 1, by have := HPM.out; omega, hv8, hstn, hgbw⟩ ?_
                          show T - (intOf (.int .i64 ((p : Int) + 64))).toNat < T - (intOf (.int .i64 ((p : Nat) : Int))).toNat
                          simp [intOf]; omega
        · have hpT : p = T := by omega
          subst hpT
          obtain ⟨fin, hfin⟩ : ∃ fin, fin = fold32 firstF (allF s) m := ⟨_, rfl⟩
          rw [← hfin] at hst
          have hfinl : ∀ j, fin j < 4294967296 := fun j => by rw [hfin]; exact fold32_lt firstF_lt _ _ _
          have hsha : sha s = ⟨(stB fin).toArray⟩ := by
            have h1 := HP.out; have h2 := HT.out; have h3 := HN.out
            have h4 : padT s.size / 64 = m := by rw [← h3, ← h2]; omega
            rw [sha_all, hfin, h4]
          have HSHA := Lib.hid hsha; have HFINL := Lib.hid hfinl
          clear hfin hsha hfinl
          have hb0 : Buf (wr.alloc (.cells #[] 5)) wr.heap.size (.slice (some ⟨wr.heap.size, 0, none⟩) 0 0) ((stB fin).take (4 * 0)) := buf_new wr [] (by decide)
          obtain ⟨wo, rfl⟩ : ∃ wo : World, wo = wr := ⟨_, rfl⟩
          go_upto_region 37 with fail
          go_loopw [22, 23] (fun ov iv wr => ∃ i : Nat, i ≤ 8 ∧ iv = .int .i64 i ∧ Buf wr wo.heap.size ov ((stB fin).take (4 * i)) ∧ Below wo.heap.size wo wr) (fun _ iv _ => 8 - (intOf iv).toNat)
          case atStart => exact ⟨0, Nat.zero_le _, rfl, hb0, (Below.refl _ _).alloc (Nat.le_refl _) _⟩
          case round =>
            clear hb0
            obtain ⟨i, hi, rfl, hbuf, hbel⟩ := hrel
            have hwsz2 := hbel.size
            by_cases hin : i < 8
            · have hdec2 : decide ((i : Int) < 8) = true := by rw [decide_eq_true_eq]; omega
              obtain ⟨x, hx⟩ : ∃ x, x = fin i := ⟨_, rfl⟩
              have hxl : x < 4294967296 := by rw [hx]; exact HFINL.out i
              have cx : wr.cell? ⟨gs, i, none⟩ = some (.int .u64 (x : Int)) := by rw [hx]; exact (hst.at (hbel.block gs hgsw2)).cell i hin
              have hby := r2bytes_any x 4 wr (by omega) (by omega)
              have htk : (stB fin).take (4 * (i + 1)) = (stB fin).take (4 * i) ++ bytesL x 4 := by rw [hx]; exact stB_take fin i hin
              have hlen : ((stB fin).take (4 * i)).length + (bytesL x 4).length ≤ 140737488355328 := by rw [List.length_take, bytesL_length, stB_length]; omega
              have HBY := Lib.hid hby; have HTK := Lib.hid htk; have HLEN := Lib.hid hlen
              clear hx hby htk hlen
              go_wp2_with fail
              refine (HBY.out).mono ?_
              rintro e5 w5 ⟨v5, rfl, hb5, hbe5⟩
              obtain ⟨g5, c5, rfl, hc5⟩ := hb5.form (by rw [bytesL_length]; omega)
              have h5c := hb5.own.cells (g := g5) rfl
              have hbuf5 := hbuf.below hbe5
              have hbel5 := hbel.trans (hbe5.mono hwsz2)
              have hsz5 := hbel5.size
              clear hbuf hbel hb5 hbe5 cx
              go_wp2_with (at_builtin; refine wpList_append_buf _ rfl (.tmp 327) (.tmp 333) _ rfl Tryz.underlying46 wo.heap.size _ ((stB fin).take (4 * i)) rfl hbuf5 ⟨g5, 0, none⟩ (bytesL x 4).length c5 (bytesL x 4) rfl rfl h5c HLEN.out hsz5 wo hbel5 ?_; intro v6 w6 hbuf6 hbel6 _)
              go_roundw
              case rel => exact ⟨i + 1, by omega, by go_num, by rw [HTK.out]; exact hbuf6, hbel6⟩
              case measure => simp [intOf]; omega
            · obtain rfl : i = 8 := by omega
              rw [show 4 * 8 = 32 from rfl, List.take_of_length_le (by rw [stB_length]; exact Nat.le_refl _)] at hbuf
              have hconv := run_string_buf hbuf
              obtain ⟨go, co, rfl, hco⟩ := hbuf.form (by rw [stB_length]; omega)
              rw [stB_length] at hco hconv ⊢
              have c2 : wr.cell? ⟨g2, 2, none⟩ = some (.int .i64 32) := (hbel.cell (p := ⟨g2, 2, none⟩) (by show g2 < _; omega)).trans (HC2.out 2 _ rfl)
              have HCV := Lib.hid hconv
              clear hconv
              have hres : Below w.heap.size w wr := (HBW7.out.grown hgb (by omega) (fun k hk => by injection hk with hk; omega)).trans (hbel.mono (by omega))
              have HRES := Lib.hid hres
              clear hres
              have hcv := HCV.out
              go_wp2_with fail
              go_ret
              exact ⟨by rw [HSHA.out]; rfl, HRES.out⟩
end Go.Proofs.YtjkjlbchbbpmaaaGreatDoor
