/- der.Parse: the walk. -/
import Derived.Test.YtebhiplcoioenaaGreatDoorZZReadA
import Derived.Test.YtebhiplcoioenaaGreatDoorZDN
namespace Go.Proofs.YtebhiplcoioenaaGreatDoor
open Go.RowKit

/-- What Parse answers. -/
def ParseP (w : World) (x : Dv × Int) (e : Ending) (w' : World) : Prop :=
  ∃ ad cp, e = .returned (.tuple #[dvv x.1 ad cp, .int .i64 x.2]) ∧ SlQ (fun k => w.heap.size ≤ k) w' x.1.l ad cp ∧ OwnD w.heap.size w' x.1.l.len ad cp ∧ Below w.heap.size w w'
theorem OwnD.mono {B B' : Nat} {w : World} {n : Nat} {ad : Option Addr} {c : Nat} (h : OwnD B w n ad c) (hB : B' ≤ B) : OwnD B' w n ad c := by
  obtain ⟨ks, hl, h0 | ⟨g, cap, cur, h1, hg, r⟩⟩ := h
  · exact ⟨ks, hl, Or.inl h0⟩
  · exact ⟨ks, hl, Or.inr ⟨g, cap, cur, h1, Nat.le_trans hB hg, r⟩⟩
theorem OwnD.keep {B : Nat} {w w' : World} {n : Nat} {ad : Option Addr} {c : Nat} (h : OwnD B w n ad c) (hb : ∀ k, k < w.heap.size → B ≤ k → w'.heap[k]? = w.heap[k]?) : OwnD B w' n ad c := by
  obtain ⟨ks, hk⟩ := h
  exact ⟨ks, own_same hk fun g hg hl => hb g hl (own_lt hk hg).1⟩
theorem OwnD.below {B : Nat} {w w' : World} {n : Nat} {ad : Option Addr} {c : Nat} (h : OwnD B w n ad c) (hb : Below w.heap.size w w') : OwnD B w' n ad c := h.keep fun k hk _ => hb.block k hk
theorem SlQ.mono {B B' : Nat} {w : World} {F : Dr} {ad : Option Addr} {c : Nat} (h : SlQ (fun k => B ≤ k) w F ad c) (hB : B' ≤ B) : SlQ (fun k => B' ≤ k) w F ad c := h.same (fun _ hq _ => Nat.le_trans hB hq) (fun _ _ _ => rfl)
theorem SlQ.kept {B : Nat} {w w' : World} {F : Dr} {ad : Option Addr} {c : Nat} (h : SlQ (fun k => B ≤ k) w F ad c) (hb : ∀ k, k < w.heap.size → B ≤ k → w'.heap[k]? = w.heap[k]?) : SlQ (fun k => B ≤ k) w' F ad c := h.same (fun _ hq _ => hq) (fun k hq hl => hb k hl hq)
set_option maxRecDepth 100000 in
set_option maxHeartbeats 4000000 in
theorem Parse_any (s : Bs) (w : World) (hs : s.length ≤ SB) (hg : Gd w) : Calls Tryz.prog 10 #[.string (bs s)] w (ParseP w (parseS s)) := by
  have hSB := SB_eq
  have zs := bs_size s
  have hR := Rws.start w
  by_cases hl : 16384 < s.length
  · have hlz : (16384 : Int) < (s.length : Int) := by omega
    have hx : parseS s = (.zero, 64) := by unfold parseS; rw [if_pos hl]
    rw [hx]
    clear hx hl
    go_enter Tryz.func10, Tryz.ntmps10
    go_upto_region 1 with (refine wpList_alloc_rws rfl _ (by rfl) (by exact hR) (dvC .zero none 0) zero_der ?_; intro g2 w1 hR)
    go_wp2_with (refine wpList_store_rws rfl _ _ _ (by rfl) (by exact hR) g2 rfl (dvC .zero none 0) (by rfl) _ _ _ (by repeat (first | exact Pick.here | apply Pick.there)) (by kernel_rfl) (by kernel_rfl) (by kernel_rfl) ?_; intro w6 hR)
    have HR := Lib.hid hR
    refine bodyPost_rws2 rfl HR.out g2 rfl _ _ (List.Mem.head _) _ Tryz.underlying24 rfl (by kernel_rfl) _ rfl rfl (fun hbz => ?_)
    exact ⟨none, 0, rfl, SlQ.nil _ _, OwnD.nil _ _, hbz⟩
  · have hlz : ¬ (16384 : Int) < (s.length : Int) := by omega
    have hlb : s.length ≤ 16384 := by omega
    have HO : Hid (∀ u, Calls Tryz.prog 32 #[.string (bs s)] u fun e w' => ∃ c, e = .returned (.pointer (some ⟨c, 0, none⟩)) ∧ u.heap.size ≤ c ∧ Cur w' c s 0 ∧ Below u.heap.size u w') := Lib.hid fun u => (Open_any s u hs).mono fun e w' hh => by
      obtain ⟨c, h1, h2, h3⟩ := hh
      exact ⟨c, h1, Nat.le_of_eq h2.symm, h3⟩
    obtain ⟨X, hX⟩ : ∃ X, X = rdS 16 s := ⟨_, rfl⟩
    have hx : parseS s = if X.1 ≠ 0 then (.zero, X.1) else if X.2.2 ≠ [] then (.zero, 66) else (X.2.1, 0) := by unfold parseS; rw [if_neg hl, hX]
    have HRD : Hid (∀ u c, Cur u c s 0 → Gd u → Calls Tryz.prog 33 #[.pointer (some ⟨c, 0, none⟩), .int .i64 0] u (ReadQ u c s X)) := Lib.hid fun u c hc hg => by
      have := read_any 16 (Nat.le_refl _) s 0 c u hc hg
      rw [List.drop_zero, ← hX] at this
      exact this
    have HIT : Hid (∀ u, Calls Tryz.prog 34 #[.bool true, .int .i64 66] u fun e w' => e = .returned (wrV 66) ∧ w' = u) := Lib.hid fun u => is_any true 66 u
    have HIF : Hid (∀ u, Calls Tryz.prog 34 #[.bool false, .int .i64 66] u fun e w' => e = .returned .nilIface ∧ w' = u) := Lib.hid fun u => is_any false 66 u
    have HTO : Hid (∀ e x u, ErrA e x → Below w.heap.size w u → Calls Tryz.prog 36 #[x] u (RetI e u)) := Lib.hid fun e x u hx hu => told_any e x hx u (hg.below hu).ty
    have HG := Lib.hid hg
    have HX := Lib.hid hx
    clear hx hl hX hg hs
    by_cases hX1 : X.1 = 0
    · have HIO : Hid (∀ u c, Cur u c s 0 → Gd u → Calls Tryz.prog 33 #[.pointer (some ⟨c, 0, none⟩), .int .i64 0] u fun e w' => (∃ ad1 cp1, e = .returned (.tuple #[dvv X.2.1 ad1 cp1, .nilIface]) ∧ SlQ (fun k => u.heap.size ≤ k) w' X.2.1.l ad1 cp1 ∧ OwnD u.heap.size w' X.2.1.l.len ad1 cp1) ∧ (∃ q, Cur w' c s q ∧ s.drop q = X.2.2) ∧ Bes c u w') := Lib.hid fun u c hc hg => ((HRD.out u c hc hg).mono fun e w' hh => by
          rcases hh with ⟨_, h1, h2, h3, h4⟩ | ⟨h1, _⟩
          · exact ⟨h1, h3, h4⟩
          · exact absurd hX1 h1)
      by_cases hmo : X.2.2 = []
      · have HX2 : Hid (parseS s = (X.2.1, 0)) := Lib.hid (by rw [HX.out, if_neg (by rw [hX1]; simp), if_neg (by rw [hmo]; simp)])
        have HMO := Lib.hid hmo
        clear hmo hX1 HRD HX
        go_enter Tryz.func10, Tryz.ntmps10
        go_upto_region 1 with (refine wpList_alloc_rws rfl _ (by rfl) (by exact hR) (dvC .zero none 0) zero_der ?_; intro g2 w1 hR)
        go_upto_region 4 with (go_at_call 32; refine (HO.out _).mono ?_; rintro e w2 ⟨c, rfl, hcz, hC2, hb2⟩; have hlen1 := hR.len; have hR := (hR.call hb2).add (by omega) hC2.row (fun y hy e => by have := hR.lt hy; omega))
        have HG2 : Hid (Gd w2) := Lib.hid (HG.out.below hR.below)
        have HC2 := Lib.hid hC2
        have hlen2 := hR.len
        have hg2l : g2 < w2.heap.size := hR.lt (x := (g2, dvC .zero none 0, 24)) (by repeat (first | exact List.Mem.head _ | refine List.Mem.tail _ ?_))
        clear hcz hb2 hC2
        go_upto_region 5 with (first
          | (go_at_call 33; refine (HIO.out _ _ HC2.out HG2.out).mono ?_; rintro e w3 ⟨⟨ad1, cp1, rfl, hsl1, hown1⟩, ⟨q1, hq1, hdr1⟩, hb3⟩; have hR := hR.besL (by repeat (first | exact Pick.here | apply Pick.there)) hb3 hq1.row)
          | (refine wQ_alloc (cs := dvC .zero none 0) rfl _ (by rfl) (by exact hR) zero_der ?_; intro g5 w4 hR hb4 hg5)
          | (refine wQ_store rfl _ _ _ (by rfl) (by exact hR) g5 rfl (dvC X.2.1 ad1 cp1) (by rfl) _ _ _ (by repeat (first | exact Pick.here | apply Pick.there)) (by kernel_rfl) (by rfl) (dv_one _ _ _) ?_; intro w5 hR hsm5 hsz5))
        have hq1l : s.length - q1 = 0 := by
          have h1 := congrArg List.length hdr1
          rw [HMO.out, List.length_drop] at h1
          exact h1
        have HCU : Hid (Cur w5 c s q1) := Lib.hid ⟨(hR.row (c, curC s q1, 81) (by repeat (first | exact List.Mem.head _ | refine List.Mem.tail _ ?_))).2, hq1.2⟩
        have HLE : Hid (Calls Tryz.prog 35 #[.pointer (some ⟨c, 0, none⟩)] w5 fun e w' => e = .returned (.int .i64 0) ∧ ∃ k, w' = w5.drewN k) := Lib.hid (by
          have := Left_any s q1 c w5 HCU.out
          rw [hq1l] at this
          exact this)
        have HSL : Hid (SlQ (fun k => w2.heap.size ≤ k) w5 X.2.1.l ad1 cp1 ∧ OwnD w2.heap.size w5 X.2.1.l.len ad1 cp1) := Lib.hid (by
          have hk : ∀ k, k < w3.heap.size → w2.heap.size ≤ k → w5.heap[k]? = w3.heap[k]? := fun k hk _ => by rw [hsm5 k (by omega), hb4.block k hk]
          exact ⟨hsl1.kept hk, hown1.keep hk⟩)
        clear hq1l hdr1 hsl1 hown1 hb3 hb4 hg5 hsm5 hsz5 hq1
        have HR5 := Lib.hid hR
        clear hR
        go_upto_region 9 with (first
          | (go_at_call 35; refine HLE.out.mono ?_; rintro e w6 ⟨rfl, k6, rfl⟩)
          | (go_at_call 34; refine (HIF.out _).mono ?_; rintro e w7 ⟨rfl, rfl⟩))
        have hR := HR5.out.call (below_drewN w5 k6)
        go_wp2_with (first
          | (refine wpList_load_rws rfl _ _ (by rfl) (by exact hR) g5 rfl (dvC X.2.1 ad1 cp1) _ (by repeat (first | exact List.Mem.head _ | refine List.Mem.tail _ ?_)) _ Tryz.underlying24 rfl (by kernel_rfl) ?_)
          | (refine wQ_store rfl _ _ _ (by rfl) (by exact hR) g2 rfl (dvC X.2.1 ad1 cp1) (by rfl) _ _ _ (by repeat (first | exact Pick.here | apply Pick.there)) (by kernel_rfl) (by rfl) (dv_one _ _ _) ?_; intro w8 hR hsm8 hsz8))
        have HR := Lib.hid hR
        refine bodyPost_rws2 rfl HR.out g2 rfl _ _ (List.Mem.head _) _ Tryz.underlying24 rfl (by kernel_rfl) _ rfl rfl (fun hbz => ?_)
        rw [HX2.out]
        have hk : ∀ k, k < w5.heap.size → w2.heap.size ≤ k → w8.heap[k]? = w5.heap[k]? := fun k _ hk => hsm8 k (by omega)
        exact ⟨ad1, cp1, rfl, (HSL.out.1.kept hk).mono hlen2, (HSL.out.2.keep hk).mono hlen2, hbz⟩
      · have HX2 : Hid (parseS s = (.zero, 66)) := Lib.hid (by rw [HX.out, if_neg (by rw [hX1]; simp), if_pos hmo])
        have HMO := Lib.hid hmo
        clear hmo hX1 HRD HX
        go_enter Tryz.func10, Tryz.ntmps10
        go_upto_region 1 with (refine wpList_alloc_rws rfl _ (by rfl) (by exact hR) (dvC .zero none 0) zero_der ?_; intro g2 w1 hR)
        go_upto_region 4 with (go_at_call 32; refine (HO.out _).mono ?_; rintro e w2 ⟨c, rfl, hcz, hC2, hb2⟩; have hlen1 := hR.len; have hR := (hR.call hb2).add (by omega) hC2.row (fun y hy e => by have := hR.lt hy; omega))
        have HG2 : Hid (Gd w2) := Lib.hid (HG.out.below hR.below)
        have HC2 := Lib.hid hC2
        clear hcz hb2 hC2
        go_upto_region 5 with (first
          | (go_at_call 33; refine (HIO.out _ _ HC2.out HG2.out).mono ?_; rintro e w3 ⟨⟨ad1, cp1, rfl, hsl1, hown1⟩, ⟨q1, hq1, hdr1⟩, hb3⟩; have hR := hR.besL (by repeat (first | exact Pick.here | apply Pick.there)) hb3 hq1.row)
          | (refine wQ_alloc (cs := dvC .zero none 0) rfl _ (by rfl) (by exact hR) zero_der ?_; intro g5 w4 hR hb4 hg5)
          | (refine wQ_store rfl _ _ _ (by rfl) (by exact hR) g5 rfl (dvC X.2.1 ad1 cp1) (by rfl) _ _ _ (by repeat (first | exact Pick.here | apply Pick.there)) (by kernel_rfl) (by rfl) (dv_one _ _ _) ?_; intro w5 hR hsm5 hsz5))
        obtain ⟨L, hL⟩ : ∃ L, L = s.length - q1 := ⟨_, rfl⟩
        have hL0 : (0 : Int) < (L : Int) := by
          have h1 := congrArg List.length hdr1
          rw [List.length_drop, ← hL] at h1
          have h2 := List.length_pos_iff.2 HMO.out
          omega
        have HCU : Hid (Cur w5 c s q1) := Lib.hid ⟨(hR.row (c, curC s q1, 81) (by repeat (first | exact List.Mem.head _ | refine List.Mem.tail _ ?_))).2, hq1.2⟩
        have HLE : Hid (Calls Tryz.prog 35 #[.pointer (some ⟨c, 0, none⟩)] w5 fun e w' => e = .returned (.int .i64 (L : Nat)) ∧ ∃ k, w' = w5.drewN k) := Lib.hid (by
          have := Left_any s q1 c w5 HCU.out
          rw [← hL] at this
          exact this)
        have HIT2 : Hid (∀ u, Calls Tryz.prog 34 #[.bool (decide (0 < L)), .int .i64 66] u fun e w' => e = .returned (wrV 66) ∧ w' = u) := Lib.hid fun u => by rw [decide_eq_true (by omega)]; exact HIT.out u
        clear hdr1 hsl1 hown1 hb3 hb4 hg5 hsm5 hsz5 hq1 hL
        have HR5 := Lib.hid hR
        clear hR
        go_upto_region 8 with (first
          | (go_at_call 35; refine HLE.out.mono ?_; rintro e w6 ⟨rfl, k6, rfl⟩)
          | (go_at_call 34; refine (HIT2.out _).mono ?_; rintro e w7 ⟨rfl, rfl⟩))
        have hR := HR5.out.call (below_drewN w5 k6)
        go_wp2_with (first
          | (go_at_call 36; refine (HTO.out 66 _ _ (Or.inr ⟨by decide, 0, .wrong⟩) hR.below).mono ?_; rintro e w7 ⟨rfl, hb7⟩; have hR := hR.call hb7)
          | (refine wpList_store_rws rfl _ _ _ (by rfl) (by exact hR) g2 rfl (dvC .zero none 0) (by rfl) _ _ _ (by repeat (first | exact Pick.here | apply Pick.there)) (by kernel_rfl) (by kernel_rfl) (by kernel_rfl) ?_; intro w8 hR))
        have HR := Lib.hid hR
        refine bodyPost_rws2 rfl HR.out g2 rfl _ _ (List.Mem.head _) _ Tryz.underlying24 rfl (by kernel_rfl) _ rfl rfl (fun hbz => ?_)
        rw [HX2.out]
        exact ⟨none, 0, rfl, SlQ.nil _ _, OwnD.nil _ _, hbz⟩
    · have HX2 : Hid (parseS s = (.zero, X.1)) := Lib.hid (by rw [HX.out, if_pos hX1])
      have HIE : Hid (∀ u c, Cur u c s 0 → Gd u → Calls Tryz.prog 33 #[.pointer (some ⟨c, 0, none⟩), .int .i64 0] u fun e w' => (∃ v ad1 cp1 T x, e = .returned (.tuple #[dvv v ad1 cp1, .iface T x]) ∧ Hid (ErrA X.1 (.iface T x))) ∧ (∃ q, Cur w' c s q) ∧ Bes c u w') := Lib.hid fun u c hc hg => ((HRD.out u c hc hg).mono fun e w' hh => by
          rcases hh with ⟨h1, _⟩ | ⟨_, ⟨v, ad1, cp1, er, he, m, hV⟩, h3, h4⟩
          · exact absurd h1 hX1
          · refine ⟨?_, h3, h4⟩
            cases hV with
            | wrong => exact ⟨v, ad1, cp1, _, _, he, Lib.hid (Or.inr ⟨hX1, 0, .wrong⟩)⟩
            | part m p v2 hv => exact ⟨v, ad1, cp1, _, _, he, Lib.hid (Or.inr ⟨hX1, _, .part m p v2 hv⟩)⟩)
      clear hX1 HRD HX
      go_enter Tryz.func10, Tryz.ntmps10
      go_upto_region 1 with (refine wpList_alloc_rws rfl _ (by rfl) (by exact hR) (dvC .zero none 0) zero_der ?_; intro g2 w1 hR)
      go_upto_region 4 with (go_at_call 32; refine (HO.out _).mono ?_; rintro e w2 ⟨c, rfl, hcz, hC2, hb2⟩; have hlen1 := hR.len; have hR := (hR.call hb2).add (by omega) hC2.row (fun y hy e => by have := hR.lt hy; omega))
      have HG2 : Hid (Gd w2) := Lib.hid (HG.out.below hR.below)
      have HC2 := Lib.hid hC2
      clear hcz hb2 hC2
      go_upto_region 5 with (first
        | (go_at_call 33; refine (HIE.out _ _ HC2.out HG2.out).mono ?_; rintro e w3 ⟨⟨v1, ad1, cp1, TT, xx, rfl, hV⟩, ⟨q1, hq1⟩, hb3⟩; have hR := hR.besL (by repeat (first | exact Pick.here | apply Pick.there)) hb3 hq1.row)
        | (refine wQ_alloc (cs := dvC .zero none 0) rfl _ (by rfl) (by exact hR) zero_der ?_; intro g5 w4 hR hb4 hg5)
        | (refine wQ_store rfl _ _ _ (by rfl) (by exact hR) g5 rfl (dvC v1 ad1 cp1) (by rfl) _ _ _ (by repeat (first | exact Pick.here | apply Pick.there)) (by kernel_rfl) (by rfl) (dv_one _ _ _) ?_; intro w5 hR hsm5 hsz5))
      clear hb3 hb4 hg5 hsm5 hsz5 hq1
      go_wp2_with (first
        | (go_at_call 36; refine (HTO.out _ _ _ hV.out hR.below).mono ?_; rintro e w7 ⟨rfl, hb7⟩; have hR := hR.call hb7)
        | (refine wpList_store_rws rfl _ _ _ (by rfl) (by exact hR) g2 rfl (dvC .zero none 0) (by rfl) _ _ _ (by repeat (first | exact Pick.here | apply Pick.there)) (by kernel_rfl) (by kernel_rfl) (by kernel_rfl) ?_; intro w8 hR))
      have HR := Lib.hid hR
      refine bodyPost_rws2 rfl HR.out g2 rfl _ _ (List.Mem.head _) _ Tryz.underlying24 rfl (by kernel_rfl) _ rfl rfl (fun hbz => ?_)
      rw [HX2.out]
      exact ⟨none, 0, rfl, SlQ.nil _ _, OwnD.nil _ _, hbz⟩
end Go.Proofs.YtebhiplcoioenaaGreatDoor
