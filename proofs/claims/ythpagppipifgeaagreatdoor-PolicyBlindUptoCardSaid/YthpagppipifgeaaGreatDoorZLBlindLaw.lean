/- PolicyBlind: the law's walk. -/
import Derived.Test.YthpagppipifgeaaGreatDoorZLLawKit
import Derived.Test.YthpagppipifgeaaGreatDoorZLFixed
import Derived.Test.YthpagppipifgeaaGreatDoorZLBlindA
import Derived.Test.YthpagppipifgeaaGreatDoorZLBlindS
import Derived.Test.YthpagppipifgeaaGreatDoorZLGSteps2
namespace Go.Proofs.YthpagppipifgeaaGreatDoor.policyBlind
open Go.RowKit

def zF : Array Value := #[.string ⟨#[]⟩, .string ⟨#[]⟩, .slice none 0 0, .slice none 0 0]
theorem zero_fac (w : World) : (zeroValue 27).run Tryz.prog w = .ok (.agg zF) w := by kernel_rfl
set_option maxRecDepth 100000 in
set_option maxHeartbeats 8000000 in
theorem law_any (k1 o1 : Int) (n1 t1 : ByteArray) (a1 : Option Addr) (c1 : Nat) (F1 : Fo) (x : Fx) (l3 : List Fact) (a3 : Option Addr) (c3 : Nat) (w : World) (hn1' : n1.size ≤ SB) (ht1 : t1.size ≤ SB) (_ : F1.len ≤ LB) (_ : F1.lens LB) (hs1 : SlF w F1 a1 c1) (_ : F1.cnt ≤ 174763)
    (hx : FxAt w x) (hz1 : x.a1 = none → x.c1 = 0) (hz2 : x.a2 = none → x.c2 = 0) (hxb : x.cl.length + x.ce.length ≤ 600000) (hs3 : SlX w l3 a3 c3) (hb3 : l3.length ≤ 600000) :
    Calls Tryz.prog 7 #[pv k1 o1 n1 t1 a1 F1.len c1, x.v, .slice a3 l3.length c3] w (RetB true w) := by
  have hR := Rws.start w
  go_enter Tryz.func7, Tryz.ntmps7
  go_upto_region 2 with (first
    | (refine wpList_box_rws rfl _ _ (by rfl) (by assumption) #[.int .i64 k1, .int .i64 o1, .string n1, .string t1, .slice a1 F1.len c1] rfl ?_; intro gp w1 hR)
    | (refine wpList_box_rws rfl _ _ (by rfl) (by assumption) #[.string x.m, .string x.p, .slice x.a1 x.cl.length x.c1, .slice x.a2 x.ce.length x.c2] rfl ?_; intro gf w2 hR)
    | (refine wQ_alloc (cs := zF) rfl _ (by rfl) (by assumption) zero_fac ?_; intro gg w3 hR hbg hg)
    | (refine wpList_load_rws rfl _ _ (by rfl) (by assumption) _ rfl _ _ (by repeat (first | exact List.Mem.head _ | refine List.Mem.tail _ ?_)) _ Tryz.underlying27 rfl (by kernel_rfl) ?_)
    | (refine wQ_store rfl _ _ _ (by rfl) (by assumption) _ rfl #[.string x.m, .string x.p, .slice x.a1 x.cl.length x.c1, .slice x.a2 x.ce.length x.c2] (by rfl) _ _ _ (by repeat (first | exact Pick.here | apply Pick.there)) (by kernel_rfl) (by kernel_rfl) (by kernel_rfl) ?_; intro w4 hR hsm hsz; clear hsm hsz))
  clear hbg hg
  have hB0 : w.heap.size ≤ w4.heap.size := hR.len
  have hRa := hR.alloc0 (.cells #[] 45)
  have ho0 := own_empty (B := w.heap.size) (w := w4) hB0
  have hlt4 : ∀ y ∈ ([(gg, #[.string x.m, .string x.p, .slice x.a1 x.cl.length x.c1, .slice x.a2 x.ce.length x.c2], 27), (gf, #[.string x.m, .string x.p, .slice x.a1 x.cl.length x.c1, .slice x.a2 x.ce.length x.c2], 27), (gp, #[.int .i64 k1, .int .i64 o1, .string n1, .string t1, .slice a1 F1.len c1], 24)] : List (Nat × Array Value × TypeId)), y.1 < w4.heap.size := fun y hy => hR.lt hy
  have hNa : ∀ y ∈ ([(gg, #[.string x.m, .string x.p, .slice x.a1 x.cl.length x.c1, .slice x.a2 x.ce.length x.c2], 27), (gf, #[.string x.m, .string x.p, .slice x.a1 x.cl.length x.c1, .slice x.a2 x.ce.length x.c2], 27), (gp, #[.int .i64 k1, .int .i64 o1, .string n1, .string t1, .slice a1 F1.len c1], 24)] : List (Nat × Array Value × TypeId)), (Value.slice (some ⟨w4.heap.size, 0, none⟩) 0 0).ownBlock ≠ some y.1 := fun y hy e => by
    have := hlt4 y hy; have := Option.some.inj e; simp only at this; omega
  clear hR
  go_upto_region 3 with (first
    | (refine wR_loadc (g := gf) (k := 2) rfl (by rfl) hRa (by rfl) (by repeat (first | exact List.Mem.head _ | refine List.Mem.tail _ ?_)) rfl isAgg_facts ?_)
    | (refine wp_app rfl _ _ (by rfl) (by rfl) (by rfl) hRa ho0 hNa hx.cl hz1 (by omega) ?_; intro v1 w5 y1 hR5 hO5 hF1 hK5)
    | (refine wB_storec (g := gg) (k := 2) rfl (by rfl) hR5 (by rfl) (by rfl) Pick.here (own_cell hO5).1 (by kernel_rfl) (by simp) (own_cell hO5).2 rfl ?_; intro w6 hR6 hsm6))
  rw [List.nil_append, Nat.zero_add] at hO5
  have hn1 : ∀ g, v1.ownBlock = some g → g ≠ gp ∧ g ≠ gf ∧ g ≠ gg := fun g hg => by
    have hk : ∀ y, y ∈ ([(gg, #[.string x.m, .string x.p, .slice x.a1 x.cl.length x.c1, .slice x.a2 x.ce.length x.c2], 27), (gf, #[.string x.m, .string x.p, .slice x.a1 x.cl.length x.c1, .slice x.a2 x.ce.length x.c2], 27), (gp, #[.int .i64 k1, .int .i64 o1, .string n1, .string t1, .slice a1 F1.len c1], 24)] : List (Nat × Array Value × TypeId)) → v1.ownBlock ≠ some y.1 := fun y hy => (hK5 y.1 (by simp; have := hlt4 y hy; omega) (hNa y hy)).2
    exact ⟨fun e => hk (gp, #[.int .i64 k1, .int .i64 o1, .string n1, .string t1, .slice a1 F1.len c1], 24) (by repeat (first | exact List.Mem.head _ | refine List.Mem.tail _ ?_)) (by rw [hg, e]), fun e => hk (gf, #[.string x.m, .string x.p, .slice x.a1 x.cl.length x.c1, .slice x.a2 x.ce.length x.c2], 27) (by repeat (first | exact List.Mem.head _ | refine List.Mem.tail _ ?_)) (by rw [hg, e]), fun e => hk _ (List.Mem.head _) (by rw [hg, e])⟩
  have hO6 := own_same (w' := w6) hO5 (fun g hg => hsm6 g (hn1 g hg).2.2)
  clear hRa ho0 hNa hlt4 hK5 hsm6 hO5 hR5
  have hB1 : w.heap.size ≤ w6.heap.size := hR6.len
  have hRa := hR6.alloc0 (.cells #[] 45)
  have ho0 := own_empty (B := w.heap.size) (w := w6) hB1
  have hlt6 : ∀ y ∈ ([(gg, #[.string x.m, .string x.p, v1, .slice x.a2 x.ce.length x.c2], 27), (gf, #[.string x.m, .string x.p, .slice x.a1 x.cl.length x.c1, .slice x.a2 x.ce.length x.c2], 27), (gp, #[.int .i64 k1, .int .i64 o1, .string n1, .string t1, .slice a1 F1.len c1], 24)] : List (Nat × Array Value × TypeId)), y.1 < w6.heap.size := fun y hy => hR6.lt hy
  have hNa : ∀ y ∈ ([(gg, #[.string x.m, .string x.p, v1, .slice x.a2 x.ce.length x.c2], 27), (gf, #[.string x.m, .string x.p, .slice x.a1 x.cl.length x.c1, .slice x.a2 x.ce.length x.c2], 27), (gp, #[.int .i64 k1, .int .i64 o1, .string n1, .string t1, .slice a1 F1.len c1], 24)] : List (Nat × Array Value × TypeId)), (Value.slice (some ⟨w6.heap.size, 0, none⟩) 0 0).ownBlock ≠ some y.1 := fun y hy e => by
    have := hlt6 y hy; have := Option.some.inj e; simp only at this; omega
  have hO7 := hO6.alloc (.cells #[] 45)
  have hV6 : ∀ g, v1.ownBlock = some g → g < w6.heap.size := fun g hg => (hO6.lt g hg).2
  clear hR6 hO6
  go_upto_region 4 with (first
    | (refine wR_loadc (g := gf) (k := 3) rfl (by rfl) hRa (by rfl) (by repeat (first | exact List.Mem.head _ | refine List.Mem.tail _ ?_)) rfl isAgg_facts ?_)
    | (refine wp_app rfl _ _ (by rfl) (by rfl) (by rfl) hRa ho0 hNa hx.ce hz2 (by omega) ?_; intro v2 w7 y2 hR7 hO8 hF2 hK7)
    | (refine wB_storec (g := gg) (k := 3) rfl (by rfl) hR7 (by rfl) (by rfl) Pick.here (own_cell hO8).1 (by kernel_rfl) (by simp) (own_cell hO8).2 rfl ?_; intro w8 hR8 hsm8))
  rw [List.nil_append, Nat.zero_add] at hO8
  have hn2 : ∀ g, v2.ownBlock = some g → g ≠ gp ∧ g ≠ gf ∧ g ≠ gg := fun g hg => by
    have hk : ∀ y, y ∈ ([(gg, #[.string x.m, .string x.p, v1, .slice x.a2 x.ce.length x.c2], 27), (gf, #[.string x.m, .string x.p, .slice x.a1 x.cl.length x.c1, .slice x.a2 x.ce.length x.c2], 27), (gp, #[.int .i64 k1, .int .i64 o1, .string n1, .string t1, .slice a1 F1.len c1], 24)] : List (Nat × Array Value × TypeId)) → v2.ownBlock ≠ some y.1 := fun y hy => (hK7 y.1 (by simp; have := hlt6 y hy; omega) (hNa y hy)).2
    exact ⟨fun e => hk (gp, #[.int .i64 k1, .int .i64 o1, .string n1, .string t1, .slice a1 F1.len c1], 24) (by repeat (first | exact List.Mem.head _ | refine List.Mem.tail _ ?_)) (by rw [hg, e]), fun e => hk (gf, #[.string x.m, .string x.p, .slice x.a1 x.cl.length x.c1, .slice x.a2 x.ce.length x.c2], 27) (by repeat (first | exact List.Mem.head _ | refine List.Mem.tail _ ?_)) (by rw [hg, e]), fun e => hk _ (List.Mem.head _) (by rw [hg, e])⟩
  have hne : ∀ g, v1.ownBlock = some g → (Value.slice (some ⟨w6.heap.size, 0, none⟩) 0 0).ownBlock ≠ some g := fun g hg e => by
    have := hV6 g hg; have := Option.some.inj e; simp only at this; omega
  have hS0 : BS w w8 gp gf gg #[.int .i64 k1, .int .i64 o1, .string n1, .string t1, .slice a1 F1.len c1] #[.string x.m, .string x.p, .slice x.a1 x.cl.length x.c1, .slice x.a2 x.ce.length x.c2] x.m x.p v1 x.cl v2 x.ce := by
    refine ⟨hR8, ⟨y1, own_same (own_same hO7 (fun g hg => (hK7 g (by simp; have := hV6 g hg; omega) (hne g hg)).1)) (fun g hg => hsm8 g (hn1 g hg).2.2), hF1⟩, ⟨y2, own_same hO8 (fun g hg => hsm8 g (hn2 g hg).2.2), hF2⟩, hn1, hn2, fun g hg => (hK7 g (by simp; have := hV6 g hg; omega) (hne g hg)).2⟩
  have HS0 := Lib.hid hS0
  clear hRa ho0 hNa hlt6 hK7 hsm8 hO8 hO7 hR7 hR8 hS0 hn1 hn2 hne hV6 hB0 hB1 hF1 hF2
  obtain ⟨hle3, hcm3, b3, f3, had3, hrow3⟩ := hs3
  have HNM : Hid (∀ (q : Int) (nm : ByteArray) u, Below w.heap.size w u → Calls Tryz.prog 22 #[pv k1 o1 n1 t1 a1 F1.len c1, .int .i64 q, .string nm] u (RetB (namesP q nm k1 o1 n1 F1) u)) := Lib.hid (fun q nm u hb => names_any q nm F1 k1 o1 n1 t1 a1 c1 u (hs1.grown hb))
  have HHS : Hid (∀ (l : List Fact) ad c (nm : ByteArray) u, SlX w l ad c → Below w.heap.size w u → Calls Tryz.prog 23 #[.slice ad l.length c, .string nm] u (RetB (hasL l nm) u)) := Lib.hid (fun l ad c nm u hl hb => (hasl_any l ad c nm u (hl.below hb (Nat.le_refl _))).mono fun e w' ⟨h1, h2⟩ => ⟨h1, by rw [h2]; exact Below.refl _ _⟩)
  have HHD : Hid (∀ (y : Fx) u, Below w.heap.size w u → FxAt u y → Calls Tryz.prog 13 #[pv k1 o1 n1 t1 a1 F1.len c1, y.v] u (RetB (holdsP y k1 o1 n1 t1 F1) u)) := Lib.hid (fun y u hb hy => Holds_any k1 o1 n1 t1 F1 a1 c1 y u hn1' ht1 (hs1.grown hb) hy)
  have HX := Lib.hid hx
  have HROW := Lib.hid hrow3
  have HBL := Lib.hid (fun y h => holds_blind x y k1 o1 n1 t1 F1 h)
  have hxc : x.cl.length ≤ 600000 ∧ x.ce.length ≤ 600000 := ⟨by omega, by omega⟩
  obtain ⟨L1, hL1⟩ : ∃ L1, L1 = F1.len := ⟨_, rfl⟩
  rw [← hL1] at HNM HHD HS0
  obtain ⟨L3, hL3⟩ : ∃ L3, L3 = l3.length := ⟨_, rfl⟩
  rw [← hL1, ← hL3]
  have HL3 := Lib.hid hL3
  have hLm : L3 ≤ 600000 := by omega
  have hAD : Hid (a3 = some ⟨b3, f3, none⟩ ∨ L3 = 0) := Lib.hid (by rcases had3 with h | ⟨_, h⟩; exact Or.inl h; exact Or.inr (by omega))
  clear hs1 hx hrow3 hn1' ht1 hxb hb3 hle3 hcm3 had3 hL1 hL3 hz1 hz2
  go_upto_region 5 with fail
  go_loopg [8] L3 (fun g8 s8 wr => ∃ (kk : Nat) (v1 v2 : Value), kk ≤ L3 ∧ g8 = L3 - kk ∧ s8 = .int .i64 kk ∧ Aside (BS w wr gp gf gg #[.int .i64 k1, .int .i64 o1, .string n1, .string t1, .slice a1 L1 c1] #[.string x.m, .string x.p, .slice x.a1 x.cl.length x.c1, .slice x.a2 x.ce.length x.c2] x.m x.p v1 (x.cl ++ pkd 2 k1 o1 n1 F1 x.cl (l3.take kk)) v2 (x.ce ++ pkd 3 k1 o1 n1 F1 x.ce (l3.take kk))))
  case atStart => exact ⟨0, v1, v2, Nat.zero_le _, rfl, rfl, (by have := HS0.out; rw [show x.cl ++ pkd 2 k1 o1 n1 F1 x.cl (l3.take 0) = x.cl by simp [pkd], show x.ce ++ pkd 3 k1 o1 n1 F1 x.ce (l3.take 0) = x.ce by simp [pkd]]; exact this)⟩
  case round =>
    obtain ⟨kk, u1, u2, hkL, rfl, rfl, HS⟩ := hrel
    clear HS0
    have hlp1 := pkd_len 2 k1 o1 n1 F1 x.cl (l3.take kk)
    have hlp2 := pkd_len 3 k1 o1 n1 F1 x.ce (l3.take kk)
    have hlt : (l3.take kk).length ≤ L3 := by rw [HL3.out, List.length_take]; omega
    by_cases hkl : kk < L3
    · have hltz : (kk : Int) < (L3 : Int) := by omega
      obtain ⟨ft, hft⟩ : ∃ ft, l3[kk]? = some ft := ⟨_, List.getElem?_eq_getElem (by rw [← HL3.out]; exact hkl)⟩
      obtain ⟨nf, tf⟩ := ft
      obtain ⟨af, cf, r0, r1, rs⟩ := HROW.out.get hft
      obtain rfl : a3 = some ⟨b3, f3, none⟩ := by rcases hAD.out with h | h; exact h; omega
      have e1 := pkd_step (q := 2) (k := k1) (o := o1) (n := n1) (F := F1) (l := x.cl) hft
      have e2 := pkd_step (q := 3) (k := k1) (o := o1) (n := n1) (F := F1) (l := x.ce) hft
      obtain ⟨q1, hq1⟩ : ∃ q1, q1 = x.cl ++ pkd 2 k1 o1 n1 F1 x.cl (l3.take (kk + 1)) := ⟨_, rfl⟩
      obtain ⟨q2, hq2⟩ : ∃ q2, q2 = x.ce ++ pkd 3 k1 o1 n1 F1 x.ce (l3.take (kk + 1)) := ⟨_, rfl⟩
      have HQ1 := Lib.hid hq1
      have HQ2 := Lib.hid hq2
      rw [e1, ← List.append_assoc] at hq1
      rw [e2, ← List.append_assoc] at hq2
      have hln1 : (x.cl ++ pkd 2 k1 o1 n1 F1 x.cl (l3.take kk)).length + 1 ≤ 3000000 := by rw [List.length_append]; omega
      have hln2 : (x.ce ++ pkd 3 k1 o1 n1 F1 x.ce (l3.take kk)).length + 1 ≤ 3000000 := by rw [List.length_append]; omega
      generalize x.cl ++ pkd 2 k1 o1 n1 F1 x.cl (l3.take kk) = m1 at *
      generalize x.ce ++ pkd 3 k1 o1 n1 F1 x.ce (l3.take kk) = m2 at *
      have HN1 : Hid (∀ u, Below w.heap.size w u → Calls Tryz.prog 22 #[pv k1 o1 n1 t1 a1 L1 c1, .int .i64 2, .string nf] u (RetB (namesP 2 nf k1 o1 n1 F1) u)) := Lib.hid (fun u hb => HNM.out 2 nf u hb)
      have HN2 : Hid (∀ u, Below w.heap.size w u → Calls Tryz.prog 22 #[pv k1 o1 n1 t1 a1 L1 c1, .int .i64 3, .string nf] u (RetB (namesP 3 nf k1 o1 n1 F1) u)) := Lib.hid (fun u hb => HNM.out 3 nf u hb)
      have HH1 : Hid (∀ u, Below w.heap.size w u → Calls Tryz.prog 23 #[.slice x.a1 x.cl.length x.c1, .string nf] u (RetB (hasL x.cl nf) u)) := Lib.hid (fun u hb => HHS.out x.cl x.a1 x.c1 nf u HX.out.cl hb)
      have HH2 : Hid (∀ u, Below w.heap.size w u → Calls Tryz.prog 23 #[.slice x.a2 x.ce.length x.c2, .string nf] u (RetB (hasL x.ce nf) u)) := Lib.hid (fun u hb => HHS.out x.ce x.a2 x.c2 nf u HX.out.ce hb)
      simp only at hq1 hq2 rs r0 r1
      generalize namesP 2 nf k1 o1 n1 F1 = nb1 at *
      generalize namesP 3 nf k1 o1 n1 F1 = nb2 at *
      generalize hasL x.cl nf = hb1 at *
      generalize hasL x.ce nf = hb2 at *
      have HP1 := Lib.hid hq1
      have HP2 := Lib.hid hq2
      have HSF := Lib.hid rs
      have HR0 : Hid (∀ u, Below w.heap.size w u → u.cell? ⟨b3, f3 + kk * 2, none⟩ = some (.string nf)) := Lib.hid (fun u hb => (hb.cell (p := ⟨b3, f3 + kk * 2, none⟩) (World.block_lt_of_cell? w _ r0)).trans r0)
      have HR1 : Hid (∀ u, Below w.heap.size w u → u.cell? ⟨b3, f3 + kk * 2 + 1, none⟩ = some (.slice af tf.length cf)) := Lib.hid (fun u hb => (hb.cell (p := ⟨b3, f3 + kk * 2 + 1, none⟩) (World.block_lt_of_cell? w _ r1)).trans r1)
      clear e1 e2 hq1 hq2 rs r0 r1 hft HNM HHS HROW HHD HBL hlp1 hlp2 hlt
      go_upto_region 7 with fail
      go_cut [51] (fun s51 wx => s51 = .bool (nb1 == hb1 || hb1) ∧ Aside (Below wr.heap.size wr wx))
      case first =>
        have hRw := HS.out.R
        have hbw := hRw.below
        have HF1 : Hid (∀ u, Below wr.heap.size wr u → u.cell? ⟨gf, 2, none⟩ = some (.slice x.a1 x.cl.length x.c1)) := Lib.hid (fun u hb => (hRw.call hb).cellAt (g := gf) (by repeat (first | exact List.Mem.head _ | refine List.Mem.tail _ ?_)) 2 rfl)
        have HNF : Hid (∀ u, Below wr.heap.size wr u → u.cell? ⟨b3, f3 + kk * 2, none⟩ = some (.string nf)) := Lib.hid (fun u hb => HR0.out u (hbw.trans (hb.mono hbw.size)))
        have DN : Hid (∀ w1 v u, AtW wr (pv k1 o1 n1 t1 a1 L1 c1) w1 v → Is (.string nf) w1 u → Calls Tryz.prog 22 #[v, .int .i64 2, u] w1 (RW (Is (.bool nb1)) w1)) := Lib.hid fun w1 v u ⟨h1, hb⟩ h2 => by subst h1; subst h2; exact (HN1.out w1 (hbw.trans (hb.mono hbw.size))).mono fun _ _ h => rw_b h
        have DS : Hid (∀ w1 v u, AtW wr (.slice x.a1 x.cl.length x.c1) w1 v → Is (.string nf) w1 u → Calls Tryz.prog 23 #[v, u] w1 (RW (Is (.bool hb1)) w1)) := Lib.hid fun w1 v u ⟨h1, hb⟩ h2 => by subst h1; subst h2; exact (HH1.out w1 (hbw.trans (hb.mono hbw.size))).mono fun _ _ h => rw_b h
        clear HN1 HN2 HH1 HH2 HP1 HP2 HR0 HR1 hln1 hln2 hbw HX HS
        cases nb1 <;> cases hb1
        · skip
          refine wp_region_softG 25 (by kernel_rfl) (by kernel_rfl) (by rfl) hRw ?_
          refine g_ldw (g := gp) (cs := #[.int .i64 k1, .int .i64 o1, .string n1, .string t1, .slice a1 L1 c1]) (R := AtW wr (pv k1 o1 n1 t1 a1 L1 c1)) (by rfl) (by exact fun _ _ _ h => h) (by repeat (first | exact List.Mem.head _ | refine List.Mem.tail _ ?_)) Tryz.underlying24 rfl pol_inf (stb_atw wr _) (by exact fun _ hb => ⟨rfl, hb⟩) ?_
          refine g_move (R := Is (.slice (some ⟨b3, f3, none⟩) L3 c3)) (by rfl) (stb_is _) (by exact fun _ _ _ h => h) ?_
          refine g_move (R := Is (.int .i64 (kk : Int))) (by rfl) (stb_is _) (by exact fun _ _ _ h => h) ?_
          refine g_ixf (b := b3) (f := f3) (len := L3) (c := c3) (i := kk) (by rfl) (by exact fun _ _ _ h => h) (by exact fun _ _ _ h => h) hkl ?_
          refine g_fa (g := b3) (k := f3 + kk * 2) (off := f3 + kk * 2) (by rfl) (by exact fun _ _ _ h => h) Tryz.underlying45 rfl ⟨0, by kernel_rfl⟩ rfl ?_
          refine g_cellw (g := b3) (k := f3 + kk * 2) (v := .string nf) (R := Is (.string nf)) (by rfl) (by exact fun _ _ _ h => h) (HNF.out) isAgg_str (stb_is _) (by exact fun _ _ => rfl) ?_
          refine g_call3c (f := 22) (A := AtW wr (pv k1 o1 n1 t1 a1 L1 c1)) (A' := Is (.string nf)) (R := Is (.bool false)) (by rfl) Tryz.func22 (by kernel_rfl) rfl (stb_is _) (by exact fun _ _ _ h => h) (by exact fun _ _ _ h => h) DN.out ?_
          refine g_fa (g := gf) (k := 0) (off := 2) (by rfl) (by exact fun _ _ _ h => h) Tryz.underlying27 rfl ⟨0, by kernel_rfl⟩ rfl ?_
          refine g_cellw (g := gf) (k := 2) (v := .slice x.a1 x.cl.length x.c1) (R := AtW wr (.slice x.a1 x.cl.length x.c1)) (by rfl) (by exact fun _ _ _ h => h) (HF1.out) isAgg_facts (stb_atw wr _) (by exact fun _ hb => ⟨rfl, hb⟩) ?_
          refine g_move (R := Is (.slice (some ⟨b3, f3, none⟩) L3 c3)) (by rfl) (stb_is _) (by exact fun _ _ _ h => h) ?_
          refine g_move (R := Is (.int .i64 (kk : Int))) (by rfl) (stb_is _) (by exact fun _ _ _ h => h) ?_
          refine g_ixf (b := b3) (f := f3) (len := L3) (c := c3) (i := kk) (by rfl) (by exact fun _ _ _ h => h) (by exact fun _ _ _ h => h) hkl ?_
          refine g_fa (g := b3) (k := f3 + kk * 2) (off := f3 + kk * 2) (by rfl) (by exact fun _ _ _ h => h) Tryz.underlying45 rfl ⟨0, by kernel_rfl⟩ rfl ?_
          refine g_cellw (g := b3) (k := f3 + kk * 2) (v := .string nf) (R := Is (.string nf)) (by rfl) (by exact fun _ _ _ h => h) (HNF.out) isAgg_str (stb_is _) (by exact fun _ _ => rfl) ?_
          refine g_call2 (A := AtW wr (.slice x.a1 x.cl.length x.c1)) (A' := Is (.string nf)) (R := Is (.bool false)) (by rfl) Tryz.func23 (by kernel_rfl) rfl (stb_is _) (by exact fun _ _ _ h => h) (by exact fun _ _ _ h => h) DS.out ?_
          refine g_bin (v := .bool false) (u := .bool false) (r := .bool true) (by rfl) (by exact fun _ _ _ h => h) (by exact fun _ _ _ h => h) (by rfl) (fun _ => rfl) ?_
          refine g_move (R := Is (.bool true)) (by rfl) (stb_is _) (by exact fun _ _ _ h => h) ?_
          refine g_dead (dead_of rfl rfl (fun _ _ _ h => h) (by rfl)) ?_
          refine g_dead (dead_of rfl rfl (fun _ _ _ h => h) (by rfl)) ?_
          refine g_dead (dead_of rfl rfl (fun _ _ _ h => h) (by rfl)) ?_
          refine g_dead (dead_of rfl rfl (fun _ _ _ h => h) (by rfl)) ?_
          refine g_dead (dead_of rfl rfl (fun _ _ _ h => h) (by rfl)) ?_
          refine g_dead (dead_of rfl rfl (fun _ _ _ h => h) (by rfl)) ?_
          refine g_dead (dead_of rfl rfl (fun _ _ _ h => h) (by rfl)) ?_
          refine g_dead (dead_of rfl rfl (fun _ _ _ h => h) (by rfl)) ?_
          intro w6 hR6 hb6 v26 h26 v27 h27 v28 h28 v29 h29 v30 h30 v31 h31 v32 h32 v33 h33 v34 h34 v35 h35 v36 h36 v37 h37 v38 h38 v39 h39 v40 h40 v41 h41 v42 h42 v43 h43 v44 h44 v45 h45 v46 h46 v47 h47 v48 h48 v49 h49 v50 h50
          simp only [softEnd, Act.put, List.setIfInBounds_toArray, List.set_cons_succ, List.set_cons_zero, List.drop_succ_cons, List.drop_zero]
          obtain rfl : v42 = .bool true := h42
          obtain rfl : v50 = undef := h50
          clear h26 h27 h28 h29 h30 h31 h32 h33 h34 h35 h36 h37 h38 h39 h40 h41 h43 h44 h45 h46 h47 h48 h49
          go_wp2_with fail
          go_meet
          exact ⟨rfl, hb6⟩
        · skip
          refine wp_region_softG 25 (by kernel_rfl) (by kernel_rfl) (by rfl) hRw ?_
          refine g_ldw (g := gp) (cs := #[.int .i64 k1, .int .i64 o1, .string n1, .string t1, .slice a1 L1 c1]) (R := AtW wr (pv k1 o1 n1 t1 a1 L1 c1)) (by rfl) (by exact fun _ _ _ h => h) (by repeat (first | exact List.Mem.head _ | refine List.Mem.tail _ ?_)) Tryz.underlying24 rfl pol_inf (stb_atw wr _) (by exact fun _ hb => ⟨rfl, hb⟩) ?_
          refine g_move (R := Is (.slice (some ⟨b3, f3, none⟩) L3 c3)) (by rfl) (stb_is _) (by exact fun _ _ _ h => h) ?_
          refine g_move (R := Is (.int .i64 (kk : Int))) (by rfl) (stb_is _) (by exact fun _ _ _ h => h) ?_
          refine g_ixf (b := b3) (f := f3) (len := L3) (c := c3) (i := kk) (by rfl) (by exact fun _ _ _ h => h) (by exact fun _ _ _ h => h) hkl ?_
          refine g_fa (g := b3) (k := f3 + kk * 2) (off := f3 + kk * 2) (by rfl) (by exact fun _ _ _ h => h) Tryz.underlying45 rfl ⟨0, by kernel_rfl⟩ rfl ?_
          refine g_cellw (g := b3) (k := f3 + kk * 2) (v := .string nf) (R := Is (.string nf)) (by rfl) (by exact fun _ _ _ h => h) (HNF.out) isAgg_str (stb_is _) (by exact fun _ _ => rfl) ?_
          refine g_call3c (f := 22) (A := AtW wr (pv k1 o1 n1 t1 a1 L1 c1)) (A' := Is (.string nf)) (R := Is (.bool false)) (by rfl) Tryz.func22 (by kernel_rfl) rfl (stb_is _) (by exact fun _ _ _ h => h) (by exact fun _ _ _ h => h) DN.out ?_
          refine g_fa (g := gf) (k := 0) (off := 2) (by rfl) (by exact fun _ _ _ h => h) Tryz.underlying27 rfl ⟨0, by kernel_rfl⟩ rfl ?_
          refine g_cellw (g := gf) (k := 2) (v := .slice x.a1 x.cl.length x.c1) (R := AtW wr (.slice x.a1 x.cl.length x.c1)) (by rfl) (by exact fun _ _ _ h => h) (HF1.out) isAgg_facts (stb_atw wr _) (by exact fun _ hb => ⟨rfl, hb⟩) ?_
          refine g_move (R := Is (.slice (some ⟨b3, f3, none⟩) L3 c3)) (by rfl) (stb_is _) (by exact fun _ _ _ h => h) ?_
          refine g_move (R := Is (.int .i64 (kk : Int))) (by rfl) (stb_is _) (by exact fun _ _ _ h => h) ?_
          refine g_ixf (b := b3) (f := f3) (len := L3) (c := c3) (i := kk) (by rfl) (by exact fun _ _ _ h => h) (by exact fun _ _ _ h => h) hkl ?_
          refine g_fa (g := b3) (k := f3 + kk * 2) (off := f3 + kk * 2) (by rfl) (by exact fun _ _ _ h => h) Tryz.underlying45 rfl ⟨0, by kernel_rfl⟩ rfl ?_
          refine g_cellw (g := b3) (k := f3 + kk * 2) (v := .string nf) (R := Is (.string nf)) (by rfl) (by exact fun _ _ _ h => h) (HNF.out) isAgg_str (stb_is _) (by exact fun _ _ => rfl) ?_
          refine g_call2 (A := AtW wr (.slice x.a1 x.cl.length x.c1)) (A' := Is (.string nf)) (R := Is (.bool true)) (by rfl) Tryz.func23 (by kernel_rfl) rfl (stb_is _) (by exact fun _ _ _ h => h) (by exact fun _ _ _ h => h) DS.out ?_
          refine g_bin (v := .bool false) (u := .bool true) (r := .bool false) (by rfl) (by exact fun _ _ _ h => h) (by exact fun _ _ _ h => h) (by rfl) (fun _ => rfl) ?_
          refine g_move (R := Is (.bool false)) (by rfl) (stb_is _) (by exact fun _ _ _ h => h) ?_
          refine g_fa (g := gf) (k := 0) (off := 2) (by rfl) (by exact fun _ _ _ h => h) Tryz.underlying27 rfl ⟨0, by kernel_rfl⟩ rfl ?_
          refine g_cellw (g := gf) (k := 2) (v := .slice x.a1 x.cl.length x.c1) (R := AtW wr (.slice x.a1 x.cl.length x.c1)) (by rfl) (by exact fun _ _ _ h => h) (HF1.out) isAgg_facts (stb_atw wr _) (by exact fun _ hb => ⟨rfl, hb⟩) ?_
          refine g_move (R := Is (.slice (some ⟨b3, f3, none⟩) L3 c3)) (by rfl) (stb_is _) (by exact fun _ _ _ h => h) ?_
          refine g_move (R := Is (.int .i64 (kk : Int))) (by rfl) (stb_is _) (by exact fun _ _ _ h => h) ?_
          refine g_ixf (b := b3) (f := f3) (len := L3) (c := c3) (i := kk) (by rfl) (by exact fun _ _ _ h => h) (by exact fun _ _ _ h => h) hkl ?_
          refine g_fa (g := b3) (k := f3 + kk * 2) (off := f3 + kk * 2) (by rfl) (by exact fun _ _ _ h => h) Tryz.underlying45 rfl ⟨0, by kernel_rfl⟩ rfl ?_
          refine g_cellw (g := b3) (k := f3 + kk * 2) (v := .string nf) (R := Is (.string nf)) (by rfl) (by exact fun _ _ _ h => h) (HNF.out) isAgg_str (stb_is _) (by exact fun _ _ => rfl) ?_
          refine g_call2 (A := AtW wr (.slice x.a1 x.cl.length x.c1)) (A' := Is (.string nf)) (R := Is (.bool true)) (by rfl) Tryz.func23 (by kernel_rfl) rfl (stb_is _) (by exact fun _ _ _ h => h) (by exact fun _ _ _ h => h) DS.out ?_
          intro w6 hR6 hb6 v26 h26 v27 h27 v28 h28 v29 h29 v30 h30 v31 h31 v32 h32 v33 h33 v34 h34 v35 h35 v36 h36 v37 h37 v38 h38 v39 h39 v40 h40 v41 h41 v42 h42 v43 h43 v44 h44 v45 h45 v46 h46 v47 h47 v48 h48 v49 h49 v50 h50
          simp only [softEnd, Act.put, List.setIfInBounds_toArray, List.set_cons_succ, List.set_cons_zero, List.drop_succ_cons, List.drop_zero]
          obtain rfl : v42 = .bool false := h42
          obtain rfl : v50 = .bool true := h50
          clear h26 h27 h28 h29 h30 h31 h32 h33 h34 h35 h36 h37 h38 h39 h40 h41 h43 h44 h45 h46 h47 h48 h49
          go_wp2_with fail
          go_meet
          exact ⟨rfl, hb6⟩
        · skip
          refine wp_region_softG 25 (by kernel_rfl) (by kernel_rfl) (by rfl) hRw ?_
          refine g_ldw (g := gp) (cs := #[.int .i64 k1, .int .i64 o1, .string n1, .string t1, .slice a1 L1 c1]) (R := AtW wr (pv k1 o1 n1 t1 a1 L1 c1)) (by rfl) (by exact fun _ _ _ h => h) (by repeat (first | exact List.Mem.head _ | refine List.Mem.tail _ ?_)) Tryz.underlying24 rfl pol_inf (stb_atw wr _) (by exact fun _ hb => ⟨rfl, hb⟩) ?_
          refine g_move (R := Is (.slice (some ⟨b3, f3, none⟩) L3 c3)) (by rfl) (stb_is _) (by exact fun _ _ _ h => h) ?_
          refine g_move (R := Is (.int .i64 (kk : Int))) (by rfl) (stb_is _) (by exact fun _ _ _ h => h) ?_
          refine g_ixf (b := b3) (f := f3) (len := L3) (c := c3) (i := kk) (by rfl) (by exact fun _ _ _ h => h) (by exact fun _ _ _ h => h) hkl ?_
          refine g_fa (g := b3) (k := f3 + kk * 2) (off := f3 + kk * 2) (by rfl) (by exact fun _ _ _ h => h) Tryz.underlying45 rfl ⟨0, by kernel_rfl⟩ rfl ?_
          refine g_cellw (g := b3) (k := f3 + kk * 2) (v := .string nf) (R := Is (.string nf)) (by rfl) (by exact fun _ _ _ h => h) (HNF.out) isAgg_str (stb_is _) (by exact fun _ _ => rfl) ?_
          refine g_call3c (f := 22) (A := AtW wr (pv k1 o1 n1 t1 a1 L1 c1)) (A' := Is (.string nf)) (R := Is (.bool true)) (by rfl) Tryz.func22 (by kernel_rfl) rfl (stb_is _) (by exact fun _ _ _ h => h) (by exact fun _ _ _ h => h) DN.out ?_
          refine g_fa (g := gf) (k := 0) (off := 2) (by rfl) (by exact fun _ _ _ h => h) Tryz.underlying27 rfl ⟨0, by kernel_rfl⟩ rfl ?_
          refine g_cellw (g := gf) (k := 2) (v := .slice x.a1 x.cl.length x.c1) (R := AtW wr (.slice x.a1 x.cl.length x.c1)) (by rfl) (by exact fun _ _ _ h => h) (HF1.out) isAgg_facts (stb_atw wr _) (by exact fun _ hb => ⟨rfl, hb⟩) ?_
          refine g_move (R := Is (.slice (some ⟨b3, f3, none⟩) L3 c3)) (by rfl) (stb_is _) (by exact fun _ _ _ h => h) ?_
          refine g_move (R := Is (.int .i64 (kk : Int))) (by rfl) (stb_is _) (by exact fun _ _ _ h => h) ?_
          refine g_ixf (b := b3) (f := f3) (len := L3) (c := c3) (i := kk) (by rfl) (by exact fun _ _ _ h => h) (by exact fun _ _ _ h => h) hkl ?_
          refine g_fa (g := b3) (k := f3 + kk * 2) (off := f3 + kk * 2) (by rfl) (by exact fun _ _ _ h => h) Tryz.underlying45 rfl ⟨0, by kernel_rfl⟩ rfl ?_
          refine g_cellw (g := b3) (k := f3 + kk * 2) (v := .string nf) (R := Is (.string nf)) (by rfl) (by exact fun _ _ _ h => h) (HNF.out) isAgg_str (stb_is _) (by exact fun _ _ => rfl) ?_
          refine g_call2 (A := AtW wr (.slice x.a1 x.cl.length x.c1)) (A' := Is (.string nf)) (R := Is (.bool false)) (by rfl) Tryz.func23 (by kernel_rfl) rfl (stb_is _) (by exact fun _ _ _ h => h) (by exact fun _ _ _ h => h) DS.out ?_
          refine g_bin (v := .bool true) (u := .bool false) (r := .bool false) (by rfl) (by exact fun _ _ _ h => h) (by exact fun _ _ _ h => h) (by rfl) (fun _ => rfl) ?_
          refine g_move (R := Is (.bool false)) (by rfl) (stb_is _) (by exact fun _ _ _ h => h) ?_
          refine g_fa (g := gf) (k := 0) (off := 2) (by rfl) (by exact fun _ _ _ h => h) Tryz.underlying27 rfl ⟨0, by kernel_rfl⟩ rfl ?_
          refine g_cellw (g := gf) (k := 2) (v := .slice x.a1 x.cl.length x.c1) (R := AtW wr (.slice x.a1 x.cl.length x.c1)) (by rfl) (by exact fun _ _ _ h => h) (HF1.out) isAgg_facts (stb_atw wr _) (by exact fun _ hb => ⟨rfl, hb⟩) ?_
          refine g_move (R := Is (.slice (some ⟨b3, f3, none⟩) L3 c3)) (by rfl) (stb_is _) (by exact fun _ _ _ h => h) ?_
          refine g_move (R := Is (.int .i64 (kk : Int))) (by rfl) (stb_is _) (by exact fun _ _ _ h => h) ?_
          refine g_ixf (b := b3) (f := f3) (len := L3) (c := c3) (i := kk) (by rfl) (by exact fun _ _ _ h => h) (by exact fun _ _ _ h => h) hkl ?_
          refine g_fa (g := b3) (k := f3 + kk * 2) (off := f3 + kk * 2) (by rfl) (by exact fun _ _ _ h => h) Tryz.underlying45 rfl ⟨0, by kernel_rfl⟩ rfl ?_
          refine g_cellw (g := b3) (k := f3 + kk * 2) (v := .string nf) (R := Is (.string nf)) (by rfl) (by exact fun _ _ _ h => h) (HNF.out) isAgg_str (stb_is _) (by exact fun _ _ => rfl) ?_
          refine g_call2 (A := AtW wr (.slice x.a1 x.cl.length x.c1)) (A' := Is (.string nf)) (R := Is (.bool false)) (by rfl) Tryz.func23 (by kernel_rfl) rfl (stb_is _) (by exact fun _ _ _ h => h) (by exact fun _ _ _ h => h) DS.out ?_
          intro w6 hR6 hb6 v26 h26 v27 h27 v28 h28 v29 h29 v30 h30 v31 h31 v32 h32 v33 h33 v34 h34 v35 h35 v36 h36 v37 h37 v38 h38 v39 h39 v40 h40 v41 h41 v42 h42 v43 h43 v44 h44 v45 h45 v46 h46 v47 h47 v48 h48 v49 h49 v50 h50
          simp only [softEnd, Act.put, List.setIfInBounds_toArray, List.set_cons_succ, List.set_cons_zero, List.drop_succ_cons, List.drop_zero]
          obtain rfl : v42 = .bool false := h42
          obtain rfl : v50 = .bool false := h50
          clear h26 h27 h28 h29 h30 h31 h32 h33 h34 h35 h36 h37 h38 h39 h40 h41 h43 h44 h45 h46 h47 h48 h49
          go_wp2_with fail
          go_meet
          exact ⟨rfl, hb6⟩
        · skip
          refine wp_region_softG 25 (by kernel_rfl) (by kernel_rfl) (by rfl) hRw ?_
          refine g_ldw (g := gp) (cs := #[.int .i64 k1, .int .i64 o1, .string n1, .string t1, .slice a1 L1 c1]) (R := AtW wr (pv k1 o1 n1 t1 a1 L1 c1)) (by rfl) (by exact fun _ _ _ h => h) (by repeat (first | exact List.Mem.head _ | refine List.Mem.tail _ ?_)) Tryz.underlying24 rfl pol_inf (stb_atw wr _) (by exact fun _ hb => ⟨rfl, hb⟩) ?_
          refine g_move (R := Is (.slice (some ⟨b3, f3, none⟩) L3 c3)) (by rfl) (stb_is _) (by exact fun _ _ _ h => h) ?_
          refine g_move (R := Is (.int .i64 (kk : Int))) (by rfl) (stb_is _) (by exact fun _ _ _ h => h) ?_
          refine g_ixf (b := b3) (f := f3) (len := L3) (c := c3) (i := kk) (by rfl) (by exact fun _ _ _ h => h) (by exact fun _ _ _ h => h) hkl ?_
          refine g_fa (g := b3) (k := f3 + kk * 2) (off := f3 + kk * 2) (by rfl) (by exact fun _ _ _ h => h) Tryz.underlying45 rfl ⟨0, by kernel_rfl⟩ rfl ?_
          refine g_cellw (g := b3) (k := f3 + kk * 2) (v := .string nf) (R := Is (.string nf)) (by rfl) (by exact fun _ _ _ h => h) (HNF.out) isAgg_str (stb_is _) (by exact fun _ _ => rfl) ?_
          refine g_call3c (f := 22) (A := AtW wr (pv k1 o1 n1 t1 a1 L1 c1)) (A' := Is (.string nf)) (R := Is (.bool true)) (by rfl) Tryz.func22 (by kernel_rfl) rfl (stb_is _) (by exact fun _ _ _ h => h) (by exact fun _ _ _ h => h) DN.out ?_
          refine g_fa (g := gf) (k := 0) (off := 2) (by rfl) (by exact fun _ _ _ h => h) Tryz.underlying27 rfl ⟨0, by kernel_rfl⟩ rfl ?_
          refine g_cellw (g := gf) (k := 2) (v := .slice x.a1 x.cl.length x.c1) (R := AtW wr (.slice x.a1 x.cl.length x.c1)) (by rfl) (by exact fun _ _ _ h => h) (HF1.out) isAgg_facts (stb_atw wr _) (by exact fun _ hb => ⟨rfl, hb⟩) ?_
          refine g_move (R := Is (.slice (some ⟨b3, f3, none⟩) L3 c3)) (by rfl) (stb_is _) (by exact fun _ _ _ h => h) ?_
          refine g_move (R := Is (.int .i64 (kk : Int))) (by rfl) (stb_is _) (by exact fun _ _ _ h => h) ?_
          refine g_ixf (b := b3) (f := f3) (len := L3) (c := c3) (i := kk) (by rfl) (by exact fun _ _ _ h => h) (by exact fun _ _ _ h => h) hkl ?_
          refine g_fa (g := b3) (k := f3 + kk * 2) (off := f3 + kk * 2) (by rfl) (by exact fun _ _ _ h => h) Tryz.underlying45 rfl ⟨0, by kernel_rfl⟩ rfl ?_
          refine g_cellw (g := b3) (k := f3 + kk * 2) (v := .string nf) (R := Is (.string nf)) (by rfl) (by exact fun _ _ _ h => h) (HNF.out) isAgg_str (stb_is _) (by exact fun _ _ => rfl) ?_
          refine g_call2 (A := AtW wr (.slice x.a1 x.cl.length x.c1)) (A' := Is (.string nf)) (R := Is (.bool true)) (by rfl) Tryz.func23 (by kernel_rfl) rfl (stb_is _) (by exact fun _ _ _ h => h) (by exact fun _ _ _ h => h) DS.out ?_
          refine g_bin (v := .bool true) (u := .bool true) (r := .bool true) (by rfl) (by exact fun _ _ _ h => h) (by exact fun _ _ _ h => h) (by rfl) (fun _ => rfl) ?_
          refine g_move (R := Is (.bool true)) (by rfl) (stb_is _) (by exact fun _ _ _ h => h) ?_
          refine g_dead (dead_of rfl rfl (fun _ _ _ h => h) (by rfl)) ?_
          refine g_dead (dead_of rfl rfl (fun _ _ _ h => h) (by rfl)) ?_
          refine g_dead (dead_of rfl rfl (fun _ _ _ h => h) (by rfl)) ?_
          refine g_dead (dead_of rfl rfl (fun _ _ _ h => h) (by rfl)) ?_
          refine g_dead (dead_of rfl rfl (fun _ _ _ h => h) (by rfl)) ?_
          refine g_dead (dead_of rfl rfl (fun _ _ _ h => h) (by rfl)) ?_
          refine g_dead (dead_of rfl rfl (fun _ _ _ h => h) (by rfl)) ?_
          refine g_dead (dead_of rfl rfl (fun _ _ _ h => h) (by rfl)) ?_
          intro w6 hR6 hb6 v26 h26 v27 h27 v28 h28 v29 h29 v30 h30 v31 h31 v32 h32 v33 h33 v34 h34 v35 h35 v36 h36 v37 h37 v38 h38 v39 h39 v40 h40 v41 h41 v42 h42 v43 h43 v44 h44 v45 h45 v46 h46 v47 h47 v48 h48 v49 h49 v50 h50
          simp only [softEnd, Act.put, List.setIfInBounds_toArray, List.set_cons_succ, List.set_cons_zero, List.drop_succ_cons, List.drop_zero]
          obtain rfl : v42 = .bool true := h42
          obtain rfl : v50 = undef := h50
          clear h26 h27 h28 h29 h30 h31 h32 h33 h34 h35 h36 h37 h38 h39 h40 h41 h43 h44 h45 h46 h47 h48 h49
          go_wp2_with fail
          go_meet
          exact ⟨rfl, hb6⟩
      case rest =>
      obtain ⟨rfl, HBB⟩ := hcut
      have HSb : Hid (BS w wc gp gf gg #[.int .i64 k1, .int .i64 o1, .string n1, .string t1, .slice a1 L1 c1] #[.string x.m, .string x.p, .slice x.a1 x.cl.length x.c1, .slice x.a2 x.ce.length x.c2] x.m x.p u1 m1 u2 m2) := Lib.hid (HS.out.below HBB.out)
      clear HS HBB
      generalize (nb1 == hb1 || hb1) = tk at *
      go_upto_if 51 with fail
      go_cut [] (fun wx => ∃ v', Aside (BS w wx gp gf gg #[.int .i64 k1, .int .i64 o1, .string n1, .string t1, .slice a1 L1 c1] #[.string x.m, .string x.p, .slice x.a1 x.cl.length x.c1, .slice x.a2 x.ce.length x.c2] x.m x.p v' q1 u2 m2))
      case first =>
        have hbw := HSb.out.R.below
        cases tk with
        | false =>
          have e : q1 = m1 := HP1.out.trans (by simp)
          have HE := Lib.hid e
          clear e hbw
          go_wp2_with fail
          go_meet
          refine ⟨u1, ?_⟩
          rw [HE.out]
          exact HSb.out
        | true =>
          have e : q1 = m1 ++ [(nf, tf)] := HP1.out
          have HE := Lib.hid e
          have e0 : wc.drew.cell? ⟨gg, 2, none⟩ = some u1 := HSb.out.R.cellAt (g := gg) (List.Mem.head _) 2 rfl
          have e1 : (wc.alloc (.cells #[.string nf, .slice af tf.length cf] 45)).cell? ⟨gg, 2, none⟩ = some u1 := (HSb.out.R.alloc0 _).cellAt (g := gg) (List.Mem.head _) 2 rfl
          have y0 : wc.drew.cell? ⟨b3, f3 + kk * 2, none⟩ = some (.string nf) := HR0.out _ hbw.drew
          have y1 : wc.drew.cell? ⟨b3, f3 + kk * 2 + 1, none⟩ = some (.slice af tf.length cf) := HR1.out _ hbw.drew
          have hbz : Below wc.heap.size wc wc.drew := (Below.refl _ wc).drew
          clear e hbw HN1 HN2 HH1 HH2 HP1 HP2 HR0 HR1 HX
          go_upto_region 8 with fail
          go_region_law (first
            | (refine step_b1 rfl _ _ (by rfl) (by rfl) (by rfl) HSb.out hbz nf HSF.out hln1 ?_; intro gl cap v' w7 hv hR7 hS7; subst hv; have HS7 := Lib.hid hS7; clear hS7; have f4 : w7.cell? ⟨gg, 2, none⟩ = some u1 := hR7.cellAt (g := gg) (List.Mem.head _) 2 rfl; have t4 : w7.frozen? ⟨gg, 2, none⟩ = false := hR7.thaw (g := gg) (List.Mem.head _) 2))
          all_goals
            go_wp2_with fail
            go_meet
            refine ⟨.slice (some ⟨gl, 0, none⟩) (m1.length + 1) cap, ?_⟩
            rw [HE.out]
            exact HS7.out
      case rest =>
      obtain ⟨x1, HS2⟩ := hcut
      have HS := HS2
      clear HSb HP1
      go_upto_region 9 with fail
      go_cut [86] (fun s51 wx => s51 = .bool (nb2 == hb2 || hb2) ∧ Aside (Below wc.heap.size wc wx))
      case first =>
        have hRw := HS.out.R
        have hbw := hRw.below
        have HF2 : Hid (∀ u, Below wc.heap.size wc u → u.cell? ⟨gf, 3, none⟩ = some (.slice x.a2 x.ce.length x.c2)) := Lib.hid (fun u hb => (hRw.call hb).cellAt (g := gf) (by repeat (first | exact List.Mem.head _ | refine List.Mem.tail _ ?_)) 3 rfl)
        have HNF : Hid (∀ u, Below wc.heap.size wc u → u.cell? ⟨b3, f3 + kk * 2, none⟩ = some (.string nf)) := Lib.hid (fun u hb => HR0.out u (hbw.trans (hb.mono hbw.size)))
        have DN : Hid (∀ w1 v u, AtW wc (pv k1 o1 n1 t1 a1 L1 c1) w1 v → Is (.string nf) w1 u → Calls Tryz.prog 22 #[v, .int .i64 3, u] w1 (RW (Is (.bool nb2)) w1)) := Lib.hid fun w1 v u ⟨h1, hb⟩ h2 => by subst h1; subst h2; exact (HN2.out w1 (hbw.trans (hb.mono hbw.size))).mono fun _ _ h => rw_b h
        have DS : Hid (∀ w1 v u, AtW wc (.slice x.a2 x.ce.length x.c2) w1 v → Is (.string nf) w1 u → Calls Tryz.prog 23 #[v, u] w1 (RW (Is (.bool hb2)) w1)) := Lib.hid fun w1 v u ⟨h1, hb⟩ h2 => by subst h1; subst h2; exact (HH2.out w1 (hbw.trans (hb.mono hbw.size))).mono fun _ _ h => rw_b h
        clear HN1 HN2 HH1 HH2 HP2 HR0 HR1 hln1 hln2 hbw HX HS
        cases nb2 <;> cases hb2
        · skip
          refine wp_region_softG 25 (by kernel_rfl) (by kernel_rfl) (by rfl) hRw ?_
          refine g_ldw (g := gp) (cs := #[.int .i64 k1, .int .i64 o1, .string n1, .string t1, .slice a1 L1 c1]) (R := AtW wc (pv k1 o1 n1 t1 a1 L1 c1)) (by rfl) (by exact fun _ _ _ h => h) (by repeat (first | exact List.Mem.head _ | refine List.Mem.tail _ ?_)) Tryz.underlying24 rfl pol_inf (stb_atw wc _) (by exact fun _ hb => ⟨rfl, hb⟩) ?_
          refine g_move (R := Is (.slice (some ⟨b3, f3, none⟩) L3 c3)) (by rfl) (stb_is _) (by exact fun _ _ _ h => h) ?_
          refine g_move (R := Is (.int .i64 (kk : Int))) (by rfl) (stb_is _) (by exact fun _ _ _ h => h) ?_
          refine g_ixf (b := b3) (f := f3) (len := L3) (c := c3) (i := kk) (by rfl) (by exact fun _ _ _ h => h) (by exact fun _ _ _ h => h) hkl ?_
          refine g_fa (g := b3) (k := f3 + kk * 2) (off := f3 + kk * 2) (by rfl) (by exact fun _ _ _ h => h) Tryz.underlying45 rfl ⟨0, by kernel_rfl⟩ rfl ?_
          refine g_cellw (g := b3) (k := f3 + kk * 2) (v := .string nf) (R := Is (.string nf)) (by rfl) (by exact fun _ _ _ h => h) (HNF.out) isAgg_str (stb_is _) (by exact fun _ _ => rfl) ?_
          refine g_call3c (f := 22) (A := AtW wc (pv k1 o1 n1 t1 a1 L1 c1)) (A' := Is (.string nf)) (R := Is (.bool false)) (by rfl) Tryz.func22 (by kernel_rfl) rfl (stb_is _) (by exact fun _ _ _ h => h) (by exact fun _ _ _ h => h) DN.out ?_
          refine g_fa (g := gf) (k := 0) (off := 3) (by rfl) (by exact fun _ _ _ h => h) Tryz.underlying27 rfl ⟨0, by kernel_rfl⟩ rfl ?_
          refine g_cellw (g := gf) (k := 3) (v := .slice x.a2 x.ce.length x.c2) (R := AtW wc (.slice x.a2 x.ce.length x.c2)) (by rfl) (by exact fun _ _ _ h => h) (HF2.out) isAgg_facts (stb_atw wc _) (by exact fun _ hb => ⟨rfl, hb⟩) ?_
          refine g_move (R := Is (.slice (some ⟨b3, f3, none⟩) L3 c3)) (by rfl) (stb_is _) (by exact fun _ _ _ h => h) ?_
          refine g_move (R := Is (.int .i64 (kk : Int))) (by rfl) (stb_is _) (by exact fun _ _ _ h => h) ?_
          refine g_ixf (b := b3) (f := f3) (len := L3) (c := c3) (i := kk) (by rfl) (by exact fun _ _ _ h => h) (by exact fun _ _ _ h => h) hkl ?_
          refine g_fa (g := b3) (k := f3 + kk * 2) (off := f3 + kk * 2) (by rfl) (by exact fun _ _ _ h => h) Tryz.underlying45 rfl ⟨0, by kernel_rfl⟩ rfl ?_
          refine g_cellw (g := b3) (k := f3 + kk * 2) (v := .string nf) (R := Is (.string nf)) (by rfl) (by exact fun _ _ _ h => h) (HNF.out) isAgg_str (stb_is _) (by exact fun _ _ => rfl) ?_
          refine g_call2 (A := AtW wc (.slice x.a2 x.ce.length x.c2)) (A' := Is (.string nf)) (R := Is (.bool false)) (by rfl) Tryz.func23 (by kernel_rfl) rfl (stb_is _) (by exact fun _ _ _ h => h) (by exact fun _ _ _ h => h) DS.out ?_
          refine g_bin (v := .bool false) (u := .bool false) (r := .bool true) (by rfl) (by exact fun _ _ _ h => h) (by exact fun _ _ _ h => h) (by rfl) (fun _ => rfl) ?_
          refine g_move (R := Is (.bool true)) (by rfl) (stb_is _) (by exact fun _ _ _ h => h) ?_
          refine g_dead (dead_of rfl rfl (fun _ _ _ h => h) (by rfl)) ?_
          refine g_dead (dead_of rfl rfl (fun _ _ _ h => h) (by rfl)) ?_
          refine g_dead (dead_of rfl rfl (fun _ _ _ h => h) (by rfl)) ?_
          refine g_dead (dead_of rfl rfl (fun _ _ _ h => h) (by rfl)) ?_
          refine g_dead (dead_of rfl rfl (fun _ _ _ h => h) (by rfl)) ?_
          refine g_dead (dead_of rfl rfl (fun _ _ _ h => h) (by rfl)) ?_
          refine g_dead (dead_of rfl rfl (fun _ _ _ h => h) (by rfl)) ?_
          refine g_dead (dead_of rfl rfl (fun _ _ _ h => h) (by rfl)) ?_
          intro w6 hR6 hb6 v61 h61 v62 h62 v63 h63 v64 h64 v65 h65 v66 h66 v67 h67 v68 h68 v69 h69 v70 h70 v71 h71 v72 h72 v73 h73 v74 h74 v75 h75 v76 h76 v77 h77 v78 h78 v79 h79 v80 h80 v81 h81 v82 h82 v83 h83 v84 h84 v85 h85
          simp only [softEnd, Act.put, List.setIfInBounds_toArray, List.set_cons_succ, List.set_cons_zero, List.drop_succ_cons, List.drop_zero]
          obtain rfl : v77 = .bool true := h77
          obtain rfl : v85 = undef := h85
          clear h61 h62 h63 h64 h65 h66 h67 h68 h69 h70 h71 h72 h73 h74 h75 h76 h78 h79 h80 h81 h82 h83 h84
          go_wp2_with fail
          go_meet
          exact ⟨rfl, hb6⟩
        · skip
          refine wp_region_softG 25 (by kernel_rfl) (by kernel_rfl) (by rfl) hRw ?_
          refine g_ldw (g := gp) (cs := #[.int .i64 k1, .int .i64 o1, .string n1, .string t1, .slice a1 L1 c1]) (R := AtW wc (pv k1 o1 n1 t1 a1 L1 c1)) (by rfl) (by exact fun _ _ _ h => h) (by repeat (first | exact List.Mem.head _ | refine List.Mem.tail _ ?_)) Tryz.underlying24 rfl pol_inf (stb_atw wc _) (by exact fun _ hb => ⟨rfl, hb⟩) ?_
          refine g_move (R := Is (.slice (some ⟨b3, f3, none⟩) L3 c3)) (by rfl) (stb_is _) (by exact fun _ _ _ h => h) ?_
          refine g_move (R := Is (.int .i64 (kk : Int))) (by rfl) (stb_is _) (by exact fun _ _ _ h => h) ?_
          refine g_ixf (b := b3) (f := f3) (len := L3) (c := c3) (i := kk) (by rfl) (by exact fun _ _ _ h => h) (by exact fun _ _ _ h => h) hkl ?_
          refine g_fa (g := b3) (k := f3 + kk * 2) (off := f3 + kk * 2) (by rfl) (by exact fun _ _ _ h => h) Tryz.underlying45 rfl ⟨0, by kernel_rfl⟩ rfl ?_
          refine g_cellw (g := b3) (k := f3 + kk * 2) (v := .string nf) (R := Is (.string nf)) (by rfl) (by exact fun _ _ _ h => h) (HNF.out) isAgg_str (stb_is _) (by exact fun _ _ => rfl) ?_
          refine g_call3c (f := 22) (A := AtW wc (pv k1 o1 n1 t1 a1 L1 c1)) (A' := Is (.string nf)) (R := Is (.bool false)) (by rfl) Tryz.func22 (by kernel_rfl) rfl (stb_is _) (by exact fun _ _ _ h => h) (by exact fun _ _ _ h => h) DN.out ?_
          refine g_fa (g := gf) (k := 0) (off := 3) (by rfl) (by exact fun _ _ _ h => h) Tryz.underlying27 rfl ⟨0, by kernel_rfl⟩ rfl ?_
          refine g_cellw (g := gf) (k := 3) (v := .slice x.a2 x.ce.length x.c2) (R := AtW wc (.slice x.a2 x.ce.length x.c2)) (by rfl) (by exact fun _ _ _ h => h) (HF2.out) isAgg_facts (stb_atw wc _) (by exact fun _ hb => ⟨rfl, hb⟩) ?_
          refine g_move (R := Is (.slice (some ⟨b3, f3, none⟩) L3 c3)) (by rfl) (stb_is _) (by exact fun _ _ _ h => h) ?_
          refine g_move (R := Is (.int .i64 (kk : Int))) (by rfl) (stb_is _) (by exact fun _ _ _ h => h) ?_
          refine g_ixf (b := b3) (f := f3) (len := L3) (c := c3) (i := kk) (by rfl) (by exact fun _ _ _ h => h) (by exact fun _ _ _ h => h) hkl ?_
          refine g_fa (g := b3) (k := f3 + kk * 2) (off := f3 + kk * 2) (by rfl) (by exact fun _ _ _ h => h) Tryz.underlying45 rfl ⟨0, by kernel_rfl⟩ rfl ?_
          refine g_cellw (g := b3) (k := f3 + kk * 2) (v := .string nf) (R := Is (.string nf)) (by rfl) (by exact fun _ _ _ h => h) (HNF.out) isAgg_str (stb_is _) (by exact fun _ _ => rfl) ?_
          refine g_call2 (A := AtW wc (.slice x.a2 x.ce.length x.c2)) (A' := Is (.string nf)) (R := Is (.bool true)) (by rfl) Tryz.func23 (by kernel_rfl) rfl (stb_is _) (by exact fun _ _ _ h => h) (by exact fun _ _ _ h => h) DS.out ?_
          refine g_bin (v := .bool false) (u := .bool true) (r := .bool false) (by rfl) (by exact fun _ _ _ h => h) (by exact fun _ _ _ h => h) (by rfl) (fun _ => rfl) ?_
          refine g_move (R := Is (.bool false)) (by rfl) (stb_is _) (by exact fun _ _ _ h => h) ?_
          refine g_fa (g := gf) (k := 0) (off := 3) (by rfl) (by exact fun _ _ _ h => h) Tryz.underlying27 rfl ⟨0, by kernel_rfl⟩ rfl ?_
          refine g_cellw (g := gf) (k := 3) (v := .slice x.a2 x.ce.length x.c2) (R := AtW wc (.slice x.a2 x.ce.length x.c2)) (by rfl) (by exact fun _ _ _ h => h) (HF2.out) isAgg_facts (stb_atw wc _) (by exact fun _ hb => ⟨rfl, hb⟩) ?_
          refine g_move (R := Is (.slice (some ⟨b3, f3, none⟩) L3 c3)) (by rfl) (stb_is _) (by exact fun _ _ _ h => h) ?_
          refine g_move (R := Is (.int .i64 (kk : Int))) (by rfl) (stb_is _) (by exact fun _ _ _ h => h) ?_
          refine g_ixf (b := b3) (f := f3) (len := L3) (c := c3) (i := kk) (by rfl) (by exact fun _ _ _ h => h) (by exact fun _ _ _ h => h) hkl ?_
          refine g_fa (g := b3) (k := f3 + kk * 2) (off := f3 + kk * 2) (by rfl) (by exact fun _ _ _ h => h) Tryz.underlying45 rfl ⟨0, by kernel_rfl⟩ rfl ?_
          refine g_cellw (g := b3) (k := f3 + kk * 2) (v := .string nf) (R := Is (.string nf)) (by rfl) (by exact fun _ _ _ h => h) (HNF.out) isAgg_str (stb_is _) (by exact fun _ _ => rfl) ?_
          refine g_call2 (A := AtW wc (.slice x.a2 x.ce.length x.c2)) (A' := Is (.string nf)) (R := Is (.bool true)) (by rfl) Tryz.func23 (by kernel_rfl) rfl (stb_is _) (by exact fun _ _ _ h => h) (by exact fun _ _ _ h => h) DS.out ?_
          intro w6 hR6 hb6 v61 h61 v62 h62 v63 h63 v64 h64 v65 h65 v66 h66 v67 h67 v68 h68 v69 h69 v70 h70 v71 h71 v72 h72 v73 h73 v74 h74 v75 h75 v76 h76 v77 h77 v78 h78 v79 h79 v80 h80 v81 h81 v82 h82 v83 h83 v84 h84 v85 h85
          simp only [softEnd, Act.put, List.setIfInBounds_toArray, List.set_cons_succ, List.set_cons_zero, List.drop_succ_cons, List.drop_zero]
          obtain rfl : v77 = .bool false := h77
          obtain rfl : v85 = .bool true := h85
          clear h61 h62 h63 h64 h65 h66 h67 h68 h69 h70 h71 h72 h73 h74 h75 h76 h78 h79 h80 h81 h82 h83 h84
          go_wp2_with fail
          go_meet
          exact ⟨rfl, hb6⟩
        · skip
          refine wp_region_softG 25 (by kernel_rfl) (by kernel_rfl) (by rfl) hRw ?_
          refine g_ldw (g := gp) (cs := #[.int .i64 k1, .int .i64 o1, .string n1, .string t1, .slice a1 L1 c1]) (R := AtW wc (pv k1 o1 n1 t1 a1 L1 c1)) (by rfl) (by exact fun _ _ _ h => h) (by repeat (first | exact List.Mem.head _ | refine List.Mem.tail _ ?_)) Tryz.underlying24 rfl pol_inf (stb_atw wc _) (by exact fun _ hb => ⟨rfl, hb⟩) ?_
          refine g_move (R := Is (.slice (some ⟨b3, f3, none⟩) L3 c3)) (by rfl) (stb_is _) (by exact fun _ _ _ h => h) ?_
          refine g_move (R := Is (.int .i64 (kk : Int))) (by rfl) (stb_is _) (by exact fun _ _ _ h => h) ?_
          refine g_ixf (b := b3) (f := f3) (len := L3) (c := c3) (i := kk) (by rfl) (by exact fun _ _ _ h => h) (by exact fun _ _ _ h => h) hkl ?_
          refine g_fa (g := b3) (k := f3 + kk * 2) (off := f3 + kk * 2) (by rfl) (by exact fun _ _ _ h => h) Tryz.underlying45 rfl ⟨0, by kernel_rfl⟩ rfl ?_
          refine g_cellw (g := b3) (k := f3 + kk * 2) (v := .string nf) (R := Is (.string nf)) (by rfl) (by exact fun _ _ _ h => h) (HNF.out) isAgg_str (stb_is _) (by exact fun _ _ => rfl) ?_
          refine g_call3c (f := 22) (A := AtW wc (pv k1 o1 n1 t1 a1 L1 c1)) (A' := Is (.string nf)) (R := Is (.bool true)) (by rfl) Tryz.func22 (by kernel_rfl) rfl (stb_is _) (by exact fun _ _ _ h => h) (by exact fun _ _ _ h => h) DN.out ?_
          refine g_fa (g := gf) (k := 0) (off := 3) (by rfl) (by exact fun _ _ _ h => h) Tryz.underlying27 rfl ⟨0, by kernel_rfl⟩ rfl ?_
          refine g_cellw (g := gf) (k := 3) (v := .slice x.a2 x.ce.length x.c2) (R := AtW wc (.slice x.a2 x.ce.length x.c2)) (by rfl) (by exact fun _ _ _ h => h) (HF2.out) isAgg_facts (stb_atw wc _) (by exact fun _ hb => ⟨rfl, hb⟩) ?_
          refine g_move (R := Is (.slice (some ⟨b3, f3, none⟩) L3 c3)) (by rfl) (stb_is _) (by exact fun _ _ _ h => h) ?_
          refine g_move (R := Is (.int .i64 (kk : Int))) (by rfl) (stb_is _) (by exact fun _ _ _ h => h) ?_
          refine g_ixf (b := b3) (f := f3) (len := L3) (c := c3) (i := kk) (by rfl) (by exact fun _ _ _ h => h) (by exact fun _ _ _ h => h) hkl ?_
          refine g_fa (g := b3) (k := f3 + kk * 2) (off := f3 + kk * 2) (by rfl) (by exact fun _ _ _ h => h) Tryz.underlying45 rfl ⟨0, by kernel_rfl⟩ rfl ?_
          refine g_cellw (g := b3) (k := f3 + kk * 2) (v := .string nf) (R := Is (.string nf)) (by rfl) (by exact fun _ _ _ h => h) (HNF.out) isAgg_str (stb_is _) (by exact fun _ _ => rfl) ?_
          refine g_call2 (A := AtW wc (.slice x.a2 x.ce.length x.c2)) (A' := Is (.string nf)) (R := Is (.bool false)) (by rfl) Tryz.func23 (by kernel_rfl) rfl (stb_is _) (by exact fun _ _ _ h => h) (by exact fun _ _ _ h => h) DS.out ?_
          refine g_bin (v := .bool true) (u := .bool false) (r := .bool false) (by rfl) (by exact fun _ _ _ h => h) (by exact fun _ _ _ h => h) (by rfl) (fun _ => rfl) ?_
          refine g_move (R := Is (.bool false)) (by rfl) (stb_is _) (by exact fun _ _ _ h => h) ?_
          refine g_fa (g := gf) (k := 0) (off := 3) (by rfl) (by exact fun _ _ _ h => h) Tryz.underlying27 rfl ⟨0, by kernel_rfl⟩ rfl ?_
          refine g_cellw (g := gf) (k := 3) (v := .slice x.a2 x.ce.length x.c2) (R := AtW wc (.slice x.a2 x.ce.length x.c2)) (by rfl) (by exact fun _ _ _ h => h) (HF2.out) isAgg_facts (stb_atw wc _) (by exact fun _ hb => ⟨rfl, hb⟩) ?_
          refine g_move (R := Is (.slice (some ⟨b3, f3, none⟩) L3 c3)) (by rfl) (stb_is _) (by exact fun _ _ _ h => h) ?_
          refine g_move (R := Is (.int .i64 (kk : Int))) (by rfl) (stb_is _) (by exact fun _ _ _ h => h) ?_
          refine g_ixf (b := b3) (f := f3) (len := L3) (c := c3) (i := kk) (by rfl) (by exact fun _ _ _ h => h) (by exact fun _ _ _ h => h) hkl ?_
          refine g_fa (g := b3) (k := f3 + kk * 2) (off := f3 + kk * 2) (by rfl) (by exact fun _ _ _ h => h) Tryz.underlying45 rfl ⟨0, by kernel_rfl⟩ rfl ?_
          refine g_cellw (g := b3) (k := f3 + kk * 2) (v := .string nf) (R := Is (.string nf)) (by rfl) (by exact fun _ _ _ h => h) (HNF.out) isAgg_str (stb_is _) (by exact fun _ _ => rfl) ?_
          refine g_call2 (A := AtW wc (.slice x.a2 x.ce.length x.c2)) (A' := Is (.string nf)) (R := Is (.bool false)) (by rfl) Tryz.func23 (by kernel_rfl) rfl (stb_is _) (by exact fun _ _ _ h => h) (by exact fun _ _ _ h => h) DS.out ?_
          intro w6 hR6 hb6 v61 h61 v62 h62 v63 h63 v64 h64 v65 h65 v66 h66 v67 h67 v68 h68 v69 h69 v70 h70 v71 h71 v72 h72 v73 h73 v74 h74 v75 h75 v76 h76 v77 h77 v78 h78 v79 h79 v80 h80 v81 h81 v82 h82 v83 h83 v84 h84 v85 h85
          simp only [softEnd, Act.put, List.setIfInBounds_toArray, List.set_cons_succ, List.set_cons_zero, List.drop_succ_cons, List.drop_zero]
          obtain rfl : v77 = .bool false := h77
          obtain rfl : v85 = .bool false := h85
          clear h61 h62 h63 h64 h65 h66 h67 h68 h69 h70 h71 h72 h73 h74 h75 h76 h78 h79 h80 h81 h82 h83 h84
          go_wp2_with fail
          go_meet
          exact ⟨rfl, hb6⟩
        · skip
          refine wp_region_softG 25 (by kernel_rfl) (by kernel_rfl) (by rfl) hRw ?_
          refine g_ldw (g := gp) (cs := #[.int .i64 k1, .int .i64 o1, .string n1, .string t1, .slice a1 L1 c1]) (R := AtW wc (pv k1 o1 n1 t1 a1 L1 c1)) (by rfl) (by exact fun _ _ _ h => h) (by repeat (first | exact List.Mem.head _ | refine List.Mem.tail _ ?_)) Tryz.underlying24 rfl pol_inf (stb_atw wc _) (by exact fun _ hb => ⟨rfl, hb⟩) ?_
          refine g_move (R := Is (.slice (some ⟨b3, f3, none⟩) L3 c3)) (by rfl) (stb_is _) (by exact fun _ _ _ h => h) ?_
          refine g_move (R := Is (.int .i64 (kk : Int))) (by rfl) (stb_is _) (by exact fun _ _ _ h => h) ?_
          refine g_ixf (b := b3) (f := f3) (len := L3) (c := c3) (i := kk) (by rfl) (by exact fun _ _ _ h => h) (by exact fun _ _ _ h => h) hkl ?_
          refine g_fa (g := b3) (k := f3 + kk * 2) (off := f3 + kk * 2) (by rfl) (by exact fun _ _ _ h => h) Tryz.underlying45 rfl ⟨0, by kernel_rfl⟩ rfl ?_
          refine g_cellw (g := b3) (k := f3 + kk * 2) (v := .string nf) (R := Is (.string nf)) (by rfl) (by exact fun _ _ _ h => h) (HNF.out) isAgg_str (stb_is _) (by exact fun _ _ => rfl) ?_
          refine g_call3c (f := 22) (A := AtW wc (pv k1 o1 n1 t1 a1 L1 c1)) (A' := Is (.string nf)) (R := Is (.bool true)) (by rfl) Tryz.func22 (by kernel_rfl) rfl (stb_is _) (by exact fun _ _ _ h => h) (by exact fun _ _ _ h => h) DN.out ?_
          refine g_fa (g := gf) (k := 0) (off := 3) (by rfl) (by exact fun _ _ _ h => h) Tryz.underlying27 rfl ⟨0, by kernel_rfl⟩ rfl ?_
          refine g_cellw (g := gf) (k := 3) (v := .slice x.a2 x.ce.length x.c2) (R := AtW wc (.slice x.a2 x.ce.length x.c2)) (by rfl) (by exact fun _ _ _ h => h) (HF2.out) isAgg_facts (stb_atw wc _) (by exact fun _ hb => ⟨rfl, hb⟩) ?_
          refine g_move (R := Is (.slice (some ⟨b3, f3, none⟩) L3 c3)) (by rfl) (stb_is _) (by exact fun _ _ _ h => h) ?_
          refine g_move (R := Is (.int .i64 (kk : Int))) (by rfl) (stb_is _) (by exact fun _ _ _ h => h) ?_
          refine g_ixf (b := b3) (f := f3) (len := L3) (c := c3) (i := kk) (by rfl) (by exact fun _ _ _ h => h) (by exact fun _ _ _ h => h) hkl ?_
          refine g_fa (g := b3) (k := f3 + kk * 2) (off := f3 + kk * 2) (by rfl) (by exact fun _ _ _ h => h) Tryz.underlying45 rfl ⟨0, by kernel_rfl⟩ rfl ?_
          refine g_cellw (g := b3) (k := f3 + kk * 2) (v := .string nf) (R := Is (.string nf)) (by rfl) (by exact fun _ _ _ h => h) (HNF.out) isAgg_str (stb_is _) (by exact fun _ _ => rfl) ?_
          refine g_call2 (A := AtW wc (.slice x.a2 x.ce.length x.c2)) (A' := Is (.string nf)) (R := Is (.bool true)) (by rfl) Tryz.func23 (by kernel_rfl) rfl (stb_is _) (by exact fun _ _ _ h => h) (by exact fun _ _ _ h => h) DS.out ?_
          refine g_bin (v := .bool true) (u := .bool true) (r := .bool true) (by rfl) (by exact fun _ _ _ h => h) (by exact fun _ _ _ h => h) (by rfl) (fun _ => rfl) ?_
          refine g_move (R := Is (.bool true)) (by rfl) (stb_is _) (by exact fun _ _ _ h => h) ?_
          refine g_dead (dead_of rfl rfl (fun _ _ _ h => h) (by rfl)) ?_
          refine g_dead (dead_of rfl rfl (fun _ _ _ h => h) (by rfl)) ?_
          refine g_dead (dead_of rfl rfl (fun _ _ _ h => h) (by rfl)) ?_
          refine g_dead (dead_of rfl rfl (fun _ _ _ h => h) (by rfl)) ?_
          refine g_dead (dead_of rfl rfl (fun _ _ _ h => h) (by rfl)) ?_
          refine g_dead (dead_of rfl rfl (fun _ _ _ h => h) (by rfl)) ?_
          refine g_dead (dead_of rfl rfl (fun _ _ _ h => h) (by rfl)) ?_
          refine g_dead (dead_of rfl rfl (fun _ _ _ h => h) (by rfl)) ?_
          intro w6 hR6 hb6 v61 h61 v62 h62 v63 h63 v64 h64 v65 h65 v66 h66 v67 h67 v68 h68 v69 h69 v70 h70 v71 h71 v72 h72 v73 h73 v74 h74 v75 h75 v76 h76 v77 h77 v78 h78 v79 h79 v80 h80 v81 h81 v82 h82 v83 h83 v84 h84 v85 h85
          simp only [softEnd, Act.put, List.setIfInBounds_toArray, List.set_cons_succ, List.set_cons_zero, List.drop_succ_cons, List.drop_zero]
          obtain rfl : v77 = .bool true := h77
          obtain rfl : v85 = undef := h85
          clear h61 h62 h63 h64 h65 h66 h67 h68 h69 h70 h71 h72 h73 h74 h75 h76 h78 h79 h80 h81 h82 h83 h84
          go_wp2_with fail
          go_meet
          exact ⟨rfl, hb6⟩
      case rest =>
      obtain ⟨rfl, HBB⟩ := hcut
      have HSb : Hid (BS w wc gp gf gg #[.int .i64 k1, .int .i64 o1, .string n1, .string t1, .slice a1 L1 c1] #[.string x.m, .string x.p, .slice x.a1 x.cl.length x.c1, .slice x.a2 x.ce.length x.c2] x.m x.p x1 q1 u2 m2) := Lib.hid (HS.out.below HBB.out)
      clear HS HBB
      generalize (nb2 == hb2 || hb2) = tk at *
      have hbw := HSb.out.R.below
      cases tk with
      | false =>
        have e : q2 = m2 := HP2.out.trans (by simp)
        have HE := Lib.hid e
        clear e hbw HN1 HN2 HH1 HH2 HP2 HR0 HR1 HX
        go_wp2_with fail
        go_roundg (L3 - (kk + 1))
        case measure => omega
        case rel => exact ⟨kk + 1, x1, _, by omega, rfl, by go_num, (by rw [← HQ1.out, ← HQ2.out, HE.out]; exact HSb.out)⟩
      | true =>
        have e : q2 = m2 ++ [(nf, tf)] := HP2.out
        have HE := Lib.hid e
        have e0 : wc.drew.cell? ⟨gg, 3, none⟩ = some u2 := HSb.out.R.cellAt (g := gg) (List.Mem.head _) 3 rfl
        have e1 : (wc.alloc (.cells #[.string nf, .slice af tf.length cf] 45)).cell? ⟨gg, 3, none⟩ = some u2 := (HSb.out.R.alloc0 _).cellAt (g := gg) (List.Mem.head _) 3 rfl
        have y0 : wc.drew.cell? ⟨b3, f3 + kk * 2, none⟩ = some (.string nf) := HR0.out _ hbw.drew
        have y1 : wc.drew.cell? ⟨b3, f3 + kk * 2 + 1, none⟩ = some (.slice af tf.length cf) := HR1.out _ hbw.drew
        have hbz : Below wc.heap.size wc wc.drew := (Below.refl _ wc).drew
        clear e hbw HN1 HN2 HH1 HH2 HP2 HR0 HR1 HX
        go_upto_region 10 with fail
        go_region_law (first
          | (refine step_b2 rfl _ _ (by rfl) (by rfl) (by rfl) HSb.out hbz nf HSF.out hln2 ?_; intro gl cap v' w7 hv hR7 hS7; subst hv; have HS7 := Lib.hid hS7; clear hS7; have f4 : w7.cell? ⟨gg, 3, none⟩ = some u2 := hR7.cellAt (g := gg) (List.Mem.head _) 3 rfl; have t4 : w7.frozen? ⟨gg, 3, none⟩ = false := hR7.thaw (g := gg) (List.Mem.head _) 3))
        all_goals
          go_wp2_with fail
          go_roundg (L3 - (kk + 1))
          case measure => omega
          case rel => exact ⟨kk + 1, x1, _, by omega, rfl, by go_num, (by rw [← HQ1.out, ← HQ2.out, HE.out]; exact HS7.out)⟩
    · have hltz : ¬ (kk : Int) < (L3 : Int) := by omega
      obtain ⟨z1, O1, F1'⟩ := HS.out.O1
      obtain ⟨z2, O2, F2'⟩ := HS.out.O2
      have hbw := HS.out.R.below
      obtain ⟨d1, e1, rfl, sx1⟩ := own_slx O1 F1' hbw
      obtain ⟨d2, e2, rfl, sx2⟩ := own_slx O2 F2' hbw
      obtain ⟨y, hy⟩ : ∃ y : Fx, y = ⟨x.m, x.p, x.cl ++ pkd 2 k1 o1 n1 F1 x.cl (l3.take kk), x.ce ++ pkd 3 k1 o1 n1 F1 x.ce (l3.take kk), d1, e1, d2, e2⟩ := ⟨_, rfl⟩
      have hya : FxAt wr y := by rw [hy]; exact ⟨sx1, sx2⟩
      have hyh := HBL.out y (by rw [hy]; exact ⟨rfl, rfl, ⟨_, rfl, pkd_blind 2 k1 o1 n1 F1 x.cl _⟩, ⟨_, rfl, pkd_blind 3 k1 o1 n1 F1 x.ce _⟩⟩)
      have hRw : Rws w.heap.size w wr [(gg, #[.string y.m, .string y.p, .slice y.a1 y.cl.length y.c1, .slice y.a2 y.ce.length y.c2], 27), (gf, #[.string x.m, .string x.p, .slice x.a1 x.cl.length x.c1, .slice x.a2 x.ce.length x.c2], 27), (gp, #[.int .i64 k1, .int .i64 o1, .string n1, .string t1, .slice a1 L1 c1], 24)] := by rw [hy]; exact HS.out.R
      have HD1 := Lib.hid (fun u (hb : Below wr.heap.size wr u) => HHD.out x u (hbw.trans (hb.mono hbw.size)) (HX.out.below (hbw.trans (hb.mono hbw.size)) (Nat.le_refl _)))
      have HD2 := Lib.hid (fun u (hb : Below wr.heap.size wr u) => HHD.out y u (hbw.trans (hb.mono hbw.size)) (hya.below hb (Nat.le_refl _)))
      rw [hyh] at HD2
      generalize holdsP x k1 o1 n1 t1 F1 = hv at *
      have DH : Hid (∀ w1 v u, AtW wr (pv k1 o1 n1 t1 a1 L1 c1) w1 v → AtW wr x.v w1 u → Calls Tryz.prog 13 #[v, u] w1 (RW (Is (.bool hv)) w1)) := Lib.hid fun w1 v u ⟨h1, hb⟩ ⟨h2, _⟩ => by subst h1; subst h2; exact (HD1.out w1 hb).mono fun _ _ h => rw_b h
      have DY : Hid (∀ w1 v u, AtW wr (pv k1 o1 n1 t1 a1 L1 c1) w1 v → AtW wr y.v w1 u → Calls Tryz.prog 13 #[v, u] w1 (RW (Is (.bool hv)) w1)) := Lib.hid fun w1 v u ⟨h1, hb⟩ ⟨h2, _⟩ => by subst h1; subst h2; exact (HD2.out w1 hb).mono fun _ _ h => rw_b h
      have HBW := Lib.hid hbw
      clear HS O1 O2 F1' F2' sx1 sx2 hya hyh HD1 HD2 HHD HBL HNM HHS HROW HX hy hbw hlp1 hlp2 hlt
      go_upto_region 11 with fail
      refine wp_region_softG 10 (by kernel_rfl) (by kernel_rfl) (by rfl) hRw ?_
      refine g_ldw (g := gp) (cs := #[.int .i64 k1, .int .i64 o1, .string n1, .string t1, .slice a1 L1 c1]) (R := AtW wr (pv k1 o1 n1 t1 a1 L1 c1)) (by rfl) (by exact fun _ _ _ h => h) (by repeat (first | exact List.Mem.head _ | refine List.Mem.tail _ ?_)) Tryz.underlying24 rfl pol_inf (stb_atw wr _) (by exact fun _ hb => ⟨rfl, hb⟩) ?_
      refine g_ldw (g := gf) (cs := #[.string x.m, .string x.p, .slice x.a1 x.cl.length x.c1, .slice x.a2 x.ce.length x.c2]) (R := AtW wr x.v) (by rfl) (by exact fun _ _ _ h => h) (by repeat (first | exact List.Mem.head _ | refine List.Mem.tail _ ?_)) Tryz.underlying27 rfl fac_inf (stb_atw wr _) (by exact fun _ hb => ⟨rfl, hb⟩) ?_
      refine g_call2 (A := AtW wr (pv k1 o1 n1 t1 a1 L1 c1)) (A' := AtW wr x.v) (R := Is (.bool hv)) (by rfl) Tryz.func13 (by kernel_rfl) rfl (stb_is _) (by exact fun _ _ _ h => h) (by exact fun _ _ _ h => h) DH.out ?_
      refine g_ldw (g := gp) (cs := #[.int .i64 k1, .int .i64 o1, .string n1, .string t1, .slice a1 L1 c1]) (R := AtW wr (pv k1 o1 n1 t1 a1 L1 c1)) (by rfl) (by exact fun _ _ _ h => h) (by repeat (first | exact List.Mem.head _ | refine List.Mem.tail _ ?_)) Tryz.underlying24 rfl pol_inf (stb_atw wr _) (by exact fun _ hb => ⟨rfl, hb⟩) ?_
      refine g_ldw (g := gg) (cs := #[.string y.m, .string y.p, .slice y.a1 y.cl.length y.c1, .slice y.a2 y.ce.length y.c2]) (R := AtW wr y.v) (by rfl) (by exact fun _ _ _ h => h) (by repeat (first | exact List.Mem.head _ | refine List.Mem.tail _ ?_)) Tryz.underlying27 rfl fac_inf (stb_atw wr _) (by exact fun _ hb => ⟨rfl, hb⟩) ?_
      refine g_call2 (A := AtW wr (pv k1 o1 n1 t1 a1 L1 c1)) (A' := AtW wr y.v) (R := Is (.bool hv)) (by rfl) Tryz.func13 (by kernel_rfl) rfl (stb_is _) (by exact fun _ _ _ h => h) (by exact fun _ _ _ h => h) DY.out ?_
      refine g_bin (v := .bool hv) (u := .bool hv) (r := .bool true) (by rfl) (by exact fun _ _ _ h => h) (by exact fun _ _ _ h => h) (by rfl) (eql_bool hv) ?_
      refine g_move (R := Is (.bool true)) (by rfl) (stb_is _) (by exact fun _ _ _ h => h) ?_
      refine g_call (f := 15) (xs := []) (R := Is (.bool true)) (by rfl) Tryz.func15 (by kernel_rfl) rfl (stb_is _) (by exact fun w _ _ _ => (fixed_any w).mono fun _ _ h => rw_b h) ?_
      refine g_pick (b := true) (R := Is (.bool true)) (by rfl) (by exact fun _ _ _ h => h) (stb_is _) (by exact fun _ _ _ h => h) ?_
      intro w6 hR6 hb6 v96 h96 v97 h97 v98 h98 v99 h99 v100 h100 v101 h101 v102 h102 v103 h103 v104 h104 v105 h105
      simp only [softEnd, Act.put, List.setIfInBounds_toArray, List.set_cons_succ, List.set_cons_zero, List.drop_succ_cons, List.drop_zero]
      obtain rfl : v105 = .bool true := h105
      clear h96 h97 h98 h99 h100 h101 h102 h103 h104
      go_wp2_with fail
      go_ret
      exact ⟨rfl, HBW.out.trans (hb6.mono HBW.out.size)⟩
end Go.Proofs.YthpagppipifgeaaGreatDoor.policyBlind
