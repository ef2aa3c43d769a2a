/- ostiaryref06.Same: a value is the same as itself, wherever its parts lie: the walk (gen_zsame.py). -/
import Derived.Test.YtebhiplcoioenaaGreatDoorZZGS
import Derived.Test.YtebhiplcoioenaaGreatDoorZDG
import Derived.Deep.LoopGhost
namespace Go.Proofs.YtebhiplcoioenaaGreatDoor
open Go.RowKit

def SameAt (F : Dr) : Prop := ∀ (c t : Int) (k : Bool) (s : Bs) (ad : Option Addr) (cp : Nat) (ad' : Option Addr) (cp' : Nat) (w : World), SlD w F ad cp → SlD w F ad' cp' →
  Calls Tryz.prog 12 #[dvv ⟨c, t, k, s, F⟩ ad cp, dvv ⟨c, t, k, s, F⟩ ad' cp'] w (RetB true w)
set_option maxRecDepth 100000 in
set_option maxHeartbeats 4000000 in
theorem same_step (F : Dr) (h : F.All SameAt) : SameAt F := by
  intro c t k s ad cp ad' cp' w hs hs'
  have hMX := MX_eq
  obtain ⟨hle, hcm, b, f, had, hrow⟩ := hs
  obtain ⟨hle', hcm', b', f', had', hrow'⟩ := hs'
  have hR := Rws.start w
  go_enter Tryz.func12, Tryz.ntmps12
  go_upto_region 1 with (first
    | (refine wpList_box_rws rfl _ _ (by rfl) (by assumption) (dvC ⟨c, t, k, s, F⟩ ad cp) rfl ?_; intro ga w1 hR)
    | (refine wpList_box_rws rfl _ _ (by rfl) (by assumption) (dvC ⟨c, t, k, s, F⟩ ad' cp') rfl ?_; intro gb w2 hR))
  have p0 := hR.cellAt (g := ga) (by repeat (first | exact List.Mem.head _ | refine List.Mem.tail _ ?_)) 0 rfl; have p1 := hR.cellAt (g := ga) (by repeat (first | exact List.Mem.head _ | refine List.Mem.tail _ ?_)) 1 rfl; have p2 := hR.cellAt (g := ga) (by repeat (first | exact List.Mem.head _ | refine List.Mem.tail _ ?_)) 2 rfl; have p3 := hR.cellAt (g := ga) (by repeat (first | exact List.Mem.head _ | refine List.Mem.tail _ ?_)) 3 rfl
  have q0 := hR.cellAt (g := gb) (List.Mem.head _) 0 rfl; have q1 := hR.cellAt (g := gb) (List.Mem.head _) 1 rfl; have q2 := hR.cellAt (g := gb) (List.Mem.head _) 2 rfl; have q3 := hR.cellAt (g := gb) (List.Mem.head _) 3 rfl
  have e1 : ((bs s).toList == (bs s).toList) = true := by simp
  have HR0 := Lib.hid hR
  have HROW := Lib.hid hrow
  have HROW' := Lib.hid hrow'
  have HIH := Lib.hid h
  have HAD : Hid (F.len ≠ 0 → ad = some ⟨b, f, none⟩ ∧ ad' = some ⟨b', f', none⟩) := Lib.hid (fun hne => ⟨by rcases had with h | ⟨_, h⟩; exact h; omega, by rcases had' with h | ⟨_, h⟩; exact h; omega⟩)
  obtain ⟨L, hL⟩ : ∃ L, L = F.len := ⟨_, rfl⟩
  have HL := Lib.hid hL
  have hlm : L ≤ MX := by omega
  have p4 : w2.cell? ⟨ga, 4, none⟩ = some (.slice ad L cp) := by rw [hL]; exact hR.cellAt (g := ga) (by repeat (first | exact List.Mem.head _ | refine List.Mem.tail _ ?_)) 4 rfl
  have q4 : w2.cell? ⟨gb, 4, none⟩ = some (.slice ad' L cp') := by rw [hL]; exact hR.cellAt (g := gb) (List.Mem.head _) 4 rfl
  clear h hrow hrow' had had' hR
  clear hL hle hle'
  go_upto_region 4 with fail
  clear p0 p1 p2 p3 p4 q0 q1 q2 q3 q4 e1
  go_loopg [5] F.len (fun gg s5 wr => ∃ (kk : Nat) (G : Dr), kk + G.len = L ∧ gg = G.len ∧ s5 = .int .i64 kk ∧ Aside (Rws w.heap.size w wr [(gb, (dvC ⟨c, t, k, s, F⟩ ad' cp'), 24), (ga, (dvC ⟨c, t, k, s, F⟩ ad cp), 24)]) ∧ Aside (Row w G b (f + 5 * kk)) ∧ Aside (Row w G b' (f' + 5 * kk)) ∧ Aside (G.All SameAt))
  case atStart => exact ⟨0, F, by rw [HL.out]; omega, rfl, rfl, HR0.out, HROW.out, HROW'.out, HIH.out⟩
  case round =>
    obtain ⟨kk, G, hkk, rfl, rfl, HR, HG, HG', HP⟩ := hrel
    have hRw := HR.out
    have hbw := hRw.below
    have r4 : wr.cell? ⟨ga, 4, none⟩ = some (.slice ad L cp) := by rw [HL.out]; exact hRw.cellAt (g := ga) (by repeat (first | exact List.Mem.head _ | refine List.Mem.tail _ ?_)) 4 rfl
    clear HR0 HROW HROW' HIH
    cases G with
    | nil =>
      have hltz : ¬ (kk : Int) < (L : Int) := by simp only [Dr.len] at hkk; omega
      have HB := Lib.hid hbw
      clear hbw hRw
      go_wp2_with fail
      go_ret
      exact ⟨rfl, HB.out⟩
    | cons c1 t1 k1 s1 kids nx =>
      have hln : (Dr.cons c1 t1 k1 s1 kids nx).len = nx.len + 1 := rfl
      have hkl : kk < L := by omega
      have hltz : (kk : Int) < (L : Int) := by omega
      obtain ⟨a1, p1, h0, h1, h2, h3, h4, _, hsl, hrn⟩ := (HG.out).kids
      obtain ⟨a2, p2, g0, g1, g2, g3, g4, _, hsl', hrn'⟩ := (HG'.out).kids
      obtain ⟨rfl, rfl⟩ := HAD.out (by rw [← HL.out]; omega)
      obtain ⟨hp1, hpn⟩ := HP.out
      have DC : Hid (∀ w1 v u, AtW wr (dvv ⟨c1, t1, k1, s1, kids⟩ a1 p1) w1 v → AtW wr (dvv ⟨c1, t1, k1, s1, kids⟩ a2 p2) w1 u → Calls Tryz.prog 12 #[v, u] w1 (RW (Is (.bool true)) w1)) := Lib.hid fun w1 v u ⟨e1, hb⟩ ⟨e2, _⟩ => by
        subst e1; subst e2
        have hbb := hbw.trans (hb.mono hbw.size)
        exact (hp1 c1 t1 k1 s1 a1 p1 a2 p2 w1 (hsl.grown hbb) (hsl'.grown hbb)).mono fun _ _ h => rw_b h
      have HEA : Hid (∀ u, Below wr.heap.size wr u → ∀ j v, (dcl ⟨c1, t1, k1, s1, kids⟩ a1 p1)[j]? = some v → u.cell? ⟨b, f + kk * 5 + j, none⟩ = some v) := Lib.hid fun u hb j v hj => by
        have hbb := hbw.trans (hb.mono hbw.size)
        have hlt := World.block_lt_of_cell? w _ h0
        rw [show f + kk * 5 = f + 5 * kk by omega]
        refine (hbb.cell (p := ⟨b, f + 5 * kk + j, none⟩) hlt).trans ?_
        unfold dcl at hj
        match j, hj with
        | 0, hj => simp at hj; subst hj; exact h0
        | 1, hj => simp at hj; subst hj; exact h1
        | 2, hj => simp at hj; subst hj; exact h2
        | 3, hj => simp at hj; subst hj; exact h3
        | 4, hj => simp at hj; subst hj; exact h4
        | j + 5, hj => simp at hj
      have HEB : Hid (∀ u, Below wr.heap.size wr u → ∀ j v, (dcl ⟨c1, t1, k1, s1, kids⟩ a2 p2)[j]? = some v → u.cell? ⟨b', f' + kk * 5 + j, none⟩ = some v) := Lib.hid fun u hb j v hj => by
        have hbb := hbw.trans (hb.mono hbw.size)
        have hlt := World.block_lt_of_cell? w _ g0
        rw [show f' + kk * 5 = f' + 5 * kk by omega]
        refine (hbb.cell (p := ⟨b', f' + 5 * kk + j, none⟩) hlt).trans ?_
        unfold dcl at hj
        match j, hj with
        | 0, hj => simp at hj; subst hj; exact g0
        | 1, hj => simp at hj; subst hj; exact g1
        | 2, hj => simp at hj; subst hj; exact g2
        | 3, hj => simp at hj; subst hj; exact g3
        | 4, hj => simp at hj; subst hj; exact g4
        | j + 5, hj => simp at hj
      have HA : Hid (∀ u, Below wr.heap.size wr u → u.cell? ⟨ga, 4, none⟩ = some (.slice (some ⟨b, f, none⟩) L cp)) := Lib.hid fun u hb => by rw [HL.out]; exact (hRw.call hb).cellAt (g := ga) (by repeat (first | exact List.Mem.head _ | refine List.Mem.tail _ ?_)) 4 rfl
      have HB : Hid (∀ u, Below wr.heap.size wr u → u.cell? ⟨gb, 4, none⟩ = some (.slice (some ⟨b', f', none⟩) L cp')) := Lib.hid fun u hb => by rw [HL.out]; exact (hRw.call hb).cellAt (g := gb) (List.Mem.head _) 4 rfl
      have HRN := Lib.hid (And.intro hrn (And.intro hrn' hpn))
      clear hp1 hpn HP HG HG' hrn hrn' hsl hsl' h0 h1 h2 h3 h4 g0 g1 g2 g3 g4 hbw
      go_upto_region 6 with fail
      refine wp_region_softG 11 (by kernel_rfl) (by kernel_rfl) (by rfl) hRw ?_
      refine g_fa (g := ga) (k := 0) (off := 4) (by rfl) (by exact fun _ _ _ h => h) Tryz.underlying24 rfl ⟨0, by kernel_rfl⟩ rfl ?_
      refine g_cellw (g := ga) (k := 4) (v := .slice (some ⟨b, f, none⟩) L cp) (R := Is (.slice (some ⟨b, f, none⟩) L cp)) (by rfl) (by exact fun _ _ _ h => h) (HA.out) isAgg_ders (stb_is _) (by exact fun _ _ => rfl) ?_
      refine g_move (R := Is (.int .i64 (kk : Int))) (by rfl) (stb_is _) (by exact fun _ _ _ h => h) ?_
      refine g_ixd (b := b) (f := f) (len := L) (c := cp) (i := kk) (by rfl) (by exact fun _ _ _ h => h) (by exact fun _ _ _ h => h) hkl ?_
      refine g_ldd (b := b) (k := f + kk * 5) (vs := dcl ⟨c1, t1, k1, s1, kids⟩ a1 p1) (R := AtW wr (dvv ⟨c1, t1, k1, s1, kids⟩ a1 p1)) (by rfl) (by exact fun _ _ _ h => h) rfl (HEA.out) (stb_atw wr _) (by exact fun _ hb => ⟨rfl, hb⟩) ?_
      refine g_fa (g := gb) (k := 0) (off := 4) (by rfl) (by exact fun _ _ _ h => h) Tryz.underlying24 rfl ⟨0, by kernel_rfl⟩ rfl ?_
      refine g_cellw (g := gb) (k := 4) (v := .slice (some ⟨b', f', none⟩) L cp') (R := Is (.slice (some ⟨b', f', none⟩) L cp')) (by rfl) (by exact fun _ _ _ h => h) (HB.out) isAgg_ders (stb_is _) (by exact fun _ _ => rfl) ?_
      refine g_move (R := Is (.int .i64 (kk : Int))) (by rfl) (stb_is _) (by exact fun _ _ _ h => h) ?_
      refine g_ixd (b := b') (f := f') (len := L) (c := cp') (i := kk) (by rfl) (by exact fun _ _ _ h => h) (by exact fun _ _ _ h => h) hkl ?_
      refine g_ldd (b := b') (k := f' + kk * 5) (vs := dcl ⟨c1, t1, k1, s1, kids⟩ a2 p2) (R := AtW wr (dvv ⟨c1, t1, k1, s1, kids⟩ a2 p2)) (by rfl) (by exact fun _ _ _ h => h) rfl (HEB.out) (stb_atw wr _) (by exact fun _ hb => ⟨rfl, hb⟩) ?_
      refine g_call2 (A := AtW wr (dvv ⟨c1, t1, k1, s1, kids⟩ a1 p1)) (A' := AtW wr (dvv ⟨c1, t1, k1, s1, kids⟩ a2 p2)) (R := Is (.bool true)) (by rfl) Tryz.func12 (by kernel_rfl) rfl (stb_is _) (by exact fun _ _ _ h => h) (by exact fun _ _ _ h => h) DC.out ?_
      intro w6 hR6 hb6 v48 h48 v49 h49 v50 h50 v51 h51 v52 h52 v53 h53 v54 h54 v55 h55 v56 h56 v57 h57 v58 h58
      simp only [softEnd, Act.put, List.setIfInBounds_toArray, List.set_cons_succ, List.set_cons_zero, List.drop_succ_cons, List.drop_zero]
      obtain rfl : v58 = .bool true := h58
      clear h48 h49 h50 h51 h52 h53 h54 h55 h56 h57
      go_wp2_with fail
      go_roundg nx.len
      case measure => omega
      case rel =>
        refine ⟨kk + 1, nx, by omega, rfl, by go_num, hR6, ?_, ?_, HRN.out.2.2⟩
        · rw [show f + 5 * (kk + 1) = f + 5 * kk + 5 by omega]; exact HRN.out.1
        · rw [show f' + 5 * (kk + 1) = f' + 5 * kk + 5 by omega]; exact HRN.out.2.1
theorem same_any (v : Dv) (ad : Option Addr) (cp : Nat) (ad' : Option Addr) (cp' : Nat) (w : World) (h : SlD w v.l ad cp) (h' : SlD w v.l ad' cp') : Calls Tryz.prog 12 #[dvv v ad cp, dvv v ad' cp'] w (RetB true w) := Dr.rec_all same_step v.l v.c v.t v.k v.b ad cp ad' cp' w h h'
end Go.Proofs.YtebhiplcoioenaaGreatDoor
