/- ostiarylaw06.deep: the walk (gen_zdeepw.py). -/
import Derived.Test.YtebhiplcoioenaaGreatDoorZZGS
import Derived.Test.YtebhiplcoioenaaGreatDoorZDG
import Derived.Test.YtebhiplcoioenaaGreatDoorZZDeep
import Derived.Deep.LoopGhost
namespace Go.Proofs.YtebhiplcoioenaaGreatDoor
open Go.RowKit

theorem deeps_wt : ∀ F : Dr, deepsS F ≤ F.wt
  | .nil => Nat.le_refl _
  | .cons c t k b kids nx => by
    have h1 := deeps_wt kids
    have h2 := deeps_wt nx
    simp only [deepsS, Dr.wt]
    cases k
    · simp only [Bool.false_eq_true, if_false]; omega
    · simp only [if_true]; omega
def DeepAt (F : Dr) : Prop := ∀ (c t : Int) (k : Bool) (s : Bs) (ad : Option Addr) (cp : Nat) (w : World), F.wt ≤ 4000000 → SlD w F ad cp →
  Calls Tryz.prog 24 #[dvv ⟨c, t, k, s, F⟩ ad cp] w (RetI ((⟨c, t, k, s, F⟩ : Dv).deep : Nat) w)
set_option maxRecDepth 100000 in
set_option maxHeartbeats 4000000 in
theorem deep_step (F : Dr) (h : F.All DeepAt) : DeepAt F := by
  intro c t k s ad cp w hw hs
  have hMX := MX_eq
  obtain ⟨hle, hcm, b, f, had, hrow⟩ := hs
  have hR := Rws.start w
  have hdw := deeps_wt F
  go_enter Tryz.func24, Tryz.ntmps24
  go_upto_region 1 with (refine wpList_box_rws rfl _ _ (by rfl) (by assumption) (dvC ⟨c, t, k, s, F⟩ ad cp) rfl ?_; intro ga w1 hR)
  have HR0 := Lib.hid hR
  have HROW := Lib.hid hrow
  have HIH := Lib.hid h
  have HAD : Hid (F.len ≠ 0 → ad = some ⟨b, f, none⟩) := Lib.hid (fun hne => by rcases had with h | ⟨_, h⟩; exact h; omega)
  obtain ⟨L, hL⟩ : ∃ L, L = F.len := ⟨_, rfl⟩
  have HL := Lib.hid hL
  have HW := Lib.hid hw
  obtain ⟨DN, hDN⟩ : ∃ DN, DN = deepsS F := ⟨_, rfl⟩
  have HDN := Lib.hid hDN
  have hDl : DN ≤ 4000000 := by omega
  have hlm : L ≤ MX := by omega
  clear h hrow had hR hL hle hw hDN hdw
  go_upto_region 3 with fail
  go_loopg [3, 4] F.len (fun gg s3 s4 wr => ∃ (kk : Nat) (G : Dr) (m : Nat), kk + G.len = L ∧ gg = G.len ∧ s3 = .int .i64 (m : Nat) ∧ s4 = .int .i64 kk ∧ m ≤ DN ∧ Aside (max m (deepsS G) = DN ∧ G.wt ≤ 4000000) ∧ Aside (Rws w.heap.size w wr [(ga, (dvC ⟨c, t, k, s, F⟩ ad cp), 24)]) ∧ Aside (Row w G b (f + 5 * kk)) ∧ Aside (G.All DeepAt))
  case atStart => exact ⟨0, F, 0, by rw [HL.out]; omega, rfl, rfl, rfl, Nat.zero_le _, ⟨by rw [HDN.out]; omega, HW.out⟩, HR0.out, HROW.out, HIH.out⟩
  case round =>
    obtain ⟨kk, G, m, hkk, rfl, rfl, rfl, hmD, HM, HR, HG, HP⟩ := hrel
    have hRw := HR.out
    have hbw := hRw.below
    have r4 : wr.cell? ⟨ga, 4, none⟩ = some (.slice ad L cp) := by rw [HL.out]; exact hRw.cellAt (g := ga) (by repeat (first | exact List.Mem.head _ | refine List.Mem.tail _ ?_)) 4 rfl
    have r2 := hRw.cellAt (g := ga) (by repeat (first | exact List.Mem.head _ | refine List.Mem.tail _ ?_)) 2 rfl
    clear HR0 HROW HIH
    cases G with
    | nil =>
      have hltz : ¬ (kk : Int) < (L : Int) := by simp only [Dr.len] at hkk; omega
      have hme : m = DN := by have := HM.out.1; simp only [deepsS] at this; omega
      have HB := Lib.hid hbw
      have HE : Hid ((⟨c, t, k, s, F⟩ : Dv).deep = if k = true then DN + 1 else DN) := Lib.hid (by rw [HDN.out]; rfl)
      subst hme
      clear hbw hRw
      cases k with
      | true =>
        go_wp2_with fail
        go_ret
        rw [HE.out]
        exact ⟨rfl, HB.out⟩
      | false =>
        go_wp2_with fail
        go_ret
        rw [HE.out]
        exact ⟨rfl, HB.out⟩
    | cons c1 t1 k1 s1 kids nx =>
      have hln : (Dr.cons c1 t1 k1 s1 kids nx).len = nx.len + 1 := rfl
      have hkl : kk < L := by omega
      have hltz : (kk : Int) < (L : Int) := by omega
      obtain ⟨a1, p1, h0, h1, h2, h3, h4, _, hsl, hrn⟩ := (HG.out).kids
      obtain rfl := HAD.out (by rw [← HL.out]; omega)
      obtain ⟨hp1, hpn⟩ := HP.out
      obtain ⟨X, hX⟩ : ∃ X, X = (⟨c1, t1, k1, s1, kids⟩ : Dv).deep := ⟨_, rfl⟩
      have hwt := HM.out.2
      simp only [Dr.wt] at hwt
      have DC : Hid (∀ u, Below wr.heap.size wr u → Calls Tryz.prog 24 #[dvv ⟨c1, t1, k1, s1, kids⟩ a1 p1] u (RetI (X : Nat) u)) := Lib.hid fun u hu => by
        rw [hX]; exact hp1 c1 t1 k1 s1 a1 p1 u (by omega) (hsl.grown (hbw.trans (hu.mono hbw.size)))
      have hmx := HM.out.1
      have hXD : X ≤ DN ∧ max (max m X) (deepsS nx) = DN := by
        have e : deepsS (.cons c1 t1 k1 s1 kids nx) = max X (deepsS nx) := by rw [hX]; rfl
        rw [e] at hmx
        omega
      have HXD := Lib.hid hXD.2
      have HNW : Hid (nx.wt ≤ 4000000) := Lib.hid (by omega)
      have hXl := hXD.1
      have hblt : b < w.heap.size := World.block_lt_of_cell? w _ h0
      have g0 := (hbw.cell (p := ⟨b, f + 5 * kk, none⟩) hblt).trans h0
      have g1 := (hbw.cell (p := ⟨b, f + 5 * kk + 1, none⟩) hblt).trans h1
      have g2 := (hbw.cell (p := ⟨b, f + 5 * kk + 2, none⟩) hblt).trans h2
      have g3 := (hbw.cell (p := ⟨b, f + 5 * kk + 3, none⟩) hblt).trans h3
      have g4 := (hbw.cell (p := ⟨b, f + 5 * kk + 4, none⟩) hblt).trans h4
      have HRN := Lib.hid (And.intro hrn hpn)
      rw [Nat.mul_comm 5 kk] at g0 g1 g2 g3 g4
      clear hp1 hpn HP HG hrn hsl h0 h1 h2 h3 h4 hX hXD hmx hwt HM
      go_wp2_with (go_at_call 24; refine (DC.out _ (Below.refl _ _)).mono ?_; rintro e w5 ⟨rfl, hb5⟩)
      all_goals
        have hR5 := (HR.out).call hb5
        go_roundg nx.len
        case measure => omega
        case rel =>
          refine ⟨kk + 1, nx, _, by omega, rfl, rfl, by go_num, by omega, ⟨by have := HXD.out; omega, HNW.out⟩, hR5, ?_, HRN.out.2⟩
          rw [show f + 5 * (kk + 1) = f + 5 * kk + 5 by omega]; exact HRN.out.1
theorem deep_any (v : Dv) (ad : Option Addr) (cp : Nat) (w : World) (hw : v.l.wt ≤ 4000000) (h : SlD w v.l ad cp) : Calls Tryz.prog 24 #[dvv v ad cp] w (RetI (v.deep : Nat) w) := Dr.rec_all deep_step v.l v.c v.t v.k v.b ad cp w hw h
end Go.Proofs.YtebhiplcoioenaaGreatDoor
