/- DerNats: the law's walk (gen_znats.py). -/
import Derived.Test.YtebhiplcoioenaaGreatDoorZZLawKit
import Derived.Test.YtebhiplcoioenaaGreatDoorZZRNatW
import Derived.Test.YtebhiplcoioenaaGreatDoorZZTimeW
namespace Go.Proofs.YtebhiplcoioenaaGreatDoor.derNats
open Go.RowKit

set_option maxRecDepth 100000 in
set_option maxHeartbeats 8000000 in
theorem law_any (v : Dv) (ad : Option Addr) (cp : Nat) (a : Bs) (w : World) (hsl : SlD w v.l ad cp) (hw : v.b.length + 4 + v.l.wt ≤ 1048576) (hs : a.length ≤ 1048576) (hg : Gd w) : Calls Tryz.prog 9 #[dvv v ad cp, .string (bs a)] w (RetB true w) := by
  have hSB := SB_eq
  have hR := Rws.start w
  have HG := Lib.hid hg
  have HFX : Hid (∀ u, Below w.heap.size w u → Calls Tryz.prog 13 #[] u (RetB true u)) := Lib.hid fun u hu => fixed_any u (hg.below hu)
  have HCK : ∀ u, Below w.heap.size w u → ∀ u2, Below u.heap.size u u2 → Calls Tryz.prog 15 #[dvv v ad cp] u2 (RetI v.check u2) := fun u hu u2 hu2 => Check_any v ad cp u2 hw (hsl.grown (hu.trans (hu2.mono hu.size))) (hg.below (hu.trans (hu2.mono hu.size)))
  have HN : Hid (∀ u, Below w.heap.size w u → Calls Tryz.prog 25 #[dvv v ad cp] u fun e w' => e = .returned (.tuple #[.string (bs (natS v).1), .int .i64 (natS v).2]) ∧ Below u.heap.size u w') := Lib.hid fun u hu => Nat_any v ad cp u (by omega) (hg.below hu) (fun t _ _ _ u2 hu2 => HCK u hu u2 hu2)
  have HRN : Hid (∀ u, Below w.heap.size w u → Calls Tryz.prog 26 #[dvv v ad cp] u fun e w' => e = .returned (.tuple #[.string (bs (natS v).1), .int .i64 (natS v).2]) ∧ Below u.heap.size u w') := Lib.hid fun u _ => RNat_any v ad cp u (by omega)
  have HBI : Hid (∀ u, Below w.heap.size w u → Calls Tryz.prog 28 #[dvv v ad cp] u fun e w' => e = .returned (.tuple #[.string (bs (bitsS v).1), .int .i64 (bitsS v).2.1, .int .i64 (bitsS v).2.2]) ∧ Below u.heap.size u w') := Lib.hid fun u hu => Bits_any v ad cp u (by omega) (hg.below hu) (fun t _ _ _ u2 hu2 => HCK u hu u2 hu2)
  have HRB : Hid (∀ u, Below w.heap.size w u → Calls Tryz.prog 29 #[dvv v ad cp] u fun e w' => e = .returned (.tuple #[.string (bs (bitsS v).1), .int .i64 (bitsS v).2.1, .int .i64 (bitsS v).2.2]) ∧ Below u.heap.size u w') := Lib.hid fun u _ => RBits_any v ad cp u (by omega)
  have HON : Hid (∀ u, Below w.heap.size w u → Calls Tryz.prog 27 #[.string (bs a)] u (RetDv u (ofNatS a))) := Lib.hid fun u _ => OfNat_any a u (by omega)
  have HNL : Hid (∀ n, natS v = (n, 0) → n.length ≤ 512 → ofNatS n = (v, 0)) := Lib.hid fun n h hl => (nat_law h hl).1
  have HLE : Hid (∀ n, natS v = (n, 0) → n.length ≤ 1048576) := Lib.hid fun n h => by
    have h1 : (natS v).1 = n := by rw [h]
    have h2 : n.length ≤ v.b.length := by
      rw [← h1]
      unfold natS
      by_cases hk : v.isK 2 = true
      · rw [if_pos hk]
        by_cases h7 : 127 < (v.b.headD 0).toNat
        · rw [if_pos h7]; simp
        · rw [if_neg h7]; exact trim_len _
      · rw [if_neg hk]; simp
    omega
  obtain ⟨XG, hXG⟩ : ∃ XG, XG = ofNatS a := ⟨_, rfl⟩
  obtain ⟨NE, hNE⟩ : ∃ NE, NE = natS v := ⟨_, rfl⟩
  obtain ⟨SKI, hSKI⟩ : ∃ SKI, SKI = bitsS v := ⟨_, rfl⟩
  obtain ⟨X, G⟩ := XG
  obtain ⟨N, E⟩ := NE
  obtain ⟨S, K, I⟩ := SKI
  rw [← hXG] at HON
  rw [← hNE] at HN HRN HNL HLE
  rw [← hSKI] at HBI HRB
  have HXG := Lib.hid hXG
  have HSL := Lib.hid hsl
  have HA := Lib.hid hs
  clear hXG hNE hSKI hg hw hs hsl HCK
  have eN : ((bs N).toList == (bs N).toList) = true := by simp
  have eE : (E == E) = true := by simp
  have eS : ((bs S).toList == (bs S).toList) = true := by simp
  have eK : ((K : Int) == (K : Int)) = true := by simp
  have eI : (I == I) = true := by simp
  go_enter Tryz.func9, Tryz.ntmps9
  go_upto_region 1 with (refine wpList_box_rws rfl _ _ (by rfl) (by exact hR) (dvC v ad cp) rfl ?_; intro g2 w1 hR)
  go_upto_region 2 with (first
    | (refine wpList_load_rws rfl _ _ (by rfl) (by exact hR) g2 rfl (dvC v ad cp) _ (by repeat (first | exact List.Mem.head _ | refine List.Mem.tail _ ?_)) _ Tryz.underlying24 rfl (by kernel_rfl) ?_)
    | (go_at_call 25; refine (HN.out _ hR.below).mono ?_; rintro e wn ⟨rfl, hb⟩; have hR := hR.call hb; clear hb))
  go_upto_region 3 with (first
    | (refine wpList_load_rws rfl _ _ (by rfl) (by exact hR) g2 rfl (dvC v ad cp) _ (by repeat (first | exact List.Mem.head _ | refine List.Mem.tail _ ?_)) _ Tryz.underlying24 rfl (by kernel_rfl) ?_)
    | (go_at_call 26; refine (HRN.out _ hR.below).mono ?_; rintro e wn ⟨rfl, hb⟩; have hR := hR.call hb; clear hb))
  go_upto_region 4 with (first
    | (go_at_call 27; refine (HON.out _ hR.below).mono ?_; rintro e wn ⟨hlX, rfl, hb⟩; have hR := hR.call hb; clear hb)
    | (refine wQ_alloc (cs := dvC .zero none 0) rfl _ (by rfl) (by exact hR) zero_der ?_; intro g9 wq hR hbq hgq)
    | (refine wQ_store rfl _ _ _ (by rfl) (by exact hR) g9 rfl (dvC X none 0) (by rfl) _ _ _ (by repeat (first | exact Pick.here | apply Pick.there)) (by kernel_rfl) (by rfl) (dv_one _ _ _) ?_; intro wr hR hsmr hszr))
  clear hbq hgq hsmr hszr
  go_upto_region 5 with (first
    | (refine wpList_load_rws rfl _ _ (by rfl) (by exact hR) g2 rfl (dvC v ad cp) _ (by repeat (first | exact List.Mem.head _ | refine List.Mem.tail _ ?_)) _ Tryz.underlying24 rfl (by kernel_rfl) ?_)
    | (go_at_call 28; refine (HBI.out _ hR.below).mono ?_; rintro e wn ⟨rfl, hb⟩; have hR := hR.call hb; clear hb))
  go_upto_region 6 with (first
    | (refine wpList_load_rws rfl _ _ (by rfl) (by exact hR) g2 rfl (dvC v ad cp) _ (by repeat (first | exact List.Mem.head _ | refine List.Mem.tail _ ?_)) _ Tryz.underlying24 rfl (by kernel_rfl) ?_)
    | (go_at_call 29; refine (HRB.out _ hR.below).mono ?_; rintro e wn ⟨rfl, hb⟩; have hR := hR.call hb; clear hb))
  go_upto_region 8 with (go_at_call 13; refine (HFX.out _ hR.below).mono ?_; rintro e wn ⟨rfl, hb⟩; have hR := hR.call hb; clear hb)
  clear eN eE eS eK eI
  go_upto_region 9 with (first
    | (go_at_call 31; refine (r3_of a _ HA.out).mono ?_; rintro e w3 ⟨ro, k3, c3, rfl, hN3, hk3, hb3⟩; have hR := hR.call hb3)
    | (go_at_call 30; refine (r3_form a ro k3 c3 w3 _ hN3 hk3 (Below.refl _ _)).mono ?_; rintro e w4 ⟨rfl, hb4⟩; have hR := hR.call hb4))
  clear hb3 hb4 hN3 hk3
  obtain ⟨T, hT⟩ : ∃ T, T = trimS a := ⟨_, rfl⟩
  have hTl : T.length ≤ 1048576 := by rw [hT]; exact Nat.le_trans (trim_len a) HA.out
  have HT := Lib.hid hT
  rw [← hT]
  clear hT
  have zT := bs_size T
  by_cases hl : 512 < T.length
  · have hx := HXG.out
    rw [ofnat_long (by rw [← HT.out]; exact hl)] at hx
    obtain ⟨rfl, rfl⟩ := Prod.mk.inj hx
    have hlz : (512 : Int) < (T.length : Int) := by omega
    have HSZ : Hid (∀ u, Calls Tryz.prog 12 #[dvv .zero none 0, dvv .zero none 0] u (RetB true u)) := Lib.hid fun u => same_any .zero none 0 none 0 u (SlD.nil u) (SlD.nil u)
    clear hx
    have q0 := hR.cellAt (g := g9) (by repeat (first | exact List.Mem.head _ | refine List.Mem.tail _ ?_)) 0 rfl
    have q1 := hR.cellAt (g := g9) (by repeat (first | exact List.Mem.head _ | refine List.Mem.tail _ ?_)) 1 rfl
    have q2 := hR.cellAt (g := g9) (by repeat (first | exact List.Mem.head _ | refine List.Mem.tail _ ?_)) 2 rfl
    have q3 := hR.cellAt (g := g9) (by repeat (first | exact List.Mem.head _ | refine List.Mem.tail _ ?_)) 3 rfl
    have q4 := hR.cellAt (g := g9) (by repeat (first | exact List.Mem.head _ | refine List.Mem.tail _ ?_)) 4 rfl
    go_wp2_with (go_at_call 12; refine (HSZ.out _).mono ?_; rintro e w8 ⟨rfl, hb8⟩; have hR := hR.call hb8)
    go_ret
    exact ⟨rfl, hR.below⟩
  · have hlaw := ofnat_law (a := a) (by rw [← HT.out]; omega)
    have hx := HXG.out
    rw [hlaw.1] at hx
    obtain ⟨rfl, rfl⟩ := Prod.mk.inj hx
    have hlz : ¬ (512 : Int) < (T.length : Int) := by omega
    rw [← HT.out] at hlaw hR
    obtain ⟨P, hP⟩ : ∃ P, P = padS T := ⟨_, rfl⟩
    have hPl : P.length ≤ 513 := by rw [hP]; have := (pad_len T).1; omega
    rw [← hP] at hlaw hR
    have HCX : Hid (∀ u, Below w.heap.size w u → Calls Tryz.prog 15 #[dvv (natV P) none 0] u (RetI 0 u)) := Lib.hid fun u hu => by
      have := Check_any (natV P) none 0 u (by show P.length + 4 + 0 ≤ 1048576; omega) (SlD.nil u) (HG.out.below hu)
      rw [hlaw.2.2] at this
      exact this
    have HNX : Hid (∀ u, Below w.heap.size w u → Calls Tryz.prog 25 #[dvv (natV P) none 0] u fun e w' => e = .returned (.tuple #[.string (bs T), .int .i64 0]) ∧ Below u.heap.size u w') := Lib.hid fun u hu => by
      have := Nat_any (natV P) none 0 u (by show P.length ≤ SB; omega) (HG.out.below hu) (fun t _ _ _ u2 hu2 => Check_any (natV P) none 0 u2 (by show P.length + 4 + 0 ≤ 1048576; omega) (SlD.nil u2) (HG.out.below (hu.trans (hu2.mono hu.size))))
      rw [hlaw.2.1] at this
      exact this
    clear hx hlaw hP
    have eT : ((bs T).toList == (bs T).toList) = true := by simp
    go_upto_region 12 with (first
      | (refine wpList_load_rws rfl _ _ (by rfl) (by exact hR) g9 rfl (dvC (natV P) none 0) _ (by repeat (first | exact List.Mem.head _ | refine List.Mem.tail _ ?_)) _ Tryz.underlying24 rfl (by kernel_rfl) ?_)
      | (go_at_call 25; refine (HNX.out _ hR.below).mono ?_; rintro e wn ⟨rfl, hb⟩; have hR := hR.call hb; clear hb))
    have q0 := hR.cellAt (g := g9) (by repeat (first | exact List.Mem.head _ | refine List.Mem.tail _ ?_)) 0 rfl
    have q1 := hR.cellAt (g := g9) (by repeat (first | exact List.Mem.head _ | refine List.Mem.tail _ ?_)) 1 rfl
    have q2 := hR.cellAt (g := g9) (by repeat (first | exact List.Mem.head _ | refine List.Mem.tail _ ?_)) 2 rfl
    have q3 := hR.cellAt (g := g9) (by repeat (first | exact List.Mem.head _ | refine List.Mem.tail _ ?_)) 3 rfl
    have q4 := hR.cellAt (g := g9) (by repeat (first | exact List.Mem.head _ | refine List.Mem.tail _ ?_)) 4 rfl
    go_upto_region 14 with (go_at_call 15; refine (HCX.out _ hR.below).mono ?_; rintro e w8 ⟨rfl, hb8⟩; have hR := hR.call hb8)
    clear q0 q1 q2 q3 q4 eT
    by_cases hE : E = 0
    · subst hE
      have hNl := HLE.out N rfl
      have zN := bs_size N
      by_cases hn : N.length ≤ 512
      · have hnz : (N.length : Int) ≤ 512 := by omega
        have HOF : Hid (∀ u, Calls Tryz.prog 27 #[.string (bs N)] u (RetDv u (v, 0))) := Lib.hid fun u => by
          have := OfNat_any N u (by omega)
          rw [HNL.out N rfl hn] at this
          exact this
        go_upto_region 16 with (first
          | (go_at_call 27; refine (HOF.out _).mono ?_; rintro e wn ⟨hl9, rfl, hb⟩; have hR := hR.call hb; clear hb)
          | (refine wQ_alloc (cs := dvC .zero none 0) rfl _ (by rfl) (by exact hR) zero_der ?_; intro g20 wq hR hbq hgq)
          | (refine wQ_store rfl _ _ _ (by rfl) (by exact hR) g20 rfl (dvC v none 0) (by rfl) _ _ _ (by repeat (first | exact Pick.here | apply Pick.there)) (by kernel_rfl) (by rfl) (dv_one _ _ _) ?_; intro wr hR hsmr hszr))
        have HSA : Hid (∀ u, Below w.heap.size w u → Calls Tryz.prog 12 #[dvv v none 0, dvv v ad cp] u (RetB true u)) := Lib.hid fun u hu => same_any v none 0 ad cp u (by
          have : v.l = .nil := hl9
          rw [this]
          exact SlD.nil u) (HSL.out.grown hu)
        have q0 := hR.cellAt (g := g20) (by repeat (first | exact List.Mem.head _ | refine List.Mem.tail _ ?_)) 0 rfl
        have q1 := hR.cellAt (g := g20) (by repeat (first | exact List.Mem.head _ | refine List.Mem.tail _ ?_)) 1 rfl
        have q2 := hR.cellAt (g := g20) (by repeat (first | exact List.Mem.head _ | refine List.Mem.tail _ ?_)) 2 rfl
        have q3 := hR.cellAt (g := g20) (by repeat (first | exact List.Mem.head _ | refine List.Mem.tail _ ?_)) 3 rfl
        have q4 := hR.cellAt (g := g20) (by repeat (first | exact List.Mem.head _ | refine List.Mem.tail _ ?_)) 4 rfl
        have p0 := hR.cellAt (g := g2) (by repeat (first | exact List.Mem.head _ | refine List.Mem.tail _ ?_)) 0 rfl
        have p1 := hR.cellAt (g := g2) (by repeat (first | exact List.Mem.head _ | refine List.Mem.tail _ ?_)) 1 rfl
        have p2 := hR.cellAt (g := g2) (by repeat (first | exact List.Mem.head _ | refine List.Mem.tail _ ?_)) 2 rfl
        have p3 := hR.cellAt (g := g2) (by repeat (first | exact List.Mem.head _ | refine List.Mem.tail _ ?_)) 3 rfl
        have p4 := hR.cellAt (g := g2) (by repeat (first | exact List.Mem.head _ | refine List.Mem.tail _ ?_)) 4 rfl
        clear hl9
        go_wp2_with (go_at_call 12; refine (HSA.out _ hR.below).mono ?_; rintro e w8 ⟨rfl, hb8⟩; have hR := hR.call hb8)
        go_ret
        exact ⟨rfl, hR.below⟩
      · have hnz : ¬ (N.length : Int) ≤ 512 := by omega
        go_wp2_with fail
        go_ret
        exact ⟨rfl, hR.below⟩
    · have hez : (E == 0) = false := by simpa using hE
      go_wp2_with fail
      go_ret
      exact ⟨rfl, hR.below⟩
end Go.Proofs.YtebhiplcoioenaaGreatDoor.derNats
