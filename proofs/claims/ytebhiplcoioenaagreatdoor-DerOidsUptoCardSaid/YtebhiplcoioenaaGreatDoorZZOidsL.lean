/- DerOids: the law's walk (gen_zoids.py). -/
import Derived.Test.YtebhiplcoioenaaGreatDoorZZLawKit
import Derived.Test.YtebhiplcoioenaaGreatDoorZZROfOid
namespace Go.Proofs.YtebhiplcoioenaaGreatDoor.derOids
open Go.RowKit

set_option maxRecDepth 100000 in
set_option maxHeartbeats 8000000 in
theorem law_any (v : Dv) (ad : Option Addr) (cp : Nat) (s : Bs) (w : World) (hsl : SlD w v.l ad cp) (hw : v.b.length + 4 + v.l.wt ≤ 1048576) (hs : s.length ≤ 1048576) (hg : Gd w) : Calls Tryz.prog 6 #[dvv v ad cp, .string (bs s)] w (RetB true w) := by
  have hSB := SB_eq
  have hR := Rws.start w
  have HG := Lib.hid hg
  have HSL := Lib.hid hsl
  have HFX : Hid (∀ u, Below w.heap.size w u → Calls Tryz.prog 13 #[] u (RetB true u)) := Lib.hid fun u hu => fixed_any u (hg.below hu)
  have key : ∀ (x : Dv) (ad : Option Addr) (cp : Nat) u, x.b.length ≤ 1048576 → Below w.heap.size w u → Calls Tryz.prog 16 #[dvv x ad cp] u fun e w' => e = .returned (.tuple #[.string (bs (oidS x).1), .int .i64 (oidS x).2]) ∧ Below u.heap.size u w' := fun x ad cp u hx hu => Oid_any x ad cp u (by omega) (hg.below hu) (fun t htm hc htt u2 hu2 => Check_prim x ad cp u2 hc (by rw [htt]; simp only [List.mem_cons, List.not_mem_nil, or_false] at htm; rw [htm]; decide) (by omega) (fun _ => hx) (hg.below (hu.trans (hu2.mono hu.size))))
  have HTI : Hid (∀ u, Below w.heap.size w u → Calls Tryz.prog 16 #[dvv v ad cp] u fun e w' => e = .returned (.tuple #[.string (bs (oidS v).1), .int .i64 (oidS v).2]) ∧ Below u.heap.size u w') := Lib.hid fun u hu => key v ad cp u (by omega) hu
  have HRT : Hid (∀ u, Below w.heap.size w u → Calls Tryz.prog 17 #[dvv v ad cp] u fun e w' => e = .returned (.tuple #[.string (bs (oidS v).1), .int .i64 (oidS v).2]) ∧ Below u.heap.size u w') := Lib.hid fun u _ => ROid_any v ad cp u (by omega)
  have HOT : Hid (∀ u, Below w.heap.size w u → Calls Tryz.prog 18 #[.string (bs s)] u (RetDv u (ofOidS s))) := Lib.hid fun u hu => OfOid_any s u hs (hg.below hu)
  have HRO : Hid (∀ u, Below w.heap.size w u → Calls Tryz.prog 19 #[.string (bs s)] u (RetDv u (ofOidS s))) := Lib.hid fun u _ => by
    rw [← ofoid_same]
    exact ROfOid_any s u hs
  have HTL : Hid (∀ a, oidS v = (a, 0) → ofOidS a = (v, 0)) := Lib.hid fun a h => oid_of h
  have HNB : Hid ((oidS v).2 = 0 → (oidS v).1.length ≤ 1048576) := Lib.hid fun h => by
    obtain ⟨g, h1, h2, h3, _, h5, _, h7⟩ := oid_ok (v := v) (a := (oidS v).1) (by rw [← h])
    rw [h5]
    have := text_len h2 h3
    have e : v.b = (g.map grpB).flatten := congrArg Dv.b h1
    rw [← e] at this
    omega
  have HVL : Hid ((oidS v).2 = 0 → v.l = .nil) := Lib.hid fun h => by
    obtain ⟨g, h1, _⟩ := oid_ok (v := v) (a := (oidS v).1) (by rw [← h])
    exact congrArg Dv.l h1
  have HOL : Hid (∀ x, ofOidS s = (x, 0) → oidS x = (s, 0)) := Lib.hid fun x h => of_oid h
  have HXB : Hid ((ofOidS s).2 = 0 → (ofOidS s).1.b.length ≤ 1048576) := Lib.hid fun h => by
    have h1 := of_oid (s := s) (x := (ofOidS s).1) (by rw [← h])
    obtain ⟨_, _, _, _, _, _, _, h7⟩ := oid_ok h1
    omega
  have hXl : (ofOidS s).1.l = .nil := by
    obtain ⟨x, e, hxe⟩ : ∃ x e, ofOidS s = (x, e) := ⟨_, _, rfl⟩
    rcases ofoid_fell hxe with rfl | ⟨_, rfl⟩
    · have h1 := of_oid hxe
      obtain ⟨g, h2, _⟩ := oid_ok h1
      rw [hxe]
      exact congrArg Dv.l h2
    · rw [hxe]; rfl
  obtain ⟨XG, hXG⟩ : ∃ XG, XG = ofOidS s := ⟨_, rfl⟩
  obtain ⟨NE, hNE⟩ : ∃ NE, NE = oidS v := ⟨_, rfl⟩
  obtain ⟨X, G⟩ := XG
  obtain ⟨N, E⟩ := NE
  rw [← hXG] at HOT HRO HOL hXl HXB
  rw [← hNE] at HTI HRT HTL HNB HVL
  simp only at hXl
  have HXL := Lib.hid hXl
  have HKEY := Lib.hid key
  clear hXG hNE hg hw hs hXl key hsl
  have eN : ((bs N).toList == (bs N).toList) = true := by simp
  have eE : (E == E) = true := by simp
  have eG : (G == G) = true := by simp
  have HSX : Hid (∀ u, Calls Tryz.prog 12 #[dvv X none 0, dvv X none 0] u (RetB true u)) := Lib.hid fun u => same_any X none 0 none 0 u (by rw [HXL.out]; exact SlD.nil u) (by rw [HXL.out]; exact SlD.nil u)
  go_enter Tryz.func6, Tryz.ntmps6
  go_upto_region 1 with (refine wpList_box_rws rfl _ _ (by rfl) (by exact hR) (dvC v ad cp) rfl ?_; intro g2 w1 hR)
  go_upto_region 2 with (first
    | (refine wpList_load_rws rfl _ _ (by rfl) (by exact hR) g2 rfl (dvC v ad cp) _ (by repeat (first | exact List.Mem.head _ | refine List.Mem.tail _ ?_)) _ Tryz.underlying24 rfl (by kernel_rfl) ?_)
    | (go_at_call 16; refine (HTI.out _ hR.below).mono ?_; rintro e wn ⟨rfl, hb⟩; have hR := hR.call hb; clear hb))
  go_upto_region 3 with (first
    | (refine wpList_load_rws rfl _ _ (by rfl) (by exact hR) g2 rfl (dvC v ad cp) _ (by repeat (first | exact List.Mem.head _ | refine List.Mem.tail _ ?_)) _ Tryz.underlying24 rfl (by kernel_rfl) ?_)
    | (go_at_call 17; refine (HRT.out _ hR.below).mono ?_; rintro e wn ⟨rfl, hb⟩; have hR := hR.call hb; clear hb))
  go_upto_region 4 with (first
    | (go_at_call 18; refine (HOT.out _ hR.below).mono ?_; rintro e wn ⟨hlX, rfl, hb⟩; have hR := hR.call hb; clear hb hlX)
    | (refine wQ_alloc (cs := dvC .zero none 0) rfl _ (by rfl) (by exact hR) zero_der ?_; intro g9 wq hR hbq hgq)
    | (refine wQ_store rfl _ _ _ (by rfl) (by exact hR) g9 rfl (dvC X none 0) (by rfl) _ _ _ (by repeat (first | exact Pick.here | apply Pick.there)) (by kernel_rfl) (by rfl) (dv_one _ _ _) ?_; intro wr hR hsmr hszr))
  clear hbq hgq hsmr hszr
  go_upto_region 5 with (first
    | (go_at_call 19; refine (HRO.out _ hR.below).mono ?_; rintro e wn ⟨hlX, rfl, hb⟩; have hR := hR.call hb; clear hb hlX)
    | (refine wQ_alloc (cs := dvC .zero none 0) rfl _ (by rfl) (by exact hR) zero_der ?_; intro g11 wq hR hbq hgq)
    | (refine wQ_store rfl _ _ _ (by rfl) (by exact hR) g11 rfl (dvC X none 0) (by rfl) _ _ _ (by repeat (first | exact Pick.here | apply Pick.there)) (by kernel_rfl) (by rfl) (dv_one _ _ _) ?_; intro wr hR hsmr hszr))
  clear hbq hgq hsmr hszr
  go_upto_region 7 with (first
    | (go_at_call 13; refine (HFX.out _ hR.below).mono ?_; rintro e wn ⟨rfl, hb⟩; have hR := hR.call hb; clear hb; have q0 := hR.cellAt (g := g9) (by repeat (first | exact List.Mem.head _ | refine List.Mem.tail _ ?_)) 0 rfl; have q1 := hR.cellAt (g := g9) (by repeat (first | exact List.Mem.head _ | refine List.Mem.tail _ ?_)) 1 rfl; have q2 := hR.cellAt (g := g9) (by repeat (first | exact List.Mem.head _ | refine List.Mem.tail _ ?_)) 2 rfl; have q3 := hR.cellAt (g := g9) (by repeat (first | exact List.Mem.head _ | refine List.Mem.tail _ ?_)) 3 rfl; have q4 := hR.cellAt (g := g9) (by repeat (first | exact List.Mem.head _ | refine List.Mem.tail _ ?_)) 4 rfl; have p0 := hR.cellAt (g := g11) (by repeat (first | exact List.Mem.head _ | refine List.Mem.tail _ ?_)) 0 rfl; have p1 := hR.cellAt (g := g11) (by repeat (first | exact List.Mem.head _ | refine List.Mem.tail _ ?_)) 1 rfl; have p2 := hR.cellAt (g := g11) (by repeat (first | exact List.Mem.head _ | refine List.Mem.tail _ ?_)) 2 rfl; have p3 := hR.cellAt (g := g11) (by repeat (first | exact List.Mem.head _ | refine List.Mem.tail _ ?_)) 3 rfl; have p4 := hR.cellAt (g := g11) (by repeat (first | exact List.Mem.head _ | refine List.Mem.tail _ ?_)) 4 rfl)
    | (go_at_call 12; refine (HSX.out _).mono ?_; rintro e wn ⟨rfl, hb⟩; have hR := hR.call hb; clear hb))
  clear eN eE eG q0 q1 q2 q3 q4 p0 p1 p2 p3 p4
  by_cases hE : E = 0
  · subst hE
    have hz := HTL.out N rfl
    have hnb := HNB.out rfl
    have HO2 : Hid (∀ u, Below w.heap.size w u → Calls Tryz.prog 18 #[.string (bs N)] u (RetDv u (v, 0))) := Lib.hid fun u hu => by
      have := OfOid_any N u hnb (HG.out.below hu)
      rw [hz] at this
      exact this
    have hvl := HVL.out rfl
    have HSV : Hid (∀ u, Below w.heap.size w u → Calls Tryz.prog 12 #[dvv v none 0, dvv v ad cp] u (RetB true u)) := Lib.hid fun u hu => same_any v none 0 ad cp u (by rw [hvl]; exact SlD.nil u) (HSL.out.grown hu)
    clear hz hnb hvl
    go_upto_region 9 with (first
      | (go_at_call 18; refine (HO2.out _ hR.below).mono ?_; rintro e wn ⟨hlX, rfl, hb⟩; have hR := hR.call hb; clear hb hlX)
      | (refine wQ_alloc (cs := dvC .zero none 0) rfl _ (by rfl) (by exact hR) zero_der ?_; intro g13 wq hR hbq hgq)
      | (refine wQ_store rfl _ _ _ (by rfl) (by exact hR) g13 rfl (dvC v none 0) (by rfl) _ _ _ (by repeat (first | exact Pick.here | apply Pick.there)) (by kernel_rfl) (by rfl) (dv_one _ _ _) ?_; intro wr hR hsmr hszr))
    clear hbq hgq hsmr hszr
    have q0 := hR.cellAt (g := g13) (by repeat (first | exact List.Mem.head _ | refine List.Mem.tail _ ?_)) 0 rfl
    have q1 := hR.cellAt (g := g13) (by repeat (first | exact List.Mem.head _ | refine List.Mem.tail _ ?_)) 1 rfl
    have q2 := hR.cellAt (g := g13) (by repeat (first | exact List.Mem.head _ | refine List.Mem.tail _ ?_)) 2 rfl
    have q3 := hR.cellAt (g := g13) (by repeat (first | exact List.Mem.head _ | refine List.Mem.tail _ ?_)) 3 rfl
    have q4 := hR.cellAt (g := g13) (by repeat (first | exact List.Mem.head _ | refine List.Mem.tail _ ?_)) 4 rfl
    have p0 := hR.cellAt (g := g2) (by repeat (first | exact List.Mem.head _ | refine List.Mem.tail _ ?_)) 0 rfl
    have p1 := hR.cellAt (g := g2) (by repeat (first | exact List.Mem.head _ | refine List.Mem.tail _ ?_)) 1 rfl
    have p2 := hR.cellAt (g := g2) (by repeat (first | exact List.Mem.head _ | refine List.Mem.tail _ ?_)) 2 rfl
    have p3 := hR.cellAt (g := g2) (by repeat (first | exact List.Mem.head _ | refine List.Mem.tail _ ?_)) 3 rfl
    have p4 := hR.cellAt (g := g2) (by repeat (first | exact List.Mem.head _ | refine List.Mem.tail _ ?_)) 4 rfl
    go_upto_region 11 with (go_at_call 12; refine (HSV.out _ hR.below).mono ?_; rintro e wn ⟨rfl, hb⟩; have hR := hR.call hb; clear hb)
    clear q0 q1 q2 q3 q4 p0 p1 p2 p3 p4
    by_cases hG : G = 0
    · subst hG
      have HTX : Hid (∀ u, Below w.heap.size w u → Calls Tryz.prog 16 #[dvv X none 0] u fun e w' => e = .returned (.tuple #[.string (bs s), .int .i64 0]) ∧ Below u.heap.size u w') := Lib.hid fun u hu => by
        have hx := HOL.out X rfl
        have := HKEY.out X none 0 u (by have := HXB.out rfl; omega) hu
        rw [hx] at this
        exact this
      go_upto_region 13 with (first
        | (refine wpList_load_rws rfl _ _ (by rfl) (by exact hR) g9 rfl (dvC X none 0) _ (by repeat (first | exact List.Mem.head _ | refine List.Mem.tail _ ?_)) _ Tryz.underlying24 rfl (by kernel_rfl) ?_)
        | (go_at_call 16; refine (HTX.out _ hR.below).mono ?_; rintro e wn ⟨rfl, hb⟩; have hR := hR.call hb; clear hb))
      have eT : ((bs s).toList == (bs s).toList) = true := by simp
      go_wp2_with fail
      go_ret
      exact ⟨rfl, hR.below⟩
    · have hez : (G == 0) = false := by simpa using hG
      go_wp2_with fail
      go_ret
      exact ⟨rfl, hR.below⟩
  · have hez : (E == 0) = false := by simpa using hE
    go_upto_region 11 with fail
    clear hez
    by_cases hG : G = 0
    · subst hG
      have HTX : Hid (∀ u, Below w.heap.size w u → Calls Tryz.prog 16 #[dvv X none 0] u fun e w' => e = .returned (.tuple #[.string (bs s), .int .i64 0]) ∧ Below u.heap.size u w') := Lib.hid fun u hu => by
        have hx := HOL.out X rfl
        have := HKEY.out X none 0 u (by have := HXB.out rfl; omega) hu
        rw [hx] at this
        exact this
      go_upto_region 13 with (first
        | (refine wpList_load_rws rfl _ _ (by rfl) (by exact hR) g9 rfl (dvC X none 0) _ (by repeat (first | exact List.Mem.head _ | refine List.Mem.tail _ ?_)) _ Tryz.underlying24 rfl (by kernel_rfl) ?_)
        | (go_at_call 16; refine (HTX.out _ hR.below).mono ?_; rintro e wn ⟨rfl, hb⟩; have hR := hR.call hb; clear hb))
      have eT : ((bs s).toList == (bs s).toList) = true := by simp
      go_wp2_with fail
      go_ret
      exact ⟨rfl, hR.below⟩
    · have hez : (G == 0) = false := by simpa using hG
      go_wp2_with fail
      go_ret
      exact ⟨rfl, hR.below⟩
end Go.Proofs.YtebhiplcoioenaaGreatDoor.derOids
