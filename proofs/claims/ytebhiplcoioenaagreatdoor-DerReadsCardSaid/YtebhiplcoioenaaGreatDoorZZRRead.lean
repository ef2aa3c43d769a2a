/- ostiaryref06.read: the walk (gen_zrread.py). -/
import Derived.Test.YtebhiplcoioenaaGreatDoorZDS
import Derived.Test.YtebhiplcoioenaaGreatDoorZZRFine2
import Derived.Test.YtebhiplcoioenaaGreatDoorZZParse
import Derived.Test.YtebhiplcoioenaaGreatDoorZZOfOid
import Derived.Deep.CutBlock
import Derived.Deep.CutRange
namespace Go.Proofs.YtebhiplcoioenaaGreatDoor
open Go.RowKit

/-- What the document's read answers. -/
def RReadQ (w : World) (x : Int × Dv × Bs) (e : Ending) (w' : World) : Prop := ∃ ad cp, e = .returned (.tuple #[dvv x.2.1 ad cp, .string (bs x.2.2), .int .i64 x.1]) ∧ SlQ (fun k => w.heap.size ≤ k) w' x.2.1.l ad cp ∧ OwnD w.heap.size w' x.2.1.l.len ad cp ∧ x.2.1.b.length ≤ SB ∧ Below w.heap.size w w'
def RReadAt (h : Nat) : Prop := ∀ (s : Bs) (w : World), s.length ≤ 16384 → Calls Tryz.prog 37 #[.string (bs s), .int .i64 ((16 - h : Nat) : Nat)] w (RReadQ w (rdS h s))
@[reducible] def rawR (x : UInt8) : Array Value := #[.int .i64 ((x.toNat : Int) / 64), .int .i64 ((x.toNat : Int) % 32), .bool ((x.toNat : Int) / 32 % 2 == 1), .string ⟨#[]⟩, .slice none 0 0]
theorem rawR_eq (x : UInt8) : rawR x = dvC (dX x) none 0 := by
  have h5 : ((x.toNat : Int) / 32 % 2 == 1) = (x.toNat / 32 % 2 == 1) := by
    rw [Bool.eq_iff_iff]; simp; omega
  unfold rawR
  rw [h5]
  rfl
/-- A head's fault, by what the document asks. -/
theorem head_asks {C T : Int} {K : Bool} {n : Nat} (hc : 0 ≤ C ∧ C ≤ 3) (ht : 0 ≤ T ∧ T ≤ 31) : headE C T K [] 0 n = if (T == 31 || (C == 0 && !thereB T)) = true then 62 else if (C == 0 && (consR T != K)) = true then 61 else if (K && decide (16 ≤ n)) = true then 63 else 0 := by
  unfold headE
  by_cases h5 : (T == 31 || (C == 0 && !thereB T)) = true
  · rw [if_pos h5, if_pos]
    simp only [Bool.or_eq_true, beq_iff_eq, Bool.and_eq_true, Bool.not_eq_true'] at h5
    rcases h5 with h | h
    · exact Or.inr (Or.inr (Or.inr (Or.inl (by omega))))
    · exact Or.inr (Or.inr (Or.inr (Or.inr h)))
  · rw [if_neg h5]
    simp only [Bool.or_eq_true, beq_iff_eq, Bool.and_eq_true, Bool.not_eq_true', not_or, not_and] at h5
    have h1 : ¬ (C < 0 ∨ 3 < C ∨ T < 0 ∨ 30 < T ∨ (C = 0 ∧ thereB T = false)) := by
      rintro (h | h | h | h | h)
      · omega
      · omega
      · omega
      · exact h5.1 (by omega)
      · exact h5.2 h.1 h.2
    rw [if_neg h1]
    by_cases hc0 : C = 0
    · have hth : thereB T = true := by
        cases h : thereB T with
        | true => rfl
        | false => exact absurd h (h5.2 hc0)
      rw [consR_there hth]
      by_cases h7 : consB T = K
      · have e7 : (C == 0 && (consB T != K)) = false := by rw [h7]; simp
        rw [e7, if_neg (show ¬ ((C = 0 ∧ consB T ≠ K) ∨ (K = true ∧ ([] : Bs) ≠ []) ∨ (K = false ∧ 0 < 0)) from fun h => by
          rcases h with h | h | h
          · exact h.2 h7
          · exact h.2 rfl
          · exact absurd h.2 (by decide)), if_neg (show ¬ (false = true) by decide)]
        simp
      · have e7 : (C == 0 && (consB T != K)) = true := by simp [hc0, h7]
        rw [e7, if_pos rfl, if_pos (Or.inl ⟨hc0, h7⟩)]
    · have e7 : (C == 0 && (consR T != K)) = false := by simp [hc0]
      rw [e7, if_neg (show ¬ ((C = 0 ∧ consB T ≠ K) ∨ (K = true ∧ ([] : Bs) ≠ []) ∨ (K = false ∧ 0 < 0)) from fun h => by
        rcases h with h | h | h
        · exact hc0 h.1
        · exact h.2 rfl
        · exact absurd h.2 (by decide)), if_neg (show ¬ (false = true) by decide)]
      simp
set_option maxRecDepth 100000 in
set_option maxHeartbeats 16000000 in
theorem rread_step (h : Nat) (h16 : h ≤ 16) (IH : ∀ hp, h = hp + 1 → RReadAt hp) : RReadAt h := by
  intro s w hs
  have hSB := SB_eq
  have hMX := MX_eq
  have hR := Rws.start w
  cases s with
  | nil =>
    have HXE : Hid (rdS h [] = (60, .zero, [])) := Lib.hid (by rw [rdS_B]; rfl)
    have zs := bs_size ([] : Bs)
    have hze : (bs ([] : Bs)).toList.isEmpty = true := by rw [bs_list]; rfl
    clear IH
    go_enter Tryz.func37, Tryz.ntmps37
    go_upto_region 1 with (refine wpList_alloc_rws rfl _ (by rfl) (by exact hR) (dvC .zero none 0) zero_der ?_; intro g4 w1 hR)
    go_wp2_with (refine wQ_store rfl _ _ _ (by rfl) (by exact hR) g4 rfl (dvC .zero none 0) (by rfl) _ _ _ (by repeat (first | exact Pick.here | apply Pick.there)) (by kernel_rfl) (by kernel_rfl) (by kernel_rfl) ?_; intro w9 hR hsm9 hsz9)
    have HR := Lib.hid hR
    refine bodyPost_rws3 rfl HR.out g4 rfl _ _ (by repeat (first | exact List.Mem.head _ | refine List.Mem.tail _ ?_)) _ Tryz.underlying24 rfl (by kernel_rfl) _ _ rfl rfl rfl (fun hbz => ?_)
    rw [HXE.out]
    exact ⟨none, 0, rfl, SlQ.nil _ _, OwnD.nil _ _, Nat.zero_le _, hbz⟩
  | cons x r =>
    have zs := bs_size (x :: r)
    have hlen : (x :: r).length = r.length + 1 := rfl
    have hze := neStr x r
    have hg0 : ∀ h, (bs (x :: r))[0]'h = x := fun h => bs_get (x :: r) 0 x rfl h
    obtain ⟨n, hn⟩ : ∃ n, n = 16 - h := ⟨_, rfl⟩
    have hnl : n ≤ 16 := by omega
    have hxl := x.toNat_lt
    obtain ⟨C, T, K, hv⟩ : ∃ C T K, dX x = ⟨C, T, K, [], .nil⟩ := ⟨_, _, _, rfl⟩
    have hCb : 0 ≤ C ∧ C ≤ 3 := by
      have : C = ((x.toNat / 64 : Nat) : Int) := (congrArg Dv.c hv).symm
      omega
    have hTb : 0 ≤ T ∧ T ≤ 31 := by
      have : T = ((x.toNat % 32 : Nat) : Int) := (congrArg Dv.t hv).symm
      omega
    obtain ⟨TH, hTH⟩ : ∃ B, B = thereB T := ⟨_, rfl⟩
    obtain ⟨CR, hCR⟩ : ∃ B, B = consR T := ⟨_, rfl⟩
    obtain ⟨B5, hB5⟩ : ∃ B, B = (T == 31 || (C == 0 && !TH)) := ⟨_, rfl⟩
    obtain ⟨B7, hB7⟩ : ∃ B, B = (C == 0 && (CR != K)) := ⟨_, rfl⟩
    obtain ⟨B9, hB9⟩ : ∃ B, B = (K && decide (16 ≤ n)) := ⟨_, rfl⟩
    have HHE : Hid (headE C T K [] 0 n = if B5 = true then 62 else if B7 = true then 61 else if B9 = true then 63 else 0) := Lib.hid (by rw [hB5, hB7, hB9, hTH, hCR]; exact head_asks hCb hTb)
    obtain ⟨E, hE⟩ : ∃ E, E = rdS h (x :: r) := ⟨_, rfl⟩
    have HX0 : Hid (E = if headE C T K [] 0 n ≠ 0 then (headE C T K [] 0 n, .zero, [])
        else if (sizeS r).1 ≠ 0 then ((sizeS r).1, .zero, []) else if (sizeS r).2.2.length < (sizeS r).2.1 then (60, .zero, [])
        else if K = false then (if C = 0 ∧ fineS T ((sizeS r).2.2.take (sizeS r).2.1) = false then (61, .zero, []) else (0, ⟨C, T, false, (sizeS r).2.2.take (sizeS r).2.1, .nil⟩, (sizeS r).2.2.drop (sizeS r).2.1))
        else if (manyS h ((sizeS r).2.2.take (sizeS r).2.1)).1 ≠ 0 then ((manyS h ((sizeS r).2.2.take (sizeS r).2.1)).1, .zero, [])
        else if C = 0 ∧ T = 17 ∧ riseB (formsS (manyS h ((sizeS r).2.2.take (sizeS r).2.1)).2) = false then (61, .zero, []) else (0, ⟨C, T, true, [], (manyS h ((sizeS r).2.2.take (sizeS r).2.1)).2⟩, (sizeS r).2.2.drop (sizeS r).2.1)) := Lib.hid (by
      have e1 : ((x.toNat / 64 : Nat) : Int) = C := congrArg Dv.c hv
      have e2 : ((x.toNat % 32 : Nat) : Int) = T := congrArg Dv.t hv
      have e3 : (x.toNat / 32 % 2 == 1) = K := congrArg Dv.k hv
      rw [hE, rdS_B, ← hn, rdB]
      simp only
      rw [e1, e2, e3])
    have HB5 := Lib.hid hB5
    have HB7 := Lib.hid hB7
    have HB9 := Lib.hid hB9
    have HTH := Lib.hid hTH
    have HHN := Lib.hid hn
    have HV := Lib.hid hv
    have HCO : Hid (∀ u, Calls Tryz.prog 71 #[.int .i64 T] u fun e w' => e = .returned (.tuple #[.bool CR, .bool TH]) ∧ Below u.heap.size u w') := Lib.hid fun u => by rw [hTH, hCR]; exact Cons_any T u
    have HIH := Lib.hid IH
    have HH16 := Lib.hid h16
    rw [← hn, ← hE]
    clear hE hB5 hB7 hB9 hn hv IH h16 hCb hTb hTH hCR
    go_enter Tryz.func37, Tryz.ntmps37
    go_upto_region 1 with (refine wpList_alloc_rws rfl _ (by rfl) (by exact hR) (dvC .zero none 0) zero_der ?_; intro g4 w1 hR)
    go_upto_region 3 with fail
    go_region
    have hR := (hR.alloc (rawR x) 24).drew
    obtain ⟨g7, hg7⟩ : ∃ g, g = w1.heap.size := ⟨_, rfl⟩
    rw [← hg7] at hR ⊢
    generalize (w1.alloc (.cells #[.int .i64 ((x.toNat : Int) / 64), .int .i64 ((x.toNat : Int) % 32), .bool ((x.toNat : Int) / 32 % 2 == 1), .string ⟨#[]⟩, .slice none 0 0] 24)).drew = w3 at hR ⊢
    rw [rawR_eq, HV.out] at hR
    clear hg7 hg0
    have f1 := hR.cellAt (g := g7) (by repeat (first | exact List.Mem.head _ | refine List.Mem.tail _ ?_)) 1 rfl
    go_upto_region 5 with (go_at_call 71; refine (HCO.out _).mono ?_; rintro e w4 ⟨rfl, hb4⟩; have hR := hR.call hb4; clear hb4)
    clear f1
    have f0 := hR.cellAt (g := g7) (by repeat (first | exact List.Mem.head _ | refine List.Mem.tail _ ?_)) 0 rfl
    have f1 := hR.cellAt (g := g7) (by repeat (first | exact List.Mem.head _ | refine List.Mem.tail _ ?_)) 1 rfl
    go_cut [52] from 41 to 51 (fun s52 wx => s52 = .bool B5 ∧ Aside (Rws w.heap.size w wx [(g7, dvC ⟨C, T, K, [], .nil⟩ none 0, 24), (g4, dvC .zero none 0, 24)]))
    case first =>
      have hB := HB5.out
      by_cases h31 : T = 31
      · have hb : B5 = true := by rw [hB, h31]; rfl
        have hz : (T == 31) = true := by rw [h31]; rfl
        subst hb
        clear h31 hB
        go_wp2_with fail
        go_meet
        exact ⟨rfl, hR⟩
      · have hz : (T == 31) = false := beq_eq_false_iff_ne.2 h31
        by_cases hc0 : C = 0
        · have hcz : (C == 0) = true := by rw [hc0]; rfl
          rw [hz, hcz, Bool.false_or, Bool.true_and] at hB
          cases TH with
          | true =>
            have hb : B5 = false := hB
            subst hb
            clear hB
            go_wp2_with fail
            go_meet
            exact ⟨rfl, hR⟩
          | false =>
            have hb : B5 = true := hB
            subst hb
            clear hB
            go_wp2_with fail
            go_meet
            exact ⟨rfl, hR⟩
        · have hcz : (C == 0) = false := beq_eq_false_iff_ne.2 hc0
          clear hc0 h31
          rw [hz, hcz] at hB
          have hb : B5 = false := hB
          subst hb
          clear hB
          go_wp2_with fail
          go_meet
          exact ⟨rfl, hR⟩
    case rest =>
    obtain ⟨rfl, hRa⟩ := hcut
    have hR := hRa.out
    clear hRa
    by_cases hb : B5 = true
    · subst hb
      have HXE : Hid (E = (62, .zero, [])) := Lib.hid (by
        have he : headE C T K [] 0 n = 62 := by rw [HHE.out]; rw [if_pos rfl]
        rw [HX0.out, he, if_pos (by decide)])
      go_wp2_with (refine wQ_store rfl _ _ _ (by rfl) (by exact hR) g4 rfl (dvC .zero none 0) (by rfl) _ _ _ (by repeat (first | exact Pick.here | apply Pick.there)) (by kernel_rfl) (by kernel_rfl) (by kernel_rfl) ?_; intro w9 hR hsm9 hsz9)
      have HR := Lib.hid hR
      refine bodyPost_rws3 rfl HR.out g4 rfl _ _ (by repeat (first | exact List.Mem.head _ | refine List.Mem.tail _ ?_)) _ Tryz.underlying24 rfl (by kernel_rfl) _ _ rfl rfl rfl (fun hbz => ?_)
      rw [HXE.out]
      exact ⟨none, 0, rfl, SlQ.nil _ _, OwnD.nil _ _, Nat.zero_le _, hbz⟩
    · have hb : B5 = false := by simpa using hb
      subst hb
      clear HB5
      go_upto_region 7 with fail
      have f0 := hR.cellAt (g := g7) (by repeat (first | exact List.Mem.head _ | refine List.Mem.tail _ ?_)) 0 rfl
      have f2 := hR.cellAt (g := g7) (by repeat (first | exact List.Mem.head _ | refine List.Mem.tail _ ?_)) 2 rfl
      go_cut [62] from 54 to 61 (fun s62 wx => s62 = .bool B7 ∧ Aside (Rws w.heap.size w wx [(g7, dvC ⟨C, T, K, [], .nil⟩ none 0, 24), (g4, dvC .zero none 0, 24)]))
      case first =>
        have hB := HB7.out
        by_cases hc0 : C = 0
        · have hcz : (C == 0) = true := by rw [hc0]; rfl
          clear hc0
          rw [hcz, Bool.true_and] at hB
          cases K with
          | true =>
            cases CR with
            | true =>
              have hb : B7 = false := hB
              subst hb
              clear hB
              go_wp2_with fail
              go_meet
              exact ⟨rfl, hR⟩
            | false =>
              have hb : B7 = true := hB
              subst hb
              clear hB
              go_wp2_with fail
              go_meet
              exact ⟨rfl, hR⟩
          | false =>
            cases CR with
            | true =>
              have hb : B7 = true := hB
              subst hb
              clear hB
              go_wp2_with fail
              go_meet
              exact ⟨rfl, hR⟩
            | false =>
              have hb : B7 = false := hB
              subst hb
              clear hB
              go_wp2_with fail
              go_meet
              exact ⟨rfl, hR⟩
        · have hcz : (C == 0) = false := beq_eq_false_iff_ne.2 hc0
          clear hc0
          rw [hcz] at hB
          have hb : B7 = false := hB
          subst hb
          clear hB
          go_wp2_with fail
          go_meet
          exact ⟨rfl, hR⟩
      case rest =>
      obtain ⟨rfl, hRa⟩ := hcut
      have hR := hRa.out
      clear hRa
      by_cases hb : B7 = true
      · subst hb
        have HXE : Hid (E = (61, .zero, [])) := Lib.hid (by
          have he : headE C T K [] 0 n = 61 := by rw [HHE.out]; rw [if_neg (show ¬ (false = true) by decide), if_pos rfl]
          rw [HX0.out, he, if_pos (by decide)])
        go_wp2_with (refine wQ_store rfl _ _ _ (by rfl) (by exact hR) g4 rfl (dvC .zero none 0) (by rfl) _ _ _ (by repeat (first | exact Pick.here | apply Pick.there)) (by kernel_rfl) (by kernel_rfl) (by kernel_rfl) ?_; intro w9 hR hsm9 hsz9)
        have HR := Lib.hid hR
        refine bodyPost_rws3 rfl HR.out g4 rfl _ _ (by repeat (first | exact List.Mem.head _ | refine List.Mem.tail _ ?_)) _ Tryz.underlying24 rfl (by kernel_rfl) _ _ rfl rfl rfl (fun hbz => ?_)
        rw [HXE.out]
        exact ⟨none, 0, rfl, SlQ.nil _ _, OwnD.nil _ _, Nat.zero_le _, hbz⟩
      · have hb : B7 = false := by simpa using hb
        subst hb
        go_upto_region 9 with fail
        have f2 := hR.cellAt (g := g7) (by repeat (first | exact List.Mem.head _ | refine List.Mem.tail _ ?_)) 2 rfl
        go_cut [69] from 64 to 68 (fun s69 wx => s69 = .bool B9 ∧ Aside (Rws w.heap.size w wx [(g7, dvC ⟨C, T, K, [], .nil⟩ none 0, 24), (g4, dvC .zero none 0, 24)]))
        case first =>
          have hB := HB9.out
          cases K with
          | true =>
            rw [Bool.true_and] at hB
            by_cases hn16 : 16 ≤ n
            · have hnz : (16 : Int) ≤ (n : Int) := by omega
              have hb : B9 = true := by rw [hB]; exact decide_eq_true hn16
              subst hb
              clear hB
              go_wp2_with fail
              go_meet
              exact ⟨rfl, hR⟩
            · have hnz : ¬ (16 : Int) ≤ (n : Int) := by omega
              have hb : B9 = false := by rw [hB]; exact decide_eq_false hn16
              subst hb
              clear hB
              go_wp2_with fail
              go_meet
              exact ⟨rfl, hR⟩
          | false =>
            have hb : B9 = false := hB
            subst hb
            clear hB
            go_wp2_with fail
            go_meet
            exact ⟨rfl, hR⟩
        case rest =>
        obtain ⟨rfl, hRa⟩ := hcut
        have hR := hRa.out
        clear hRa
        by_cases hb : B9 = true
        · subst hb
          have HXE : Hid (E = (63, .zero, [])) := Lib.hid (by
            have he : headE C T K [] 0 n = 63 := by rw [HHE.out]; rw [if_neg (show ¬ (false = true) by decide), if_neg (show ¬ (false = true) by decide), if_pos rfl]
            rw [HX0.out, he, if_pos (by decide)])
          go_wp2_with (refine wQ_store rfl _ _ _ (by rfl) (by exact hR) g4 rfl (dvC .zero none 0) (by rfl) _ _ _ (by repeat (first | exact Pick.here | apply Pick.there)) (by kernel_rfl) (by kernel_rfl) (by kernel_rfl) ?_; intro w9 hR hsm9 hsz9)
          have HR := Lib.hid hR
          refine bodyPost_rws3 rfl HR.out g4 rfl _ _ (by repeat (first | exact List.Mem.head _ | refine List.Mem.tail _ ?_)) _ Tryz.underlying24 rfl (by kernel_rfl) _ _ rfl rfl rfl (fun hbz => ?_)
          rw [HXE.out]
          exact ⟨none, 0, rfl, SlQ.nil _ _, OwnD.nil _ _, Nat.zero_le _, hbz⟩
        · have hb : B9 = false := by simpa using hb
          subst hb
          have HH0 : Hid (headE C T K [] 0 n = 0) := Lib.hid (by rw [HHE.out, if_neg (show ¬ (false = true) by decide), if_neg (show ¬ (false = true) by decide), if_neg (show ¬ (false = true) by decide)])
          have HX1 : Hid (E = if (sizeS r).1 ≠ 0 then ((sizeS r).1, .zero, []) else if (sizeS r).2.2.length < (sizeS r).2.1 then (60, .zero, [])
            else if K = false then (if C = 0 ∧ fineS T ((sizeS r).2.2.take (sizeS r).2.1) = false then (61, .zero, []) else (0, ⟨C, T, false, (sizeS r).2.2.take (sizeS r).2.1, .nil⟩, (sizeS r).2.2.drop (sizeS r).2.1))
            else if (manyS h ((sizeS r).2.2.take (sizeS r).2.1)).1 ≠ 0 then ((manyS h ((sizeS r).2.2.take (sizeS r).2.1)).1, .zero, [])
            else if C = 0 ∧ T = 17 ∧ riseB (formsS (manyS h ((sizeS r).2.2.take (sizeS r).2.1)).2) = false then (61, .zero, []) else (0, ⟨C, T, true, [], (manyS h ((sizeS r).2.2.take (sizeS r).2.1)).2⟩, (sizeS r).2.2.drop (sizeS r).2.1)) := Lib.hid (by rw [HX0.out, if_neg (by rw [HH0.out]; simp)])
          clear HX0 HHE hze
          cases r with
          | nil =>
            have HXE : Hid (E = (60, .zero, [])) := Lib.hid (by rw [HX1.out]; rfl)
            go_upto_region 12 with fail
            go_wp2_with (refine wQ_store rfl _ _ _ (by rfl) (by exact hR) g4 rfl (dvC .zero none 0) (by rfl) _ _ _ (by repeat (first | exact Pick.here | apply Pick.there)) (by kernel_rfl) (by kernel_rfl) (by kernel_rfl) ?_; intro w9 hR hsm9 hsz9)
            have HR := Lib.hid hR
            refine bodyPost_rws3 rfl HR.out g4 rfl _ _ (by repeat (first | exact List.Mem.head _ | refine List.Mem.tail _ ?_)) _ Tryz.underlying24 rfl (by kernel_rfl) _ _ rfl rfl rfl (fun hbz => ?_)
            rw [HXE.out]
            exact ⟨none, 0, rfl, SlQ.nil _ _, OwnD.nil _ _, Nat.zero_le _, hbz⟩
          | cons b r1 =>
            obtain ⟨S, hS⟩ : ∃ S, S = x :: b :: r1 := ⟨_, rfl⟩
            obtain ⟨LN, hLN⟩ : ∃ LN, LN = S.length := ⟨_, rfl⟩
            have hLN2 : LN = r1.length + 2 := by rw [hLN, hS]; rfl
            have hbl := b.toNat_lt
            rw [← hS] at zs hs ⊢
            rw [← hLN] at zs hs
            have hg1 : ∀ h, (bs S)[1]'h = b := fun h => bs_get S 1 b (by rw [hS]; rfl) h
            have HS := Lib.hid hS
            have HLN := Lib.hid hLN
            have HLN2 := Lib.hid hLN2
            have hl2 : 2 ≤ LN := by omega
            have hl2z : ¬ (LN : Int) < 2 := by omega
            have hl1z : (1 : Int) < (LN : Int) := by omega
            clear hS hLN hLN2 hlen
            go_upto_region 14 with fail
            by_cases hb1 : b.toNat = 128
            · have hb1z : ((b.toNat : Int) == 128) = true := by simp; omega
              have HXE : Hid (E = (61, .zero, [])) := Lib.hid (by
                have : sizeS (b :: r1) = (61, 0, []) := by rw [sizeS, if_neg (by omega), if_pos (Or.inl hb1)]
                rw [HX1.out, this]
                rfl)
              go_wp2_with (refine wQ_store rfl _ _ _ (by rfl) (by exact hR) g4 rfl (dvC .zero none 0) (by rfl) _ _ _ (by repeat (first | exact Pick.here | apply Pick.there)) (by kernel_rfl) (by kernel_rfl) (by kernel_rfl) ?_; intro w9 hR hsm9 hsz9)
              have HR := Lib.hid hR
              refine bodyPost_rws3 rfl HR.out g4 rfl _ _ (by repeat (first | exact List.Mem.head _ | refine List.Mem.tail _ ?_)) _ Tryz.underlying24 rfl (by kernel_rfl) _ _ rfl rfl rfl (fun hbz => ?_)
              rw [HXE.out]
              exact ⟨none, 0, rfl, SlQ.nil _ _, OwnD.nil _ _, Nat.zero_le _, hbz⟩
            · have hb1z : ((b.toNat : Int) == 128) = false := by simp; omega
              by_cases hb2 : 130 < b.toNat
              · have hb2z : (130 : Int) < (b.toNat : Int) := by omega
                have HXE : Hid (E = (61, .zero, [])) := Lib.hid (by
                  have : sizeS (b :: r1) = (61, 0, []) := by rw [sizeS, if_neg (by omega), if_pos (Or.inr hb2)]
                  rw [HX1.out, this]
                  rfl)
                go_wp2_with (refine wQ_store rfl _ _ _ (by rfl) (by exact hR) g4 rfl (dvC .zero none 0) (by rfl) _ _ _ (by repeat (first | exact Pick.here | apply Pick.there)) (by kernel_rfl) (by kernel_rfl) (by kernel_rfl) ?_; intro w9 hR hsm9 hsz9)
                have HR := Lib.hid hR
                refine bodyPost_rws3 rfl HR.out g4 rfl _ _ (by repeat (first | exact List.Mem.head _ | refine List.Mem.tail _ ?_)) _ Tryz.underlying24 rfl (by kernel_rfl) _ _ rfl rfl rfl (fun hbz => ?_)
                rw [HXE.out]
                exact ⟨none, 0, rfl, SlQ.nil _ _, OwnD.nil _ _, Nat.zero_le _, hbz⟩
              · have hb2z : ¬ (130 : Int) < (b.toNat : Int) := by omega
                go_upto_if 89 with fail
                go_cut [10, 11, 12] from 75 to 127 (fun s10 s11 _ wx => ∃ m a0 : Nat, s10 = .int .i64 (m : Nat) ∧ s11 = .int .i64 (a0 : Nat) ∧ Aside (sizeS (b :: r1) = (0, m, S.drop a0) ∧ a0 ≤ LN ∧ m ≤ 65535) ∧ Aside (Rws w.heap.size w wx [(g7, dvC ⟨C, T, K, [], .nil⟩ none 0, 24), (g4, dvC .zero none 0, 24)]))
                case first =>
                  by_cases hb7 : b.toNat < 128
                  · have hb7z : ¬ (128 : Int) < (b.toNat : Int) := by omega
                    have HZ : Hid (sizeS (b :: r1) = (0, b.toNat, S.drop 2)) := Lib.hid (by rw [sizeS, if_pos hb7, HS.out]; rfl)
                    go_wp2_with fail
                    go_meet
                    exact ⟨b.toNat, 2, rfl, rfl, ⟨HZ.out, hl2, by omega⟩, hR⟩
                  · rcases (show b.toNat = 129 ∨ b.toNat = 130 by omega) with hbv | hbv
                    · have hbz : (b.toNat : Int) = 129 := by omega
                      have HSZ : Hid (sizeS (b :: r1) = size1 r1) := Lib.hid (by rw [sizeS, if_neg hb7, if_neg (by omega), if_pos hbv])
                      clear hb1z hb2z hb7 hb1 hb2 hbv
                      match r1, HS, HLN2, HSZ, HX1 with
                      | [], HS, HLN2, HSZ, HX1 =>
                        have hlz : (LN : Int) < 3 := by have := HLN2.out; simp only [List.length_nil] at this; omega
                        have HXE : Hid (E = (60, .zero, [])) := Lib.hid (by rw [HX1.out, HSZ.out]; rfl)
                        go_wp2_with (refine wQ_store rfl _ _ _ (by rfl) (by exact hR) g4 rfl (dvC .zero none 0) (by rfl) _ _ _ (by repeat (first | exact Pick.here | apply Pick.there)) (by kernel_rfl) (by kernel_rfl) (by kernel_rfl) ?_; intro w9 hR hsm9 hsz9)
                        have HR := Lib.hid hR
                        refine bodyPost_rws3 rfl HR.out g4 rfl _ _ (by repeat (first | exact List.Mem.head _ | refine List.Mem.tail _ ?_)) _ Tryz.underlying24 rfl (by kernel_rfl) _ _ rfl rfl rfl (fun hbz => ?_)
                        rw [HXE.out]
                        exact ⟨none, 0, rfl, SlQ.nil _ _, OwnD.nil _ _, Nat.zero_le _, hbz⟩
                      | y :: r2, HS, HLN2, HSZ, HX1 =>
                        have hyl := y.toNat_lt
                        have hl3 : 3 ≤ LN := by have := HLN2.out; simp only [List.length_cons] at this; omega
                        have hlz : ¬ (LN : Int) < 3 := by omega
                        have hg2 : ∀ h, (bs S)[2]'h = y := fun h => bs_get S 2 y (by rw [HS.out]; rfl) h
                        go_upto_region 22 with fail
                        go_loopg [10, 12] 1 (fun gg s10 s12 wr => ∃ i v : Nat, ((i = 2 ∧ v = 0) ∨ (i = 3 ∧ v = y.toNat)) ∧ gg = 3 - i ∧ s12 = .int .i64 (i : Nat) ∧ s10 = .int .i64 (v : Nat) ∧ wr = wc)
                        case atStart => exact ⟨2, 0, Or.inl ⟨rfl, rfl⟩, rfl, rfl, rfl, rfl⟩
                        case round =>
                          obtain ⟨i, v, hiv, rfl, rfl, rfl, hwr⟩ := hrel
                          subst hwr
                          rcases hiv with ⟨rfl, rfl⟩ | ⟨rfl, rfl⟩
                          · go_wp2_with fail
                            go_roundg 0
                            case measure => omega
                            case rel => exact ⟨3, y.toNat, Or.inr ⟨rfl, rfl⟩, rfl, by go_num, by go_num, rfl⟩
                          · by_cases hy : y.toNat < 128
                            · have hyz : (y.toNat : Int) < 128 := by omega
                              have HXE : Hid (E = (61, .zero, [])) := Lib.hid (by
                                have : size1 (y :: r2) = (61, 0, []) := by rw [size1, if_pos hy]
                                rw [HX1.out, HSZ.out, this]; rfl)
                              go_wp2_with (refine wQ_store rfl _ _ _ (by rfl) (by exact hR) g4 rfl (dvC .zero none 0) (by rfl) _ _ _ (by repeat (first | exact Pick.here | apply Pick.there)) (by kernel_rfl) (by kernel_rfl) (by kernel_rfl) ?_; intro w9 hR hsm9 hsz9)
                              have HR := Lib.hid hR
                              refine bodyPost_rws3 rfl HR.out g4 rfl _ _ (by repeat (first | exact List.Mem.head _ | refine List.Mem.tail _ ?_)) _ Tryz.underlying24 rfl (by kernel_rfl) _ _ rfl rfl rfl (fun hbz => ?_)
                              rw [HXE.out]
                              exact ⟨none, 0, rfl, SlQ.nil _ _, OwnD.nil _ _, Nat.zero_le _, hbz⟩
                            · have hyz : ¬ (y.toNat : Int) < 128 := by omega
                              have HZ : Hid (sizeS (b :: y :: r2) = (0, y.toNat, S.drop 3)) := Lib.hid (by rw [HSZ.out, size1, if_neg hy, HS.out]; rfl)
                              go_wp2_with fail
                              go_meet
                              exact ⟨y.toNat, 3, rfl, rfl, ⟨HZ.out, hl3, by omega⟩, hR⟩
                    · have hbz : (b.toNat : Int) = 130 := by omega
                      have HSZ : Hid (sizeS (b :: r1) = size2 r1) := Lib.hid (by rw [sizeS, if_neg hb7, if_neg (by omega), if_neg (by omega)])
                      clear hb1z hb2z hb7 hb1 hb2 hbv
                      match r1, HS, HLN2, HSZ, HX1 with
                      | [], HS, HLN2, HSZ, HX1 =>
                        have hlz : (LN : Int) < 4 := by have := HLN2.out; simp only [List.length_nil] at this; omega
                        have HXE : Hid (E = (60, .zero, [])) := Lib.hid (by rw [HX1.out, HSZ.out]; rfl)
                        go_wp2_with (refine wQ_store rfl _ _ _ (by rfl) (by exact hR) g4 rfl (dvC .zero none 0) (by rfl) _ _ _ (by repeat (first | exact Pick.here | apply Pick.there)) (by kernel_rfl) (by kernel_rfl) (by kernel_rfl) ?_; intro w9 hR hsm9 hsz9)
                        have HR := Lib.hid hR
                        refine bodyPost_rws3 rfl HR.out g4 rfl _ _ (by repeat (first | exact List.Mem.head _ | refine List.Mem.tail _ ?_)) _ Tryz.underlying24 rfl (by kernel_rfl) _ _ rfl rfl rfl (fun hbz => ?_)
                        rw [HXE.out]
                        exact ⟨none, 0, rfl, SlQ.nil _ _, OwnD.nil _ _, Nat.zero_le _, hbz⟩
                      | [y], HS, HLN2, HSZ, HX1 =>
                        have hlz : (LN : Int) < 4 := by have := HLN2.out; simp only [List.length_cons, List.length_nil] at this; omega
                        have HXE : Hid (E = (60, .zero, [])) := Lib.hid (by rw [HX1.out, HSZ.out]; rfl)
                        go_wp2_with (refine wQ_store rfl _ _ _ (by rfl) (by exact hR) g4 rfl (dvC .zero none 0) (by rfl) _ _ _ (by repeat (first | exact Pick.here | apply Pick.there)) (by kernel_rfl) (by kernel_rfl) (by kernel_rfl) ?_; intro w9 hR hsm9 hsz9)
                        have HR := Lib.hid hR
                        refine bodyPost_rws3 rfl HR.out g4 rfl _ _ (by repeat (first | exact List.Mem.head _ | refine List.Mem.tail _ ?_)) _ Tryz.underlying24 rfl (by kernel_rfl) _ _ rfl rfl rfl (fun hbz => ?_)
                        rw [HXE.out]
                        exact ⟨none, 0, rfl, SlQ.nil _ _, OwnD.nil _ _, Nat.zero_le _, hbz⟩
                      | y :: z :: r2, HS, HLN2, HSZ, HX1 =>
                        have hyl := y.toNat_lt
                        have hzl := z.toNat_lt
                        have hl4 : 4 ≤ LN := by have := HLN2.out; simp only [List.length_cons] at this; omega
                        have hlz : ¬ (LN : Int) < 4 := by omega
                        have hg2 : ∀ h, (bs S)[2]'h = y := fun h => bs_get S 2 y (by rw [HS.out]; rfl) h
                        have hg3 : ∀ h, (bs S)[3]'h = z := fun h => bs_get S 3 z (by rw [HS.out]; rfl) h
                        go_upto_region 22 with fail
                        go_loopg [10, 12] 2 (fun gg s10 s12 wr => ∃ i v : Nat, ((i = 2 ∧ v = 0) ∨ (i = 3 ∧ v = y.toNat) ∨ (i = 4 ∧ v = y.toNat * 256 + z.toNat)) ∧ gg = 4 - i ∧ s12 = .int .i64 (i : Nat) ∧ s10 = .int .i64 (v : Nat) ∧ wr = wc)
                        case atStart => exact ⟨2, 0, Or.inl ⟨rfl, rfl⟩, rfl, rfl, rfl, rfl⟩
                        case round =>
                          obtain ⟨i, v, hiv, rfl, rfl, rfl, hwr⟩ := hrel
                          subst hwr
                          rcases hiv with ⟨rfl, rfl⟩ | ⟨rfl, rfl⟩ | ⟨rfl, rfl⟩
                          · go_wp2_with fail
                            go_roundg 1
                            case measure => omega
                            case rel => exact ⟨3, y.toNat, Or.inr (Or.inl ⟨rfl, rfl⟩), rfl, by go_num, by go_num, rfl⟩
                          · go_wp2_with fail
                            go_roundg 0
                            case measure => omega
                            case rel => exact ⟨4, y.toNat * 256 + z.toNat, Or.inr (Or.inr ⟨rfl, rfl⟩), rfl, by go_num, by go_num, rfl⟩
                          · obtain ⟨v, hv⟩ : ∃ v, v = y.toNat * 256 + z.toNat := ⟨_, rfl⟩
                            have hvl : v ≤ 65535 := by omega
                            rw [← hv]
                            have HVV := Lib.hid hv
                            clear hv
                            by_cases hy : v < 256
                            · have hyz : (v : Int) < 256 := by omega
                              have HXE : Hid (E = (61, .zero, [])) := Lib.hid (by
                                have : size2 (y :: z :: r2) = (61, 0, []) := by rw [size2, if_pos (by rw [← HVV.out]; exact hy)]
                                rw [HX1.out, HSZ.out, this]; rfl)
                              go_wp2_with (refine wQ_store rfl _ _ _ (by rfl) (by exact hR) g4 rfl (dvC .zero none 0) (by rfl) _ _ _ (by repeat (first | exact Pick.here | apply Pick.there)) (by kernel_rfl) (by kernel_rfl) (by kernel_rfl) ?_; intro w9 hR hsm9 hsz9)
                              have HR := Lib.hid hR
                              refine bodyPost_rws3 rfl HR.out g4 rfl _ _ (by repeat (first | exact List.Mem.head _ | refine List.Mem.tail _ ?_)) _ Tryz.underlying24 rfl (by kernel_rfl) _ _ rfl rfl rfl (fun hbz => ?_)
                              rw [HXE.out]
                              exact ⟨none, 0, rfl, SlQ.nil _ _, OwnD.nil _ _, Nat.zero_le _, hbz⟩
                            · have hyz : ¬ (v : Int) < 256 := by omega
                              have HZ : Hid (sizeS (b :: y :: z :: r2) = (0, v, S.drop 4)) := Lib.hid (by rw [HSZ.out, size2, if_neg (by rw [← HVV.out]; exact hy), HS.out, HVV.out]; rfl)
                              go_wp2_with fail
                              go_meet
                              exact ⟨v, 4, rfl, rfl, ⟨HZ.out, hl4, hvl⟩, hR⟩
                case rest =>
                obtain ⟨m, a0, rfl, rfl, hz0, hRa⟩ := hcut
                obtain ⟨hz, ha0, hm0⟩ := hz0.out
                have hR := hRa.out
                have hml : (S.drop a0).length = LN - a0 := by rw [List.length_drop, ← HLN.out]
                have HX2 : Hid (E = if (S.drop a0).length < m then (60, .zero, [])
                  else if K = false then (if C = 0 ∧ fineS T ((S.drop a0).take m) = false then (61, .zero, []) else (0, ⟨C, T, false, (S.drop a0).take m, .nil⟩, (S.drop a0).drop m))
                  else if (manyS h ((S.drop a0).take m)).1 ≠ 0 then ((manyS h ((S.drop a0).take m)).1, .zero, [])
                  else if C = 0 ∧ T = 17 ∧ riseB (formsS (manyS h ((S.drop a0).take m)).2) = false then (61, .zero, []) else (0, ⟨C, T, true, [], (manyS h ((S.drop a0).take m)).2⟩, (S.drop a0).drop m)) := Lib.hid (by
                  rw [HX1.out, hz]
                  simp only
                  rw [if_neg (show ¬ (0 : Int) ≠ 0 by simp)])
                clear hRa hz0 hz HX1 hg1 hb1z hb2z hb1 hb2
                by_cases hsh : LN - a0 < m
                · have hshz : (LN : Int) - (a0 : Int) < (m : Int) := by omega
                  have HXE : Hid (E = (60, .zero, [])) := Lib.hid (by rw [HX2.out, if_pos (by rw [hml]; exact hsh)])
                  go_wp2_with (refine wQ_store rfl _ _ _ (by rfl) (by exact hR) g4 rfl (dvC .zero none 0) (by rfl) _ _ _ (by repeat (first | exact Pick.here | apply Pick.there)) (by kernel_rfl) (by kernel_rfl) (by kernel_rfl) ?_; intro w9 hR hsm9 hsz9)
                  have HR := Lib.hid hR
                  refine bodyPost_rws3 rfl HR.out g4 rfl _ _ (by repeat (first | exact List.Mem.head _ | refine List.Mem.tail _ ?_)) _ Tryz.underlying24 rfl (by kernel_rfl) _ _ rfl rfl rfl (fun hbz => ?_)
                  rw [HXE.out]
                  exact ⟨none, 0, rfl, SlQ.nil _ _, OwnD.nil _ _, Nat.zero_le _, hbz⟩
                · have hshz : ¬ (LN : Int) - (a0 : Int) < (m : Int) := by omega
                  obtain ⟨inner, hin⟩ : ∃ inner, inner = (S.drop a0).take m := ⟨_, rfl⟩
                  obtain ⟨more, hmo⟩ : ∃ more, more = (S.drop a0).drop m := ⟨_, rfl⟩
                  have HX3 : Hid (E = if K = false then (if C = 0 ∧ fineS T inner = false then (61, .zero, []) else (0, ⟨C, T, false, inner, .nil⟩, more))
                    else if (manyS h inner).1 ≠ 0 then ((manyS h inner).1, .zero, [])
                    else if C = 0 ∧ T = 17 ∧ riseB (formsS (manyS h inner).2) = false then (61, .zero, []) else (0, ⟨C, T, true, [], (manyS h inner).2⟩, more)) := Lib.hid (by rw [HX2.out, if_neg (by rw [hml]; exact hsh), hin, hmo])
                  have hinl : inner.length = m := by rw [hin, List.length_take, hml]; omega
                  have HC13 : Hid ((bs S).extract a0 (a0 + m) = bs inner) := Lib.hid (by rw [bs_cut, hin, List.drop_take, show a0 + m - a0 = m by omega])
                  have HC14 : Hid ((bs S).extract (a0 + m) LN = bs more) := Lib.hid (by rw [bs_cut, hmo, HLN.out, List.take_of_length_le (Nat.le_refl _), List.drop_drop])
                  have hinb : inner.length ≤ 16384 := by omega
                  clear hin hmo HX2 hml
                  go_upto_region 29 with fail
                  go_quiet (fail)
                  rw [HC13.out, HC14.out]
                  have hR := hR.call (below_drewN wc nq)
                  generalize wc.drewN nq = w29 at hR ⊢
                  clear HC13 HC14 hshz hsh
                  have HR29 := Lib.hid hR
                  clear hR
                  cases K with
                  | false =>
                    have hpr : C = 0 → primL.contains T = true := fun hc => head_zero (v := ⟨C, T, false, [], .nil⟩) HH0.out hc rfl
                    have HX4 : Hid (E = if C = 0 ∧ fineS T inner = false then (61, .zero, []) else (0, ⟨C, T, false, inner, .nil⟩, more)) := Lib.hid (by rw [HX3.out, if_pos rfl])
                    have hR := HR29.out
                    have f0 := hR.cellAt (g := g7) (by repeat (first | exact List.Mem.head _ | refine List.Mem.tail _ ?_)) 0 rfl
                    have f1 := hR.cellAt (g := g7) (by repeat (first | exact List.Mem.head _ | refine List.Mem.tail _ ?_)) 1 rfl
                    have f2 := hR.cellAt (g := g7) (by repeat (first | exact List.Mem.head _ | refine List.Mem.tail _ ?_)) 2 rfl
                    have zin := bs_size inner
                    clear HX3 HIH HH16
                    by_cases hc0 : C = 0
                    · have hcz : (C == 0) = true := by rw [hc0]; rfl
                      have hp := hpr hc0
                      obtain ⟨FN, hFN⟩ : ∃ FN, FN = fineS T inner := ⟨_, rfl⟩
                      have HFI : Hid (∀ u, Calls Tryz.prog 72 #[.int .i64 T, .string (bs inner)] u (RetB FN u)) := Lib.hid fun u => by rw [hFN]; exact RFine_any T hp inner u (by omega)
                      have HX5 : Hid (E = if FN = false then (61, .zero, []) else (0, ⟨C, T, false, inner, .nil⟩, more)) := Lib.hid (by
                        rw [HX4.out, hFN]
                        by_cases hf : fineS T inner = false
                        · rw [if_pos ⟨hc0, hf⟩, if_pos hf]
                        · rw [if_neg (fun h => hf h.2), if_neg hf])
                      clear hFN hp hpr HX4 hc0
                      cases FN with
                      | false =>
                        have HXE : Hid (E = (61, .zero, [])) := Lib.hid (by rw [HX5.out, if_pos rfl])
                        go_upto_region 32 with (go_at_call 72; refine (HFI.out _).mono ?_; rintro e w31 ⟨rfl, hb31⟩; have hR := hR.call hb31; clear hb31)
                        clear f0 f1 f2
                        go_wp2_with (refine wQ_store rfl _ _ _ (by rfl) (by exact hR) g4 rfl (dvC .zero none 0) (by rfl) _ _ _ (by repeat (first | exact Pick.here | apply Pick.there)) (by kernel_rfl) (by kernel_rfl) (by kernel_rfl) ?_; intro w9 hR hsm9 hsz9)
                        have HR := Lib.hid hR
                        refine bodyPost_rws3 rfl HR.out g4 rfl _ _ (by repeat (first | exact List.Mem.head _ | refine List.Mem.tail _ ?_)) _ Tryz.underlying24 rfl (by kernel_rfl) _ _ rfl rfl rfl (fun hbz => ?_)
                        rw [HXE.out]
                        exact ⟨none, 0, rfl, SlQ.nil _ _, OwnD.nil _ _, Nat.zero_le _, hbz⟩
                      | true =>
                        have HXF : Hid (E = (0, ⟨C, T, false, inner, .nil⟩, more)) := Lib.hid (by rw [HX5.out, if_neg (by decide)])
                        go_upto_region 33 with (go_at_call 72; refine (HFI.out _).mono ?_; rintro e w31 ⟨rfl, hb31⟩; have hR := hR.call hb31; clear hb31)
                        clear f0 f1 f2
                        go_upto_region 34 with (refine wS_storec (g := g7) (k := 3) (new := dvC ⟨C, T, false, inner, .nil⟩ none 0) rfl (by rfl) (by exact hR) rfl rfl (by repeat (first | exact Pick.here | apply Pick.there)) rfl (by kernel_rfl) (by exact (show 3 < 5 by decide)) (by rfl) rfl ?_; intro w33 hR hsm33 hsz33)
                        go_wp2_with (first
                          | (refine wpList_load_rws rfl _ _ (by rfl) (by exact hR) g7 rfl (dvC ⟨C, T, false, inner, .nil⟩ none 0) _ (by repeat (first | exact List.Mem.head _ | refine List.Mem.tail _ ?_)) _ Tryz.underlying24 rfl (by kernel_rfl) ?_)
                          | (refine wQ_store rfl _ _ _ (by rfl) (by exact hR) g4 rfl (dvC ⟨C, T, false, inner, .nil⟩ none 0) (by rfl) _ _ _ (by repeat (first | exact Pick.here | apply Pick.there)) (by kernel_rfl) (by rfl) (dv_one _ _ _) ?_; intro w9 hR hsm9 hsz9))
                        have HR := Lib.hid hR
                        refine bodyPost_rws3 rfl HR.out g4 rfl _ _ (by repeat (first | exact List.Mem.head _ | refine List.Mem.tail _ ?_)) _ Tryz.underlying24 rfl (by kernel_rfl) _ _ rfl rfl rfl (fun hbz => ?_)
                        rw [HXF.out]
                        exact ⟨none, 0, rfl, SlQ.nil _ _, OwnD.nil _ _, (by show inner.length ≤ SB; omega), hbz⟩
                    · have hcz : (C == 0) = false := beq_eq_false_iff_ne.2 hc0
                      have HXF : Hid (E = (0, ⟨C, T, false, inner, .nil⟩, more)) := Lib.hid (by rw [HX4.out, if_neg (fun h => hc0 h.1)])
                      clear hpr HX4 hc0
                      go_upto_region 33 with fail
                      clear f0 f1 f2
                      go_upto_region 34 with (refine wS_storec (g := g7) (k := 3) (new := dvC ⟨C, T, false, inner, .nil⟩ none 0) rfl (by rfl) (by exact hR) rfl rfl (by repeat (first | exact Pick.here | apply Pick.there)) rfl (by kernel_rfl) (by exact (show 3 < 5 by decide)) (by rfl) rfl ?_; intro w33 hR hsm33 hsz33)
                      go_wp2_with (first
                        | (refine wpList_load_rws rfl _ _ (by rfl) (by exact hR) g7 rfl (dvC ⟨C, T, false, inner, .nil⟩ none 0) _ (by repeat (first | exact List.Mem.head _ | refine List.Mem.tail _ ?_)) _ Tryz.underlying24 rfl (by kernel_rfl) ?_)
                        | (refine wQ_store rfl _ _ _ (by rfl) (by exact hR) g4 rfl (dvC ⟨C, T, false, inner, .nil⟩ none 0) (by rfl) _ _ _ (by repeat (first | exact Pick.here | apply Pick.there)) (by kernel_rfl) (by rfl) (dv_one _ _ _) ?_; intro w9 hR hsm9 hsz9))
                      have HR := Lib.hid hR
                      refine bodyPost_rws3 rfl HR.out g4 rfl _ _ (by repeat (first | exact List.Mem.head _ | refine List.Mem.tail _ ?_)) _ Tryz.underlying24 rfl (by kernel_rfl) _ _ rfl rfl rfl (fun hbz => ?_)
                      rw [HXF.out]
                      exact ⟨none, 0, rfl, SlQ.nil _ _, OwnD.nil _ _, (by show inner.length ≤ SB; omega), hbz⟩
                  | true =>
                    have hn16 : n < 16 := (head_ok HH0.out).2.2.2.2.2.2 rfl
                    obtain ⟨hp, hh⟩ : ∃ hp, h = hp + 1 := ⟨h - 1, by have := HHN.out; omega⟩
                    have HIH2 := Lib.hid (HIH.out hp hh)
                    have HN1 : Hid (n + 1 = 16 - hp) := Lib.hid (by have := HHN.out; have := HH16.out; omega)
                    have HP16 : Hid (hp ≤ 16) := Lib.hid (by have := HH16.out; omega)
                    obtain ⟨N, hN⟩ : ∃ N, N = rdsF (rdS hp) inner.length inner := ⟨_, rfl⟩
                    have HX4 : Hid (E = if N.1 ≠ 0 then (N.1, .zero, []) else if C = 0 ∧ T = 17 ∧ riseB (formsS N.2) = false then (61, .zero, []) else (0, ⟨C, T, true, [], N.2⟩, more)) := Lib.hid (by
                      have : manyS h inner = N := by rw [hh, hN]; rfl
                      rw [HX3.out, if_neg (by decide), this])
                    have HNN := Lib.hid hN
                    have hR := HR29.out
                    have f2 := hR.cellAt (g := g7) (by repeat (first | exact List.Mem.head _ | refine List.Mem.tail _ ?_)) 2 rfl
                    clear HX3 HIH HH16 HHN hN
                    go_upto_region 35 with fail
                    clear f2 hR
                    have H2 : Two w.heap.size [g7, g4] w29 [] .nil [] (.slice none 0 0) (.slice none 0 0) := Two.start _ _
                    have HT2 := Lib.hid H2
                    clear H2
                    go_loopg [13, 15, 16, 17] inner.length (fun gg s13 _ _ _ wr => ∃ (I : Bs) (f : Nat) (F : Dr) (ks : List Value) (ad : Option Addr) (cp : Nat), gg = I.length ∧ s13 = .string (bs I)
                      ∧ Aside (Rws w.heap.size w wr [(g7, dvC ⟨C, T, true, [], F⟩ ad cp, 24), (g4, dvC .zero none 0, 24)])
                      ∧ Aside (Two w.heap.size [g7, g4] wr [] F ks (.slice none 0 0) (.slice ad F.len cp)) ∧ Aside (N = joinR F (rdsF (rdS hp) f I) ∧ I.length ≤ f ∧ F.len + I.length ≤ inner.length))
                    case atStart => exact ⟨inner, inner.length, .nil, [], none, 0, rfl, rfl, HR29.out, HT2.out, by rw [HNN.out]; exact (join_nil _ _ _).symm, Nat.le_refl _, by show 0 + _ ≤ _; omega⟩
                    case round =>
                      obtain ⟨I, f, F, ks, ad, cp, rfl, rfl, HRA, HTW, HJ⟩ := hrel
                      clear HR29 HT2
                      have zI := bs_size I
                      have hJl := HJ.out.2.2
                      have hR := HRA.out
                      have HNR := Lib.hid HNN.out
                      cases I with
                      | nil =>
                        have hze : (bs ([] : Bs)).toList.isEmpty = true := by rw [bs_list]; rfl
                        have hNF : N = (0, F) := by
                          rw [HJ.out.1, show rdsF (rdS hp) f [] = (0, .nil) by cases f <;> rfl]
                          unfold joinR
                          rw [if_neg (by simp), Dr.app_nil]
                        obtain ⟨hfl, her⟩ := rdsF_form (one := rdS hp) (deep := 16 - hp) (rdS_form hp HP16.out) inner.length inner F (Nat.le_refl _) (by rw [← HNN.out]; exact hNF)
                        have hwt : F.wt ≤ 1048576 := by
                          have h1 := forms_wt F _ her
                          have h2 := congrArg List.length hfl
                          omega
                        have hrg := errs_rng F _ her
                        have HX5 : Hid (E = if C = 0 ∧ T = 17 ∧ riseB (formsS F) = false then (61, .zero, []) else (0, ⟨C, T, true, [], F⟩, more)) := Lib.hid (by
                          rw [HX4.out, hNF, if_neg (by simp)])
                        have hsd : SlD wr F ad cp := by
                          obtain ⟨ad2, cp2, hsl, hslq⟩ := HTW.out.slq
                          obtain ⟨rfl, _, rfl⟩ : ad = ad2 ∧ F.len = F.len ∧ cp = cp2 := by simpa using hsl
                          exact hslq.1.sld
                        obtain ⟨RB, hRB⟩ : ∃ RB, RB = riseB (formsS F) := ⟨_, rfl⟩
                        have HRI : Hid (∀ u, Below wr.heap.size wr u → Calls Tryz.prog 73 #[.slice ad F.len cp] u (RetB RB u)) := Lib.hid fun u hu => by rw [hRB]; exact Rises_any F ad cp u (hsd.grown hu) hwt hrg
                        rw [← hRB] at HX5
                        clear hNF hfl her hwt hrg hsd hRB HNR HJ HX4
                        have f0 := hR.cellAt (g := g7) (by repeat (first | exact List.Mem.head _ | refine List.Mem.tail _ ?_)) 0 rfl
                        have f1 := hR.cellAt (g := g7) (by repeat (first | exact List.Mem.head _ | refine List.Mem.tail _ ?_)) 1 rfl
                        have f4 := hR.cellAt (g := g7) (by repeat (first | exact List.Mem.head _ | refine List.Mem.tail _ ?_)) 4 rfl
                        obtain ⟨w41, hw41⟩ : ∃ w41 : World, w41 = wr := ⟨_, rfl⟩
                        by_cases hc0 : C = 0
                        · have hcz : (C == 0) = true := by rw [hc0]; rfl
                          by_cases ht17 : T = 17
                          · have htz : (T == 17) = true := by rw [ht17]; rfl
                            have HX6 : Hid (E = if RB = false then (61, .zero, []) else (0, ⟨C, T, true, [], F⟩, more)) := Lib.hid (by
                              rw [HX5.out]
                              by_cases hf : RB = false
                              · rw [if_pos ⟨hc0, ht17, hf⟩, if_pos hf]
                              · rw [if_neg (fun h => hf h.2.2), if_neg hf])
                            clear hc0 ht17 HX5 hw41
                            cases RB with
                            | false =>
                              have HXE : Hid (E = (61, .zero, [])) := Lib.hid (by rw [HX6.out, if_pos rfl])
                              go_upto_region 42 with (go_at_call 73; refine (HRI.out _ (Below.refl _ _)).mono ?_; rintro e w10 ⟨rfl, hb10⟩; have hR := hR.call hb10)
                              clear f0 f1 f4 hb10
                              go_wp2_with (refine wQ_store rfl _ _ _ (by rfl) (by exact hR) g4 rfl (dvC .zero none 0) (by rfl) _ _ _ (by repeat (first | exact Pick.here | apply Pick.there)) (by kernel_rfl) (by kernel_rfl) (by kernel_rfl) ?_; intro w9 hR hsm9 hsz9)
                              have HR := Lib.hid hR
                              refine bodyPost_rws3 rfl HR.out g4 rfl _ _ (by repeat (first | exact List.Mem.head _ | refine List.Mem.tail _ ?_)) _ Tryz.underlying24 rfl (by kernel_rfl) _ _ rfl rfl rfl (fun hbz => ?_)
                              rw [HXE.out]
                              exact ⟨none, 0, rfl, SlQ.nil _ _, OwnD.nil _ _, Nat.zero_le _, hbz⟩
                            | true =>
                              have HXF : Hid (E = (0, ⟨C, T, true, [], F⟩, more)) := Lib.hid (by rw [HX6.out, if_neg (by decide)])
                              go_upto_region 43 with (go_at_call 73; refine (HRI.out _ (Below.refl _ _)).mono ?_; rintro e w10 ⟨rfl, hb10⟩; have hR := hR.call hb10)
                              have HT10 := Lib.hid (HTW.out.below hb10)
                              clear f0 f1 f4 hb10
                              go_wp2_with (first
                                | (refine wpList_load_rws rfl _ _ (by rfl) (by exact hR) g7 rfl (dvC ⟨C, T, true, [], F⟩ ad cp) _ (by repeat (first | exact List.Mem.head _ | refine List.Mem.tail _ ?_)) _ Tryz.underlying24 rfl (by kernel_rfl) ?_)
                                | (refine wQ_store rfl _ _ _ (by rfl) (by exact hR) g4 rfl (dvC ⟨C, T, true, [], F⟩ ad cp) (by rfl) _ _ _ (by repeat (first | exact Pick.here | apply Pick.there)) (by kernel_rfl) (by rfl) (dv_one _ _ _) ?_; intro w9 hR hsm9 hsz9))
                              have HR := Lib.hid hR
                              have H9 := HT10.out.same (fun k _ _ hn => hsm9 k (fun e => hn (by rw [e]; simp)))
                              refine bodyPost_rws3 rfl HR.out g4 rfl _ _ (by repeat (first | exact List.Mem.head _ | refine List.Mem.tail _ ?_)) _ Tryz.underlying24 rfl (by kernel_rfl) _ _ rfl rfl rfl (fun hbz => ?_)
                              rw [HXF.out]
                              obtain ⟨ad2, cp2, hsl, hslq⟩ := H9.slq
                              obtain ⟨rfl, _, rfl⟩ : ad = ad2 ∧ F.len = F.len ∧ cp = cp2 := by simpa using hsl
                              exact ⟨ad, cp, rfl, hslq.1, hslq.2, Nat.zero_le _, hbz⟩
                          · have htz : (T == 17) = false := beq_eq_false_iff_ne.2 ht17
                            have HXF : Hid (E = (0, ⟨C, T, true, [], F⟩, more)) := Lib.hid (by rw [HX5.out, if_neg (fun h => ht17 h.2.1)])
                            clear hc0 ht17 HX5 hw41
                            go_upto_region 43 with fail
                            have HT10 := Lib.hid HTW.out
                            clear f0 f1 f4
                            go_wp2_with (first
                              | (refine wpList_load_rws rfl _ _ (by rfl) (by exact hR) g7 rfl (dvC ⟨C, T, true, [], F⟩ ad cp) _ (by repeat (first | exact List.Mem.head _ | refine List.Mem.tail _ ?_)) _ Tryz.underlying24 rfl (by kernel_rfl) ?_)
                              | (refine wQ_store rfl _ _ _ (by rfl) (by exact hR) g4 rfl (dvC ⟨C, T, true, [], F⟩ ad cp) (by rfl) _ _ _ (by repeat (first | exact Pick.here | apply Pick.there)) (by kernel_rfl) (by rfl) (dv_one _ _ _) ?_; intro w9 hR hsm9 hsz9))
                            have HR := Lib.hid hR
                            have H9 := HT10.out.same (fun k _ _ hn => hsm9 k (fun e => hn (by rw [e]; simp)))
                            refine bodyPost_rws3 rfl HR.out g4 rfl _ _ (by repeat (first | exact List.Mem.head _ | refine List.Mem.tail _ ?_)) _ Tryz.underlying24 rfl (by kernel_rfl) _ _ rfl rfl rfl (fun hbz => ?_)
                            rw [HXF.out]
                            obtain ⟨ad2, cp2, hsl, hslq⟩ := H9.slq
                            obtain ⟨rfl, _, rfl⟩ : ad = ad2 ∧ F.len = F.len ∧ cp = cp2 := by simpa using hsl
                            exact ⟨ad, cp, rfl, hslq.1, hslq.2, Nat.zero_le _, hbz⟩
                        · have hcz : (C == 0) = false := beq_eq_false_iff_ne.2 hc0
                          have HXF : Hid (E = (0, ⟨C, T, true, [], F⟩, more)) := Lib.hid (by rw [HX5.out, if_neg (fun h => hc0 h.1)])
                          clear hc0 HX5 hw41
                          go_upto_region 43 with fail
                          have HT10 := Lib.hid HTW.out
                          clear f0 f1 f4
                          go_wp2_with (first
                            | (refine wpList_load_rws rfl _ _ (by rfl) (by exact hR) g7 rfl (dvC ⟨C, T, true, [], F⟩ ad cp) _ (by repeat (first | exact List.Mem.head _ | refine List.Mem.tail _ ?_)) _ Tryz.underlying24 rfl (by kernel_rfl) ?_)
                            | (refine wQ_store rfl _ _ _ (by rfl) (by exact hR) g4 rfl (dvC ⟨C, T, true, [], F⟩ ad cp) (by rfl) _ _ _ (by repeat (first | exact Pick.here | apply Pick.there)) (by kernel_rfl) (by rfl) (dv_one _ _ _) ?_; intro w9 hR hsm9 hsz9))
                          have HR := Lib.hid hR
                          have H9 := HT10.out.same (fun k _ _ hn => hsm9 k (fun e => hn (by rw [e]; simp)))
                          refine bodyPost_rws3 rfl HR.out g4 rfl _ _ (by repeat (first | exact List.Mem.head _ | refine List.Mem.tail _ ?_)) _ Tryz.underlying24 rfl (by kernel_rfl) _ _ rfl rfl rfl (fun hbz => ?_)
                          rw [HXF.out]
                          obtain ⟨ad2, cp2, hsl, hslq⟩ := H9.slq
                          obtain ⟨rfl, _, rfl⟩ : ad = ad2 ∧ F.len = F.len ∧ cp = cp2 := by simpa using hsl
                          exact ⟨ad, cp, rfl, hslq.1, hslq.2, Nat.zero_le _, hbz⟩
                      | cons a i =>
                        have hze := neStr a i
                        obtain ⟨I, hI⟩ : ∃ I, I = a :: i := ⟨_, rfl⟩
                        rw [← hI] at hze zI hJl HJ ⊢
                        have hIne : I ≠ [] := by rw [hI]; simp
                        have HIE := Lib.hid hI
                        clear hI
                        obtain ⟨f2, rfl⟩ : ∃ f2, f = f2 + 1 := ⟨f - 1, by have h1 := HJ.out.2.1; have h2 := List.length_pos_iff.2 hIne; omega⟩
                        obtain ⟨X, hX⟩ : ∃ X, X = rdS hp I := ⟨_, rfl⟩
                        have HST : Hid (rdsF (rdS hp) (f2 + 1) I = if X.1 ≠ 0 then (X.1, .nil) else if (rdsF (rdS hp) f2 X.2.2).1 ≠ 0 then ((rdsF (rdS hp) f2 X.2.2).1, .nil) else (0, .cons X.2.1.c X.2.1.t X.2.1.k X.2.1.b X.2.1.l (rdsF (rdS hp) f2 X.2.2).2)) := Lib.hid (by
                          rw [rdsF, if_neg (by simpa using hIne), hX])
                        have HRD : Hid (∀ u, Calls Tryz.prog 37 #[.string (bs I), .int .i64 ((n : Int) + 1)] u (RReadQ u X)) := Lib.hid fun u => by
                          have := HIH2.out I u (by omega)
                          rw [← HN1.out, ← hX] at this
                          exact this
                        have HXX := Lib.hid hX
                        have g7l := hR.lt (x := (g7, dvC ⟨C, T, true, [], F⟩ ad cp, 24)) (by repeat (first | exact List.Mem.head _ | refine List.Mem.tail _ ?_))
                        have g4l := hR.lt (x := (g4, dvC .zero none 0, 24)) (by repeat (first | exact List.Mem.head _ | refine List.Mem.tail _ ?_))
                        have HWL := Lib.hid hR.len
                        clear hX hIne HNR
                        go_upto_region 37 with (first
                          | (go_at_call 37; refine (HRD.out _).mono ?_; rintro e w11 ⟨ad1, cp1, rfl, hsl1, _, hbl1, hb11⟩; have hR := hR.call hb11; have H211 := Lib.hid (HTW.out.below hb11))
                          | (refine wQ_alloc (cs := dvC .zero none 0) rfl _ (by rfl) (by exact hR) zero_der ?_; intro g15 w12 hR hb12 hg15; have H212 := Lib.hid ((H211.out.cons hg15).below hb12))
                          | (refine wQ_store rfl _ _ _ (by rfl) (by exact hR) g15 rfl (dvC X.2.1 ad1 cp1) (by rfl) _ _ _ (by repeat (first | exact Pick.here | apply Pick.there)) (by kernel_rfl) (by rfl) (dv_one _ _ _) ?_; intro w13 hR hsm13 hsz13; have H213 := Lib.hid (H212.out.same fun k _ _ hn => hsm13 k (fun e => hn (by rw [e]; simp)))))
                        by_cases hX1 : X.1 = 0
                        · have hX1z : (X.1 == 0) = true := by rw [hX1]; rfl
                          have hkid : SlQ (fun x => w.heap.size ≤ x ∧ x ∉ [g15, g7, g4] ∧ (Value.slice none 0 0).ownBlock ≠ some x ∧ (Value.slice ad F.len cp).ownBlock ≠ some x) w13 X.2.1.l ad1 cp1 := by
                            have hu := HWL.out
                            have z11 := hb11.size
                            have hvk : ∀ k, wr.heap.size ≤ k → (Value.slice ad F.len cp).ownBlock ≠ some k := fun k hk e => by
                              obtain ⟨_, cs, fr, h3⟩ := own_lt HTW.out.hK e
                              have := (Array.getElem?_eq_some_iff.1 h3).1
                              omega
                            refine hsl1.same (fun k hk hl => ⟨by omega, fun hm => ?_, fun e => (by cases e), hvk k hk⟩) (fun k hk hl => ?_)
                            · simp only [List.mem_cons, List.not_mem_nil, or_false] at hm
                              rcases hm with h | h | h <;> omega
                            · rw [hsm13 k (by omega), hb12.block k hl]
                          have hGl : ∀ y, y ∈ [g15, g7, g4] → y < w13.heap.size := fun y hy => by
                            simp only [List.mem_cons, List.not_mem_nil, or_false] at hy
                            rcases hy with rfl | rfl | rfl
                            · exact hR.lt (x := (y, dvC X.2.1 ad1 cp1, 24)) (by repeat (first | exact List.Mem.head _ | refine List.Mem.tail _ ?_))
                            · exact hR.lt (x := (y, dvC ⟨C, T, true, [], F⟩ ad cp, 24)) (by repeat (first | exact List.Mem.head _ | refine List.Mem.tail _ ?_))
                            · exact hR.lt (x := (y, dvC .zero none 0, 24)) (by repeat (first | exact List.Mem.head _ | refine List.Mem.tail _ ?_))
                          have HGL := Lib.hid hGl
                          have HK := Lib.hid hkid
                          have hFk : F.len + 1 ≤ 1000000 := by omega
                          have f74 := hR.cellAt (g := g7) (by repeat (first | exact List.Mem.head _ | refine List.Mem.tail _ ?_)) 4 rfl
                          obtain ⟨hdv, _⟩ := rdS_form hp HP16.out I X.2.1 X.2.2 (by rw [← HXX.out]; exact Prod.ext hX1 rfl)
                          have hlf : I.length = X.2.1.form.length + X.2.2.length := by rw [← List.length_append, ← hdv]
                          have hfp := List.length_pos_iff.2 (Dv.form_ne X.2.1)
                          have HLF : Hid (X.2.2.length < I.length) := Lib.hid (by omega)
                          have HJN : Hid (N = joinR (F.snoc X.2.1) (rdsF (rdS hp) f2 X.2.2)) := Lib.hid (by
                            rw [HJ.out.1]
                            refine join_step F X.2.1 ?_
                            rw [HST.out, if_neg (by rw [hX1]; simp)])
                          clear hkid hGl hb11 hb12 hsl1 hsm13 hsz13 hg15 hdv hlf hfp g7l g4l hX1 HST HRD
                          go_wp2_with (first
                            | (refine wpList_load_rws rfl _ _ (by rfl) (by exact hR) g15 rfl (dvC X.2.1 ad1 cp1) _ (by repeat (first | exact List.Mem.head _ | refine List.Mem.tail _ ?_)) _ Tryz.underlying24 rfl (by kernel_rfl) ?_)
                            | (at_builtin; refine wp_twoK rfl _ _ (by rfl) X.2.1 ad1 cp1 (by rfl) (by rfl) H213.out hR (fun y hy => by simp only [List.mem_cons, List.not_mem_nil, or_false] at hy ⊢; rcases hy with rfl | rfl | rfl <;> simp) HGL.out hFk hbl1 HK.out ?_; intro vk2 w17 h217 hR hs17; obtain ⟨ad2, cp2, rfl, _⟩ := h217.slq; have H217 := Lib.hid h217; clear h217)
                            | (refine wS_storec (g := g7) (k := 4) (new := dvC ⟨C, T, true, [], F.snoc X.2.1⟩ ad2 cp2) rfl (by rfl) (by exact hR) rfl rfl (by repeat (first | exact Pick.here | apply Pick.there)) rfl (by kernel_rfl) (by exact (show 4 < 5 by decide)) (by rfl) rfl ?_; intro w18 hR hsm18 hsz18))
                          have H218 := H217.out.same (fun k _ _ hn => hsm18 k (fun e => hn (by rw [e]; simp)))
                          have hR := hR.front (x := (g4, dvC .zero none 0, 24)) (by repeat (first | exact Pick.here | apply Pick.there))
                          have hR := hR.front (x := (g7, dvC ⟨C, T, true, [], F.snoc X.2.1⟩ ad2 cp2, 24)) (by repeat (first | exact Pick.here | apply Pick.there))
                          have hR := hR.sub (L' := [(g7, dvC ⟨C, T, true, [], F.snoc X.2.1⟩ ad2 cp2, 24), (g4, dvC .zero none 0, 24)]) (by repeat (first | exact List.Sublist.refl _ | exact List.nil_sublist _ | apply List.Sublist.cons_cons))
                          go_roundg X.2.2.length
                          case measure => rw [← HIE.out]; exact HLF.out
                          case rel =>
                            refine ⟨X.2.2, f2, F.snoc X.2.1, _, ad2, cp2, rfl, rfl, hR, H218.uncons, HJN.out, ?_, ?_⟩
                            · have := HLF.out; have := HJ.out.2.1; omega
                            · rw [Dr.snoc_len]; have := HLF.out; omega
                        · have hX1z : (X.1 == 0) = false := beq_eq_false_iff_ne.2 hX1
                          have HXE : Hid (E = (X.1, .zero, [])) := Lib.hid (by
                            have e1 : N = (X.1, .nil) := by
                              rw [HJ.out.1, HST.out, if_pos hX1]
                              unfold joinR
                              rw [if_pos hX1]
                            rw [HX4.out, e1, if_pos hX1])
                          clear hX1 HST HRD hsl1 hbl1 hb11 hb12 hg15 hsm13 hsz13 g7l g4l
                          go_wp2_with (refine wQ_store rfl _ _ _ (by rfl) (by exact hR) g4 rfl (dvC .zero none 0) (by rfl) _ _ _ (by repeat (first | exact Pick.here | apply Pick.there)) (by kernel_rfl) (by kernel_rfl) (by kernel_rfl) ?_; intro w9 hR hsm9 hsz9)
                          have HR := Lib.hid hR
                          refine bodyPost_rws3 rfl HR.out g4 rfl _ _ (by repeat (first | exact List.Mem.head _ | refine List.Mem.tail _ ?_)) _ Tryz.underlying24 rfl (by kernel_rfl) _ _ rfl rfl rfl (fun hbz => ?_)
                          rw [HXE.out]
                          exact ⟨none, 0, rfl, SlQ.nil _ _, OwnD.nil _ _, Nat.zero_le _, hbz⟩
theorem rread_any : ∀ h, h ≤ 16 → RReadAt h
  | 0, h16 => rread_step 0 h16 (fun hp hh => by omega)
  | h + 1, h16 => rread_step (h + 1) h16 (fun hp hh => by
    obtain rfl : hp = h := by omega
    exact rread_any hp (by omega))
end Go.Proofs.YtebhiplcoioenaaGreatDoor
