/- ostiaryref06.check, Check, kind: the walks, for primitive values of the class 0. -/
import Derived.Test.YtebhiplcoioenaaGreatDoorZZRForm
import Derived.Test.YtebhiplcoioenaaGreatDoorZZAmong
namespace Go.Proofs.YtebhiplcoioenaaGreatDoor
open Go.RowKit

theorem prim_rng {t : Int} (h : primL.contains t = true) : 0 ≤ t ∧ t ≤ 30 ∧ t ≠ 17 ∧ t ≠ 16 := by
  have hm : t ∈ primL := List.contains_iff_mem.1 h
  simp only [primL, List.mem_cons, List.not_mem_nil, or_false] at hm
  omega
/-- What is wrong with a primitive value of the class 0. -/
theorem err_prim (t : Int) (k : Bool) (b : Bs) (l : Dr) (h : primL.contains t = true) : (⟨0, t, k, b, l⟩ : Dv).err 0 = if k = true ∨ 0 < l.len then 61 else if fineS t b = false then 61 else 0 := by
  have hr := prim_rng h
  have hth := there_prim t
  have h16 : consB t = false := by rw [hth.2, neb hr.2.2.1, neb hr.2.2.2]; rfl
  have hto : thereB t = true := by rw [hth.1, h]; rfl
  have hH : headE 0 t k b l.len 0 = if k = true ∨ 0 < l.len then 61 else 0 := by
    unfold headE
    rw [if_neg (by rw [hto]; simp; omega), h16]
    cases k with
    | true => rw [if_pos (Or.inl ⟨rfl, by decide⟩), if_pos (Or.inl rfl)]
    | false =>
      by_cases hl : 0 < l.len
      · rw [if_pos (Or.inr (Or.inr ⟨rfl, hl⟩)), if_pos (Or.inr hl)]
      · rw [if_neg (by simp; omega), if_neg (by simp), if_neg (by simp; omega)]
  unfold Dv.err
  simp only
  rw [hH]
  by_cases hc : k = true ∨ 0 < l.len
  · rw [if_pos hc, if_pos (by decide), if_pos hc]
  · rw [if_neg hc, if_neg (by simp), if_neg hc]
    have hk : k = false := by cases k with
      | true => exact absurd (Or.inl rfl) hc
      | false => rfl
    subst hk
    rw [if_pos rfl]
    cases fineS t b <;> simp
set_option maxRecDepth 100000 in
set_option maxHeartbeats 4000000 in
theorem rcheck_prim (t : Int) (k : Bool) (b : Bs) (l : Dr) (ad : Option Addr) (cp : Nat) (w : World) (hp : primL.contains t = true)
    (hfn : ∀ u, Below w.heap.size w u → Calls Tryz.prog 72 #[.int .i64 t, .string (bs b)] u (RetB (fineS t b) u)) :
    Calls Tryz.prog 78 #[dvv ⟨0, t, k, b, l⟩ ad cp, .int .i64 0] w (RetI ((⟨0, t, k, b, l⟩ : Dv).err 0) w) := by
  have hR := Rws.start w
  have HE := Lib.hid (err_prim t k b l hp)
  obtain ⟨hr1, hr2, hr3, hr4⟩ := prim_rng hp
  have n1 : ¬ t < 0 := by omega
  have n2 : ¬ (30 : Int) < t := by omega
  have n3 : (t == 17) = false := neb hr3
  have HCO : Hid (∀ u, Calls Tryz.prog 71 #[.int .i64 t] u fun e w' => e = .returned (.tuple #[.bool false, .bool true]) ∧ Below u.heap.size u w') := Lib.hid fun u => by
    have := Cons_any t u
    have hth := there_prim t
    rw [hth.1, hp] at this
    unfold consR at this
    rw [hp] at this
    exact this
  have HFN := Lib.hid hfn
  rw [HE.out]
  clear hfn hp HE
  obtain ⟨L, hL⟩ : ∃ L, L = l.len := ⟨_, rfl⟩
  have HL := Lib.hid hL
  rw [← hL]
  clear hL
  cases k with
  | true =>
    rw [if_pos (Or.inl rfl)]
    go_enter Tryz.func78, Tryz.ntmps78
    go_upto_region 2 with (first
      | (refine wpList_box_rws rfl _ _ (by rfl) (by exact hR) (dvC ⟨0, t, true, b, l⟩ ad cp) rfl ?_; intro gb w1 hR; have f1 := hR.cellAt (g := gb) (List.Mem.head _) 1 rfl)
      | (go_at_call 71; refine (HCO.out _).mono ?_; rintro e w2 ⟨rfl, hb2⟩; have hR := hR.call hb2))
    have f0 := hR.cellAt (g := gb) (List.Mem.head _) 0 rfl
    have f1 := hR.cellAt (g := gb) (List.Mem.head _) 1 rfl
    have f2 := hR.cellAt (g := gb) (List.Mem.head _) 2 rfl
    have f3 := hR.cellAt (g := gb) (List.Mem.head _) 3 rfl
    cases hb : (bs b).toList.isEmpty with
    | true =>
      go_wp2_with fail
      go_ret
      exact ⟨rfl, hR.below⟩
    | false =>
      go_wp2_with fail
      go_ret
      exact ⟨rfl, hR.below⟩
  | false =>
    go_enter Tryz.func78, Tryz.ntmps78
    go_upto_region 2 with (first
      | (refine wpList_box_rws rfl _ _ (by rfl) (by exact hR) (dvC ⟨0, t, false, b, l⟩ ad cp) rfl ?_; intro gb w1 hR; have f1 := hR.cellAt (g := gb) (List.Mem.head _) 1 rfl)
      | (go_at_call 71; refine (HCO.out _).mono ?_; rintro e w2 ⟨rfl, hb2⟩; have hR := hR.call hb2))
    have f0 := hR.cellAt (g := gb) (List.Mem.head _) 0 rfl
    have f1 := hR.cellAt (g := gb) (List.Mem.head _) 1 rfl
    have f2 := hR.cellAt (g := gb) (List.Mem.head _) 2 rfl
    have f3 := hR.cellAt (g := gb) (List.Mem.head _) 3 rfl
    have f4 : w2.cell? ⟨gb, 4, none⟩ = some (.slice ad L cp) := by rw [HL.out]; exact hR.cellAt (g := gb) (List.Mem.head _) 4 rfl
    by_cases hl : 0 < L
    · rw [if_pos (Or.inr hl)]
      have hlz : (0 : Int) < (L : Int) := by omega
      go_wp2_with fail
      go_ret
      exact ⟨rfl, hR.below⟩
    · rw [if_neg (by rintro (h | h); cases h; exact hl h)]
      obtain rfl : L = 0 := by omega
      cases hf : fineS t b with
      | false =>
        rw [if_pos rfl]
        rw [hf] at HFN
        go_wp2_with (go_at_call 72; refine (HFN.out _ hR.below).mono ?_; rintro e w3 ⟨rfl, hb3⟩; have hR := hR.call hb3)
        go_ret
        exact ⟨rfl, hR.below⟩
      | true =>
        rw [if_neg (by decide)]
        rw [hf] at HFN
        go_upto_region 10 with (go_at_call 72; refine (HFN.out _ hR.below).mono ?_; rintro e w3 ⟨rfl, hb3⟩; have hR := hR.call hb3)
        have f0 := hR.cellAt (g := gb) (List.Mem.head _) 0 rfl
        have f1 := hR.cellAt (g := gb) (List.Mem.head _) 1 rfl
        have f4 : w3.cell? ⟨gb, 4, none⟩ = some (.slice ad 0 cp) := by rw [HL.out]; exact hR.cellAt (g := gb) (List.Mem.head _) 4 rfl
        go_upto_region 11 with fail
        refine wp_loop_rounds 1 ?_
        rw [rounds_succ]
        go_wp2_with fail
        go_ret
        exact ⟨rfl, hR.below⟩
set_option maxRecDepth 100000 in
set_option maxHeartbeats 4000000 in
/-- The document's Check of a primitive value of the class 0. -/
theorem rCheck_prim (t : Int) (k : Bool) (b : Bs) (l : Dr) (ad : Option Addr) (cp : Nat) (w : World) (hp : primL.contains t = true) (hb : fineS t b = true → b.length ≤ 1048576)
    (hfn : ∀ u, Below w.heap.size w u → Calls Tryz.prog 72 #[.int .i64 t, .string (bs b)] u (RetB (fineS t b) u)) :
    Calls Tryz.prog 50 #[dvv ⟨0, t, k, b, l⟩ ad cp] w (RetI (⟨0, t, k, b, l⟩ : Dv).check w) := by
  have hR := Rws.start w
  have HCK : Hid (∀ u, Below w.heap.size w u → Calls Tryz.prog 78 #[dvv ⟨0, t, k, b, l⟩ ad cp, .int .i64 0] u (RetI ((⟨0, t, k, b, l⟩ : Dv).err 0) u)) := Lib.hid fun u hu => rcheck_prim t k b l ad cp u hp (fun u2 hu2 => hfn u2 (hu.trans (hu2.mono hu.size)))
  by_cases he : (⟨0, t, k, b, l⟩ : Dv).err 0 = 0
  · have hq := err_prim t k b l hp
    rw [he] at hq HCK
    have hk0 : k = false := by
      cases k with
      | false => rfl
      | true => rw [if_pos (Or.inl rfl)] at hq; cases hq
    subst hk0
    have hf : fineS t b = true := by
      cases hz : fineS t b with
      | true => rfl
      | false =>
        rw [hz, if_pos rfl] at hq
        by_cases h1 : false = true ∨ 0 < l.len
        · rw [if_pos h1] at hq; cases hq
        · rw [if_neg h1] at hq; cases hq
    have hbl := hb hf
    obtain ⟨hr1, hr2, _, _⟩ := prim_rng hp
    obtain ⟨T, rfl⟩ := Int.eq_ofNat_of_zero_le hr1
    obtain ⟨F, hF⟩ : ∃ F, F = (⟨0, T, false, b, l⟩ : Dv).form := ⟨_, rfl⟩
    have HF : Hid (∀ u, Below w.heap.size w u → Calls Tryz.prog 79 #[dvv ⟨0, T, false, b, l⟩ ad cp] u fun e w' => e = .returned (.string (bs F)) ∧ Below u.heap.size u w') := Lib.hid fun u _ => by
      rw [hF]
      exact rform_p 0 T b l ad cp u (by omega) (by omega) hbl
    have HC : Hid ((⟨0, T, false, b, l⟩ : Dv).check = if 16384 < F.length then 64 else 0) := Lib.hid (by
      unfold Dv.check
      rw [if_neg (by rw [he]; simp), hF])
    have hFl : F.length ≤ 1048580 := by
      rw [hF]
      have := whole_len 0 T false b
      unfold Dv.form
      simp only
      rw [if_neg (by decide)]
      omega
    have zs := bs_size F
    clear hF hf hq he hb hfn hp
    rw [HC.out]
    go_enter Tryz.func50, Tryz.ntmps50
    go_upto_region 2 with (first
      | (refine wpList_box_rws rfl _ _ (by rfl) (by exact hR) (dvC ⟨0, T, false, b, l⟩ ad cp) rfl ?_; intro gb w1 hR)
      | (refine wpList_load_rws rfl _ _ (by rfl) (by exact hR) gb rfl (dvC ⟨0, T, false, b, l⟩ ad cp) _ (List.Mem.head _) _ Tryz.underlying24 rfl (by kernel_rfl) ?_)
      | (go_at_call 78; refine (HCK.out _ hR.below).mono ?_; rintro e w2 ⟨rfl, hb2⟩; have hR := hR.call hb2))
    have f0 := hR.cellAt (g := gb) (List.Mem.head _) 0 rfl
    have f1 := hR.cellAt (g := gb) (List.Mem.head _) 1 rfl
    have f2 := hR.cellAt (g := gb) (List.Mem.head _) 2 rfl
    have f3 := hR.cellAt (g := gb) (List.Mem.head _) 3 rfl
    have f4 := hR.cellAt (g := gb) (List.Mem.head _) 4 rfl
    by_cases hl : 16384 < F.length
    · have hlz : (16384 : Int) < (F.length : Int) := by omega
      rw [if_pos hl]
      go_wp2_with (go_at_call 79; refine (HF.out _ hR.below).mono ?_; rintro e w3 ⟨rfl, hb3⟩; have hR := hR.call hb3)
      go_ret
      exact ⟨rfl, hR.below⟩
    · have hlz : ¬ (16384 : Int) < (F.length : Int) := by omega
      rw [if_neg hl]
      go_wp2_with (go_at_call 79; refine (HF.out _ hR.below).mono ?_; rintro e w3 ⟨rfl, hb3⟩; have hR := hR.call hb3)
      go_ret
      exact ⟨rfl, hR.below⟩
  · have HC : Hid ((⟨0, t, k, b, l⟩ : Dv).check = (⟨0, t, k, b, l⟩ : Dv).err 0) := Lib.hid (by
      unfold Dv.check
      rw [if_pos he])
    rw [HC.out]
    generalize (⟨0, t, k, b, l⟩ : Dv).err 0 = E at *
    have hez : (E == 0) = false := by simpa using he
    clear hb hfn hp HC he
    go_enter Tryz.func50, Tryz.ntmps50
    go_upto_region 2 with (first
      | (refine wpList_box_rws rfl _ _ (by rfl) (by exact hR) (dvC ⟨0, t, k, b, l⟩ ad cp) rfl ?_; intro gb w1 hR)
      | (refine wpList_load_rws rfl _ _ (by rfl) (by exact hR) gb rfl (dvC ⟨0, t, k, b, l⟩ ad cp) _ (List.Mem.head _) _ Tryz.underlying24 rfl (by kernel_rfl) ?_)
      | (go_at_call 78; refine (HCK.out _ hR.below).mono ?_; rintro e w2 ⟨rfl, hb2⟩; have hR := hR.call hb2))
    go_wp2_with fail
    go_ret
    exact ⟨rfl, hR.below⟩
set_option maxRecDepth 100000 in
set_option maxHeartbeats 4000000 in
/-- Is a value of the class 0 and a tag, and may it be? -/
theorem rkind_any (v : Dv) (ad : Option Addr) (cp : Nat) (t : Int) (w : World) (hck : v.c = 0 → v.t = t → ∀ u, Below w.heap.size w u → Calls Tryz.prog 50 #[dvv v ad cp] u (RetI v.check u)) :
    Calls Tryz.prog 42 #[dvv v ad cp, .int .i64 t] w (RetB (v.isK t) w) := by
  have hR := Rws.start w
  obtain ⟨c, tt, k, b, l⟩ := v
  by_cases hc : c = 0
  · subst hc
    by_cases ht : tt = t
    · subst ht
      have HCK := Lib.hid (hck rfl rfl)
      have HK : Hid ((⟨0, tt, k, b, l⟩ : Dv).isK tt = ((⟨0, tt, k, b, l⟩ : Dv).check == 0)) := Lib.hid (by unfold Dv.isK; simp)
      have htt : (tt == tt) = true := by simp
      rw [HK.out]
      generalize (⟨0, tt, k, b, l⟩ : Dv).check = E at *
      clear hck HK
      go_enter Tryz.func42, Tryz.ntmps42
      go_upto_region 1 with (refine wpList_box_rws rfl _ _ (by rfl) (by exact hR) (dvC ⟨0, tt, k, b, l⟩ ad cp) rfl ?_; intro gb w1 hR)
      have f0 := hR.cellAt (g := gb) (List.Mem.head _) 0 rfl
      have f1 := hR.cellAt (g := gb) (List.Mem.head _) 1 rfl
      have f2 := hR.cellAt (g := gb) (List.Mem.head _) 2 rfl
      have f3 := hR.cellAt (g := gb) (List.Mem.head _) 3 rfl
      have f4 := hR.cellAt (g := gb) (List.Mem.head _) 4 rfl
      go_wp2_with (go_at_call 50; refine (HCK.out _ hR.below).mono ?_; rintro e w3 ⟨rfl, hb3⟩; have hR := hR.call hb3)
      go_ret
      exact ⟨rfl, hR.below⟩
    · have htz : (tt == t) = false := by simpa using ht
      have HK : Hid ((⟨0, tt, k, b, l⟩ : Dv).isK t = false) := Lib.hid (by unfold Dv.isK; simp [htz])
      rw [HK.out]
      clear hck HK
      go_enter Tryz.func42, Tryz.ntmps42
      go_upto_region 1 with (refine wpList_box_rws rfl _ _ (by rfl) (by exact hR) (dvC ⟨0, tt, k, b, l⟩ ad cp) rfl ?_; intro gb w1 hR)
      have f0 := hR.cellAt (g := gb) (List.Mem.head _) 0 rfl
      have f1 := hR.cellAt (g := gb) (List.Mem.head _) 1 rfl
      go_wp2_with fail
      go_ret
      exact ⟨rfl, hR.below⟩
  · have hcz : (c == 0) = false := by simpa using hc
    have HK : Hid ((⟨c, tt, k, b, l⟩ : Dv).isK t = false) := Lib.hid (by unfold Dv.isK; simp [hcz])
    rw [HK.out]
    clear hck HK
    go_enter Tryz.func42, Tryz.ntmps42
    go_upto_region 1 with (refine wpList_box_rws rfl _ _ (by rfl) (by exact hR) (dvC ⟨c, tt, k, b, l⟩ ad cp) rfl ?_; intro gb w1 hR)
    have f0 := hR.cellAt (g := gb) (List.Mem.head _) 0 rfl
    go_wp2_with fail
    go_ret
    exact ⟨rfl, hR.below⟩
end Go.Proofs.YtebhiplcoioenaaGreatDoor
