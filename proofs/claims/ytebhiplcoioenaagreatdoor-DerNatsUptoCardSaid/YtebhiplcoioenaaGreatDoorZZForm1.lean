/- der.form: the walk, errors of a head; primitive values. -/
import Derived.Test.YtebhiplcoioenaaGreatDoorZDA
import Derived.Test.YtebhiplcoioenaaGreatDoorZZWhole
import Derived.Test.YtebhiplcoioenaaGreatDoorZZRise
import Derived.Test.YtebhiplcoioenaaGreatDoorZDE
namespace Go.Proofs.YtebhiplcoioenaaGreatDoor
open Go.RowKit

/-- What form answers. -/
def Dv.formP (v : Dv) (n : Nat) : Bs := if v.err n = 0 then v.form else []
@[reducible] def FormQ (w : World) (v : Dv) (n : Nat) (e : Ending) (w' : World) : Prop := (∃ er, e = .returned (.tuple #[.string (bs (v.formP n)), er]) ∧ ErrA (v.err n) er) ∧ Below w.heap.size w w'
theorem whole_len (c t : Int) (k : Bool) (s : Bs) : (wholeS c t k s).length ≤ s.length + 4 := by
  unfold wholeS
  have := (lenS_len s.length).2
  simp
  omega
theorem forms_len : ∀ l : Dr, (formsS l).flatten.length ≤ l.wt
  | .nil => by simp [formsS, Dr.wt]
  | .cons c t k b kids nx => by
    have h1 := forms_len kids
    have h2 := forms_len nx
    have h3 := whole_len c t k (if k then (formsS kids).flatten else b)
    simp only [formsS, List.flatten_cons, List.length_append, Dr.wt]
    have h4 : (if k then (formsS kids).flatten else b).length ≤ kids.wt + b.length := by
      cases k
      · simp
      · rw [if_pos rfl]; omega
    omega
theorem len_wt : ∀ l : Dr, l.len ≤ l.wt
  | .nil => Nat.le_refl _
  | .cons c t k b kids nx => by
    have h2 := len_wt nx
    simp only [Dr.len, Dr.wt]; omega
set_option maxRecDepth 100000 in
set_option maxHeartbeats 4000000 in
theorem form_bad (v : Dv) (ad : Option Addr) (cp n : Nat) (w : World) (h : headE v.c v.t v.k v.b v.l.len n ≠ 0) : Calls Tryz.prog 38 #[dvv v ad cp, .int .i64 n] w (FormQ w v n) := by
  have hR := Rws.start w
  obtain ⟨E, hE⟩ : ∃ E, E = headE v.c v.t v.k v.b v.l.len n := ⟨_, rfl⟩
  have HH : Hid (∀ u, Calls Tryz.prog 62 #[dvv v ad cp, .int .i64 n] u fun e w' => e = .returned (wrV E) ∧ Below u.heap.size u w') := Lib.hid fun u => by
    have := head_any v ad cp n u
    rw [← hE] at this h
    unfold errO at this
    rw [if_neg h] at this
    exact this
  have HE : Hid (v.err n = E ∧ E ≠ 0) := Lib.hid ⟨by unfold Dv.err; rw [if_pos h, hE], by rw [hE]; exact h⟩
  clear hE h
  obtain ⟨cs, hcs⟩ : ∃ cs, cs = dvC v ad cp := ⟨_, rfl⟩
  unfold dvv at HH ⊢
  rw [← hcs] at HH ⊢
  have hz : cs.size = 5 := by rw [hcs]; rfl
  have hi : (Tryz.prog.info? 24).map (·.size) = some cs.size := by rw [hz]; kernel_rfl
  clear hcs
  go_enter Tryz.func38, Tryz.ntmps38
  go_upto_region 2 with (first
    | (refine wpList_box_rws rfl _ _ (by rfl) (by exact hR) cs rfl ?_; intro gb w1 hR; have HB := Lib.hid hR.below)
    | (refine wpList_load_rws rfl _ _ (by rfl) (by exact hR) gb rfl cs _ (List.Mem.head _) _ Tryz.underlying24 rfl hi ?_; clear hR)
    | (go_at_call 62; refine (HH.out _).mono ?_; rintro e w2 ⟨rfl, hb2⟩))
  go_wp2_with fail
  go_ret2
  refine ⟨⟨_, ?_, by rw [HE.out.1]; exact Or.inr ⟨HE.out.2, 0, ErrV.wrong⟩⟩, HB.out.trans (hb2.mono HB.out.size)⟩
  unfold Dv.formP
  rw [HE.out.1, if_neg HE.out.2]
  rfl
theorem head_zero {v : Dv} {n : Nat} (h : headE v.c v.t v.k v.b v.l.len n = 0) : v.c = 0 → v.k = false → primL.contains v.t = true := by
  intro hc hk
  unfold headE at h
  by_cases h1 : v.c < 0 ∨ 3 < v.c ∨ v.t < 0 ∨ 30 < v.t ∨ (v.c = 0 ∧ thereB v.t = false)
  · rw [if_pos h1] at h; cases h
  · rw [if_neg h1] at h
    by_cases h2 : (v.c = 0 ∧ consB v.t ≠ v.k) ∨ (v.k = true ∧ v.b ≠ []) ∨ (v.k = false ∧ 0 < v.l.len)
    · rw [if_pos h2] at h; cases h
    · have ht : thereB v.t = true := by
        cases h3 : thereB v.t with
        | true => rfl
        | false => exact absurd (Or.inr (Or.inr (Or.inr (Or.inr ⟨hc, h3⟩)))) h1
      have hcn : consB v.t = false := by
        cases h3 : consB v.t with
        | false => rfl
        | true => exact absurd (Or.inl ⟨hc, by rw [h3, hk]; decide⟩) h2
      obtain ⟨p1, p2⟩ := there_prim v.t
      rw [p2] at hcn
      rw [p1, hcn, Bool.or_false] at ht
      exact ht
set_option maxRecDepth 100000 in
set_option maxHeartbeats 4000000 in
theorem form_prim (c t : Int) (b : Bs) (l : Dr) (ad : Option Addr) (cp n : Nat) (w : World) (h : headE c t false b l.len n = 0) (hb : b.length ≤ 1048576) (hg : Gd w) : Calls Tryz.prog 38 #[dvv ⟨c, t, false, b, l⟩ ad cp, .int .i64 n] w (FormQ w ⟨c, t, false, b, l⟩ n) := by
  have hR := Rws.start w
  have hSB := SB_eq
  have hok := head_ok h
  have HH : Hid (∀ u, Calls Tryz.prog 62 #[dvv ⟨c, t, false, b, l⟩ ad cp, .int .i64 n] u fun e w' => e = .returned .nilIface ∧ Below u.heap.size u w') := Lib.hid fun u => by
    have := head_any ⟨c, t, false, b, l⟩ ad cp n u
    simp only at this
    rw [h] at this
    exact this
  have HW : Hid (∀ u, Calls Tryz.prog 74 #[dvv ⟨c, t, false, b, l⟩ ad cp, .string (bs b)] u fun e w' => e = .returned (.string (bs (wholeS c t false b))) ∧ Below u.heap.size u w') := Lib.hid fun u => whole_any ⟨c, t, false, b, l⟩ ad cp b u hok.1 hok.2.1 hok.2.2.1 hok.2.2.2.1 (by omega)
  have HE : Hid ((Dv.mk c t false b l).err n = if c = 0 ∧ fineS t b = false then 61 else 0) := Lib.hid (by unfold Dv.err; simp only; rw [if_neg (by rw [h]; simp), if_pos trivial])
  have HF : Hid ((Dv.mk c t false b l).form = wholeS c t false b) := Lib.hid rfl
  have hz : (dvC ⟨c, t, false, b, l⟩ ad cp).size = 5 := rfl
  have hi : (Tryz.prog.info? 24).map (·.size) = some (dvC ⟨c, t, false, b, l⟩ ad cp).size := by rw [hz]; kernel_rfl
  clear hok
  by_cases hc : c = 0
  · subst hc
    have hp := head_zero (v := ⟨0, t, false, b, l⟩) h rfl rfl
    cases hf : fineS t b with
    | false =>
      have HBY : Hid (∀ u, Below w.heap.size w u → Calls Tryz.prog 66 #[.int .i64 t, .string (bs b)] u fun e w' => e = .returned (wrV 61) ∧ Below u.heap.size u w') := Lib.hid fun u hu => by
        have := bytes_any t hp b u (by omega) (hg.below hu) (fun _ => hb)
        rw [hf] at this
        exact this
      have HE2 : Hid ((Dv.mk 0 t false b l).err n = 61) := Lib.hid (by rw [HE.out, if_pos ⟨rfl, hf⟩])
      clear hf h hp hg HE
      go_enter Tryz.func38, Tryz.ntmps38
      go_upto_region 2 with (first
        | (refine wpList_box_rws rfl _ _ (by rfl) (by exact hR) (dvC ⟨0, t, false, b, l⟩ ad cp) rfl ?_; intro gb w1 hR; have HB := Lib.hid hR.below)
        | (refine wpList_load_rws rfl _ _ (by rfl) (by exact hR) gb rfl (dvC ⟨0, t, false, b, l⟩ ad cp) _ (List.Mem.head _) _ Tryz.underlying24 rfl hi ?_)
        | (go_at_call 62; refine (HH.out _).mono ?_; rintro e w2 ⟨rfl, hb2⟩; have hR := hR.call hb2))
      have f0 := hR.cellAt (g := gb) (List.Mem.head _) 0 rfl; have f1 := hR.cellAt (g := gb) (List.Mem.head _) 1 rfl; have f2 := hR.cellAt (g := gb) (List.Mem.head _) 2 rfl; have f3 := hR.cellAt (g := gb) (List.Mem.head _) 3 rfl
      have HB := Lib.hid hR.below
      clear hR hb2
      go_wp2_with (go_at_call 66; refine (HBY.out _ HB.out).mono ?_; rintro e w3 ⟨rfl, hb3⟩)
      go_ret2
      refine ⟨⟨_, ?_, by rw [HE2.out]; exact Or.inr ⟨by decide, 0, ErrV.wrong⟩⟩, HB.out.trans (hb3.mono HB.out.size)⟩
      unfold Dv.formP
      rw [HE2.out, if_neg (by decide)]
      rfl
    | true =>
      have HBY : Hid (∀ u, Below w.heap.size w u → Calls Tryz.prog 66 #[.int .i64 t, .string (bs b)] u fun e w' => e = .returned .nilIface ∧ Below u.heap.size u w') := Lib.hid fun u hu => by
        have := bytes_any t hp b u (by omega) (hg.below hu) (fun _ => hb)
        rw [hf] at this
        exact this
      have HE2 : Hid ((Dv.mk 0 t false b l).err n = 0) := Lib.hid (by rw [HE.out, if_neg (by rw [hf]; simp)])
      clear hf h hp hg HE
      go_enter Tryz.func38, Tryz.ntmps38
      go_upto_region 2 with (first
        | (refine wpList_box_rws rfl _ _ (by rfl) (by exact hR) (dvC ⟨0, t, false, b, l⟩ ad cp) rfl ?_; intro gb w1 hR; have HB := Lib.hid hR.below)
        | (refine wpList_load_rws rfl _ _ (by rfl) (by exact hR) gb rfl (dvC ⟨0, t, false, b, l⟩ ad cp) _ (List.Mem.head _) _ Tryz.underlying24 rfl hi ?_)
        | (go_at_call 62; refine (HH.out _).mono ?_; rintro e w2 ⟨rfl, hb2⟩; have hR := hR.call hb2))
      have f0 := hR.cellAt (g := gb) (List.Mem.head _) 0 rfl; have f1 := hR.cellAt (g := gb) (List.Mem.head _) 1 rfl; have f2 := hR.cellAt (g := gb) (List.Mem.head _) 2 rfl; have f3 := hR.cellAt (g := gb) (List.Mem.head _) 3 rfl
      have HB := Lib.hid hR.below
      have HR := Lib.hid hR
      clear hR hb2
      go_upto_region 9 with (go_at_call 66; refine (HBY.out _ HB.out).mono ?_; rintro e w3 ⟨rfl, hb3⟩)
      have hR := HR.out.call hb3
      have f3 := hR.cellAt (g := gb) (List.Mem.head _) 3 rfl
      have HB := Lib.hid hR.below
      clear f0 f1 f2
      go_wp2_with (first
        | (refine wpList_load_rws rfl _ _ (by rfl) (by exact hR) gb rfl (dvC ⟨0, t, false, b, l⟩ ad cp) _ (List.Mem.head _) _ Tryz.underlying24 rfl hi ?_; clear hR)
        | (go_at_call 74; refine (HW.out _).mono ?_; rintro e w4 ⟨rfl, hb4⟩))
      go_ret2
      refine ⟨⟨_, ?_, by rw [HE2.out]; exact Or.inl ⟨rfl, rfl⟩⟩, HB.out.trans (hb4.mono HB.out.size)⟩
      unfold Dv.formP
      rw [HE2.out, if_pos rfl, HF.out]
      rfl
  · have hcz : (c == 0) = false := by simpa using hc
    have HE2 : Hid ((Dv.mk c t false b l).err n = 0) := Lib.hid (by rw [HE.out, if_neg (fun hh => hc hh.1)])
    clear h hg HE hc
    go_enter Tryz.func38, Tryz.ntmps38
    go_upto_region 2 with (first
      | (refine wpList_box_rws rfl _ _ (by rfl) (by exact hR) (dvC ⟨c, t, false, b, l⟩ ad cp) rfl ?_; intro gb w1 hR; have HB := Lib.hid hR.below)
      | (refine wpList_load_rws rfl _ _ (by rfl) (by exact hR) gb rfl (dvC ⟨c, t, false, b, l⟩ ad cp) _ (List.Mem.head _) _ Tryz.underlying24 rfl hi ?_)
      | (go_at_call 62; refine (HH.out _).mono ?_; rintro e w2 ⟨rfl, hb2⟩; have hR := hR.call hb2))
    have f0 := hR.cellAt (g := gb) (List.Mem.head _) 0 rfl; have f2 := hR.cellAt (g := gb) (List.Mem.head _) 2 rfl; have f3 := hR.cellAt (g := gb) (List.Mem.head _) 3 rfl
    have HB := Lib.hid hR.below
    have HR := Lib.hid hR
    clear hR hb2
    go_upto_region 9 with fail
    have hR := HR.out
    go_wp2_with (first
      | (refine wpList_load_rws rfl _ _ (by rfl) (by exact hR) gb rfl (dvC ⟨c, t, false, b, l⟩ ad cp) _ (List.Mem.head _) _ Tryz.underlying24 rfl hi ?_; clear hR)
      | (go_at_call 74; refine (HW.out _).mono ?_; rintro e w4 ⟨rfl, hb4⟩))
    go_ret2
    refine ⟨⟨_, ?_, by rw [HE2.out]; exact Or.inl ⟨rfl, rfl⟩⟩, HB.out.trans (hb4.mono HB.out.size)⟩
    unfold Dv.formP
    rw [HE2.out, if_pos rfl, HF.out]
    rfl
end Go.Proofs.YtebhiplcoioenaaGreatDoor
