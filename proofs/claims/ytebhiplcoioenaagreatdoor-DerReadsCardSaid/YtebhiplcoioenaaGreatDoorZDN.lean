/- ZForm1 ZForm ZPrint, in one text. -/
import Derived.Test.YtebhiplcoioenaaGreatDoorZDA
import Derived.Test.YtebhiplcoioenaaGreatDoorZZWhole
import Derived.Test.YtebhiplcoioenaaGreatDoorZZRise
import Derived.Test.YtebhiplcoioenaaGreatDoorZDE
import Derived.Deep.RegionHeld3
/- der.form: the walk, errors of a head; primitive values. -/
namespace Go.Proofs.YtebhiplcoioenaaGreatDoor
open Go.RowKit

/-- What form answers. -/
def Dv.formP (v : Dv) (n : Nat) : Bs := if v.err n = 0 then v.form else []
@[reducible] def FormQ (w : World) (v : Dv) (n : Nat) (e : Ending) (w' : World) : Prop := (∃ er, e = .returned (.tuple #[.string (bs (v.formP n)), er]) ∧ ErrA (v.err n) er) ∧ Below w.heap.size w w'
theorem whole_len (c t : Int) (k : Bool) (s : Bs) : (wholeS c t k s).length ≤ s.length + 4 := by
  unfold wholeS
  have := (lenS_len s.length).2
  simp
  omega
theorem forms_len : ∀ l : Dr, (formsS l).flatten.length ≤ l.wt
  | .nil => by simp [formsS, Dr.wt]
  | .cons c t k b kids nx => by
    have h1 := forms_len kids
    have h2 := forms_len nx
    have h3 := whole_len c t k (if k then (formsS kids).flatten else b)
    simp only [formsS, List.flatten_cons, List.length_append, Dr.wt]
    have h4 : (if k then (formsS kids).flatten else b).length ≤ kids.wt + b.length := by
      cases k
      · simp
      · rw [if_pos rfl]; omega
    omega
theorem len_wt : ∀ l : Dr, l.len ≤ l.wt
  | .nil => Nat.le_refl _
  | .cons c t k b kids nx => by
    have h2 := len_wt nx
    simp only [Dr.len, Dr.wt]; omega
set_option maxRecDepth 100000 in
set_option maxHeartbeats 4000000 in
theorem form_bad (v : Dv) (ad : Option Addr) (cp n : Nat) (w : World) (h : headE v.c v.t v.k v.b v.l.len n ≠ 0) : Calls Tryz.prog 38 #[dvv v ad cp, .int .i64 n] w (FormQ w v n) := by
  have hR := Rws.start w
  obtain ⟨E, hE⟩ : ∃ E, E = headE v.c v.t v.k v.b v.l.len n := ⟨_, rfl⟩
  have HH : Hid (∀ u, Calls Tryz.prog 62 #[dvv v ad cp, .int .i64 n] u fun e w' => e = .returned (wrV E) ∧ Below u.heap.size u w') := Lib.hid fun u => by
    have := head_any v ad cp n u
    rw [← hE] at this h
    unfold errO at this
    rw [if_neg h] at this
    exact this
  have HE : Hid (v.err n = E ∧ E ≠ 0) := Lib.hid ⟨by unfold Dv.err; rw [if_pos h, hE], by rw [hE]; exact h⟩
  clear hE h
  obtain ⟨cs, hcs⟩ : ∃ cs, cs = dvC v ad cp := ⟨_, rfl⟩
  unfold dvv at HH ⊢
  rw [← hcs] at HH ⊢
  have hz : cs.size = 5 := by rw [hcs]; rfl
  have hi : (Tryz.prog.info? 24).map (·.size) = some cs.size := by rw [hz]; kernel_rfl
  clear hcs
  go_enter Tryz.func38, Tryz.ntmps38
  go_upto_region 2 with (first
    | (refine wpList_box_rws rfl _ _ (by rfl) (by exact hR) cs rfl ?_; intro gb w1 hR; have HB := Lib.hid hR.below)
    | (refine wpList_load_rws rfl _ _ (by rfl) (by exact hR) gb rfl cs _ (List.Mem.head _) _ Tryz.underlying24 rfl hi ?_; clear hR)
    | (go_at_call 62; refine (HH.out _).mono ?_; rintro e w2 ⟨rfl, hb2⟩))
  go_wp2_with fail
  go_ret2
  refine ⟨⟨_, ?_, by rw [HE.out.1]; exact Or.inr ⟨HE.out.2, 0, ErrV.wrong⟩⟩, HB.out.trans (hb2.mono HB.out.size)⟩
  unfold Dv.formP
  rw [HE.out.1, if_neg HE.out.2]
  rfl
theorem head_zero {v : Dv} {n : Nat} (h : headE v.c v.t v.k v.b v.l.len n = 0) : v.c = 0 → v.k = false → primL.contains v.t = true := by
  intro hc hk
  unfold headE at h
  by_cases h1 : v.c < 0 ∨ 3 < v.c ∨ v.t < 0 ∨ 30 < v.t ∨ (v.c = 0 ∧ thereB v.t = false)
  · rw [if_pos h1] at h; cases h
  · rw [if_neg h1] at h
    by_cases h2 : (v.c = 0 ∧ consB v.t ≠ v.k) ∨ (v.k = true ∧ v.b ≠ []) ∨ (v.k = false ∧ 0 < v.l.len)
    · rw [if_pos h2] at h; cases h
    · have ht : thereB v.t = true := by
        cases h3 : thereB v.t with
        | true => rfl
        | false => exact absurd (Or.inr (Or.inr (Or.inr (Or.inr ⟨hc, h3⟩)))) h1
      have hcn : consB v.t = false := by
        cases h3 : consB v.t with
        | false => rfl
        | true => exact absurd (Or.inl ⟨hc, by rw [h3, hk]; decide⟩) h2
      obtain ⟨p1, p2⟩ := there_prim v.t
      rw [p2] at hcn
      rw [p1, hcn, Bool.or_false] at ht
      exact ht
set_option maxRecDepth 100000 in
set_option maxHeartbeats 4000000 in
theorem form_prim (c t : Int) (b : Bs) (l : Dr) (ad : Option Addr) (cp n : Nat) (w : World) (h : headE c t false b l.len n = 0) (hs : b.length ≤ SB) (hb : t = 6 ∨ t = 12 → b.length ≤ 1048576) (hg : Gd w) : Calls Tryz.prog 38 #[dvv ⟨c, t, false, b, l⟩ ad cp, .int .i64 n] w (FormQ w ⟨c, t, false, b, l⟩ n) := by
  have hR := Rws.start w
  have hSB := SB_eq
  have hok := head_ok h
  have HH : Hid (∀ u, Calls Tryz.prog 62 #[dvv ⟨c, t, false, b, l⟩ ad cp, .int .i64 n] u fun e w' => e = .returned .nilIface ∧ Below u.heap.size u w') := Lib.hid fun u => by
    have := head_any ⟨c, t, false, b, l⟩ ad cp n u
    simp only at this
    rw [h] at this
    exact this
  have HW : Hid (∀ u, Calls Tryz.prog 74 #[dvv ⟨c, t, false, b, l⟩ ad cp, .string (bs b)] u fun e w' => e = .returned (.string (bs (wholeS c t false b))) ∧ Below u.heap.size u w') := Lib.hid fun u => whole_any ⟨c, t, false, b, l⟩ ad cp b u hok.1 hok.2.1 hok.2.2.1 hok.2.2.2.1 (by omega)
  have HE : Hid ((Dv.mk c t false b l).err n = if c = 0 ∧ fineS t b = false then 61 else 0) := Lib.hid (by unfold Dv.err; simp only; rw [if_neg (by rw [h]; simp), if_pos trivial])
  have HF : Hid ((Dv.mk c t false b l).form = wholeS c t false b) := Lib.hid rfl
  have hz : (dvC ⟨c, t, false, b, l⟩ ad cp).size = 5 := rfl
  have hi : (Tryz.prog.info? 24).map (·.size) = some (dvC ⟨c, t, false, b, l⟩ ad cp).size := by rw [hz]; kernel_rfl
  clear hok
  by_cases hc : c = 0
  · subst hc
    have hp := head_zero (v := ⟨0, t, false, b, l⟩) h rfl rfl
    cases hf : fineS t b with
    | false =>
      have HBY : Hid (∀ u, Below w.heap.size w u → Calls Tryz.prog 66 #[.int .i64 t, .string (bs b)] u fun e w' => e = .returned (wrV 61) ∧ Below u.heap.size u w') := Lib.hid fun u hu => by
        have := bytes_any t hp b u hs (hg.below hu) hb
        rw [hf] at this
        exact this
      have HE2 : Hid ((Dv.mk 0 t false b l).err n = 61) := Lib.hid (by rw [HE.out, if_pos ⟨rfl, hf⟩])
      clear hf h hp hg HE
      go_enter Tryz.func38, Tryz.ntmps38
      go_upto_region 2 with (first
        | (refine wpList_box_rws rfl _ _ (by rfl) (by exact hR) (dvC ⟨0, t, false, b, l⟩ ad cp) rfl ?_; intro gb w1 hR; have HB := Lib.hid hR.below)
        | (refine wpList_load_rws rfl _ _ (by rfl) (by exact hR) gb rfl (dvC ⟨0, t, false, b, l⟩ ad cp) _ (List.Mem.head _) _ Tryz.underlying24 rfl hi ?_)
        | (go_at_call 62; refine (HH.out _).mono ?_; rintro e w2 ⟨rfl, hb2⟩; have hR := hR.call hb2))
      have f0 := hR.cellAt (g := gb) (List.Mem.head _) 0 rfl; have f1 := hR.cellAt (g := gb) (List.Mem.head _) 1 rfl; have f2 := hR.cellAt (g := gb) (List.Mem.head _) 2 rfl; have f3 := hR.cellAt (g := gb) (List.Mem.head _) 3 rfl
      have HB := Lib.hid hR.below
      clear hR hb2
      go_wp2_with (go_at_call 66; refine (HBY.out _ HB.out).mono ?_; rintro e w3 ⟨rfl, hb3⟩)
      go_ret2
      refine ⟨⟨_, ?_, by rw [HE2.out]; exact Or.inr ⟨by decide, 0, ErrV.wrong⟩⟩, HB.out.trans (hb3.mono HB.out.size)⟩
      unfold Dv.formP
      rw [HE2.out, if_neg (by decide)]
      rfl
    | true =>
      have HBY : Hid (∀ u, Below w.heap.size w u → Calls Tryz.prog 66 #[.int .i64 t, .string (bs b)] u fun e w' => e = .returned .nilIface ∧ Below u.heap.size u w') := Lib.hid fun u hu => by
        have := bytes_any t hp b u hs (hg.below hu) hb
        rw [hf] at this
        exact this
      have HE2 : Hid ((Dv.mk 0 t false b l).err n = 0) := Lib.hid (by rw [HE.out, if_neg (by rw [hf]; simp)])
      clear hf h hp hg HE
      go_enter Tryz.func38, Tryz.ntmps38
      go_upto_region 2 with (first
        | (refine wpList_box_rws rfl _ _ (by rfl) (by exact hR) (dvC ⟨0, t, false, b, l⟩ ad cp) rfl ?_; intro gb w1 hR; have HB := Lib.hid hR.below)
        | (refine wpList_load_rws rfl _ _ (by rfl) (by exact hR) gb rfl (dvC ⟨0, t, false, b, l⟩ ad cp) _ (List.Mem.head _) _ Tryz.underlying24 rfl hi ?_)
        | (go_at_call 62; refine (HH.out _).mono ?_; rintro e w2 ⟨rfl, hb2⟩; have hR := hR.call hb2))
      have f0 := hR.cellAt (g := gb) (List.Mem.head _) 0 rfl; have f1 := hR.cellAt (g := gb) (List.Mem.head _) 1 rfl; have f2 := hR.cellAt (g := gb) (List.Mem.head _) 2 rfl; have f3 := hR.cellAt (g := gb) (List.Mem.head _) 3 rfl
      have HB := Lib.hid hR.below
      have HR := Lib.hid hR
      clear hR hb2
      go_upto_region 9 with (go_at_call 66; refine (HBY.out _ HB.out).mono ?_; rintro e w3 ⟨rfl, hb3⟩)
      have hR := HR.out.call hb3
      have f3 := hR.cellAt (g := gb) (List.Mem.head _) 3 rfl
      have HB := Lib.hid hR.below
      clear f0 f1 f2
      go_wp2_with (first
        | (refine wpList_load_rws rfl _ _ (by rfl) (by exact hR) gb rfl (dvC ⟨0, t, false, b, l⟩ ad cp) _ (List.Mem.head _) _ Tryz.underlying24 rfl hi ?_; clear hR)
        | (go_at_call 74; refine (HW.out _).mono ?_; rintro e w4 ⟨rfl, hb4⟩))
      go_ret2
      refine ⟨⟨_, ?_, by rw [HE2.out]; exact Or.inl ⟨rfl, rfl⟩⟩, HB.out.trans (hb4.mono HB.out.size)⟩
      unfold Dv.formP
      rw [HE2.out, if_pos rfl, HF.out]
      rfl
  · have hcz : (c == 0) = false := by simpa using hc
    have HE2 : Hid ((Dv.mk c t false b l).err n = 0) := Lib.hid (by rw [HE.out, if_neg (fun hh => hc hh.1)])
    clear h hg HE hc
    go_enter Tryz.func38, Tryz.ntmps38
    go_upto_region 2 with (first
      | (refine wpList_box_rws rfl _ _ (by rfl) (by exact hR) (dvC ⟨c, t, false, b, l⟩ ad cp) rfl ?_; intro gb w1 hR; have HB := Lib.hid hR.below)
      | (refine wpList_load_rws rfl _ _ (by rfl) (by exact hR) gb rfl (dvC ⟨c, t, false, b, l⟩ ad cp) _ (List.Mem.head _) _ Tryz.underlying24 rfl hi ?_)
      | (go_at_call 62; refine (HH.out _).mono ?_; rintro e w2 ⟨rfl, hb2⟩; have hR := hR.call hb2))
    have f0 := hR.cellAt (g := gb) (List.Mem.head _) 0 rfl; have f2 := hR.cellAt (g := gb) (List.Mem.head _) 2 rfl; have f3 := hR.cellAt (g := gb) (List.Mem.head _) 3 rfl
    have HB := Lib.hid hR.below
    have HR := Lib.hid hR
    clear hR hb2
    go_upto_region 9 with fail
    have hR := HR.out
    go_wp2_with (first
      | (refine wpList_load_rws rfl _ _ (by rfl) (by exact hR) gb rfl (dvC ⟨c, t, false, b, l⟩ ad cp) _ (List.Mem.head _) _ Tryz.underlying24 rfl hi ?_; clear hR)
      | (go_at_call 74; refine (HW.out _).mono ?_; rintro e w4 ⟨rfl, hb4⟩))
    go_ret2
    refine ⟨⟨_, ?_, by rw [HE2.out]; exact Or.inl ⟨rfl, rfl⟩⟩, HB.out.trans (hb4.mono HB.out.size)⟩
    unfold Dv.formP
    rw [HE2.out, if_pos rfl, HF.out]
    rfl
end Go.Proofs.YtebhiplcoioenaaGreatDoor
/- der.form: the walk, constructed values. -/
namespace Go.Proofs.YtebhiplcoioenaaGreatDoor
open Go.RowKit

def FormAt (F : Dr) : Prop := ∀ (c t : Int) (k : Bool) (b : Bs) (ad : Option Addr) (cp n : Nat) (w : World), b.length + 4 + F.wt ≤ 1048576 → n ≤ 16 → SlD w F ad cp → Gd w →
  Calls Tryz.prog 38 #[dvv ⟨c, t, k, b, F⟩ ad cp, .int .i64 n] w (FormQ w ⟨c, t, k, b, F⟩ n)
theorem join0 (l : List Bs) : Lib.join l [] = l.flatten := by
  unfold Lib.join List.intercalate
  induction l with
  | nil => rfl
  | cons x r ih =>
    cases r with
    | nil => simp
    | cons y q => simp at ih ⊢; rw [ih]
theorem join_any (g cap : Nat) (xs : List Bs) (w : World) (hc : ∀ j x, xs[j]? = some x → w.cell? ⟨g, j, none⟩ = some (.string (bs x))) (hg : g < w.heap.size) (hN : xs.length ≤ 1048576) (hcap : xs.length ≤ cap)
    (hsum : xs.flatten.length ≤ 210000000) :
    Calls Tryz.prog 75 #[.slice (some ⟨g, 0, none⟩) xs.length cap, .string ⟨#[]⟩] w (RetS (bs xs.flatten) w) := by
  have he : (xs.map bs).map (fun x => x.data.toList) = xs := by
    rw [List.map_map]
    conv => rhs; rw [← List.map_id xs]
    exact List.map_congr_left fun x _ => by simp
  have hl : (xs.map bs).length = xs.length := List.length_map ..
  have hJ := Tryz.strings_Join g 0 cap (xs.map bs) (bs []) w (fun j x hj => by
    rw [List.getElem?_map] at hj
    cases hx : xs[j]? with
    | none => rw [hx] at hj; cases hj
    | some y => rw [hx] at hj; cases hj; rw [Nat.zero_add]; exact hc j y hx) hg (by rw [hl]; omega) (by rw [hl]; exact hcap) (by rw [he, bs_data, join0]; omega)
  rw [he, bs_data, join0, hl] at hJ
  exact hJ
theorem join_own {B : Nat} {v : Value} {xs : List Bs} {w0 w : World} (hO : OwnS B w0 v xs) (hb : Below w0.heap.size w0 w) (hN : xs.length ≤ 1048576) (hsum : xs.flatten.length ≤ 210000000) :
    Calls Tryz.prog 75 #[v, .string ⟨#[]⟩] w (RetS (bs xs.flatten) w) := by
  have ho := own_keep hO hb
  obtain ⟨hl, ⟨rfl, h0⟩ | ⟨g, cap, cur, rfl, hg, hh, hn, hcm, hcs, htk⟩⟩ := ho
  · obtain rfl : xs = [] := List.eq_nil_of_length_eq_zero h0
    exact (Tryz.strings_Join_none none 0 ⟨#[]⟩ w).mono fun e w' h => by
      obtain ⟨rfl, rfl⟩ := h
      exact ⟨rfl, Below.refl _ _⟩
  · refine join_any g cap xs w (fun j x hj => ?_) (Array.getElem?_eq_some_iff.1 hh).1 hN hn hsum
    have hj2 : (StC xs)[j]? = some (.string (bs x)) := by unfold StC; rw [List.getElem?_map, hj]; rfl
    rw [← htk, List.getElem?_take] at hj2
    split at hj2
    · simp only [World.cell?, hh]; simpa using hj2
    · cases hj2
set_option maxRecDepth 100000 in
set_option maxHeartbeats 4000000 in
theorem rising_none (w : World) : Calls Tryz.prog 69 #[.slice none 0 0] w fun e w' => e = .returned .nilIface ∧ Below w.heap.size w w' := by
  go_enter Tryz.func69, Tryz.ntmps69
  go_wp2
  go_loopg [3] 0 (fun gg s3 wr => gg = 0 ∧ s3 = .int .i64 1 ∧ wr = w)
  case atStart => exact ⟨rfl, rfl, rfl⟩
  case round =>
    obtain ⟨rfl, rfl, rfl⟩ := hrel
    go_wp2
    go_ret
    exact ⟨rfl, Below.refl _ _⟩
theorem rising_own {B : Nat} {v : Value} {xs : List Bs} {w : World} (hO : OwnS B w v xs) (hN : xs.length ≤ 1048576) : Calls Tryz.prog 69 #[v] w fun e w' => e = .returned (okV (riseB xs)) ∧ Below w.heap.size w w' := by
  obtain ⟨hl, ⟨rfl, h0⟩ | ⟨g, cap, cur, rfl, hg, hh, hn, hcm, hcs, htk⟩⟩ := hO
  · obtain rfl : xs = [] := List.eq_nil_of_length_eq_zero h0
    exact rising_none w
  · refine rising_any xs g 0 cap w (by omega) fun j x hj => ?_
    have hj2 : (StC xs)[j]? = some (.string (bs x)) := by unfold StC; rw [List.getElem?_map, hj]; rfl
    rw [← htk, List.getElem?_take] at hj2
    split at hj2
    · simp only [World.cell?, hh]; simpa using hj2
    · cases hj2
set_option maxRecDepth 100000 in
set_option maxHeartbeats 8000000 in
theorem form_cons (F : Dr) (hF : F.All FormAt) (c t : Int) (b : Bs) (ad : Option Addr) (cp n : Nat) (w : World) (h : headE c t true b F.len n = 0) (hwt : F.wt ≤ 1048576) (hs : SlD w F ad cp) (hg : Gd w) : Calls Tryz.prog 38 #[dvv ⟨c, t, true, b, F⟩ ad cp, .int .i64 n] w (FormQ w ⟨c, t, true, b, F⟩ n) := by
  have hR := Rws.start w
  have hMX := MX_eq
  have hok := head_ok h
  have hn16 : n < 16 := hok.2.2.2.2.2.2 rfl
  have hFl : F.len ≤ 1048576 := Nat.le_trans (len_wt F) hwt
  have hFf : (formsS F).flatten.length ≤ 1048576 := Nat.le_trans (forms_len F) hwt
  obtain ⟨hle, hcm, bb, f, had, hrow⟩ := hs
  have HH : Hid (∀ u, Calls Tryz.prog 62 #[dvv ⟨c, t, true, b, F⟩ ad cp, .int .i64 n] u fun e w' => e = .returned .nilIface ∧ Below u.heap.size u w') := Lib.hid fun u => by
    have := head_any ⟨c, t, true, b, F⟩ ad cp n u
    simp only at this
    rw [h] at this
    exact this
  have HW : Hid (∀ s u, s.length ≤ 1048576 → Calls Tryz.prog 74 #[dvv ⟨c, t, true, b, F⟩ ad cp, .string (bs s)] u fun e w' => e = .returned (.string (bs (wholeS c t true s))) ∧ Below u.heap.size u w') := Lib.hid fun s u hs => whole_any ⟨c, t, true, b, F⟩ ad cp s u hok.1 hok.2.1 hok.2.2.1 hok.2.2.2.1 (by omega)
  have HE : Hid ((Dv.mk c t true b F).err n = if errsS F (n + 1) ≠ 0 then errsS F (n + 1) else if c = 0 ∧ t = 17 ∧ riseB (formsS F) = false then 61 else 0) := Lib.hid (by unfold Dv.err; simp only; rw [if_neg (by rw [h]; simp), if_neg (by decide)])
  have HF : Hid ((Dv.mk c t true b F).form = wholeS c t true (formsS F).flatten) := Lib.hid rfl
  have hz : (dvC ⟨c, t, true, b, F⟩ ad cp).size = 5 := rfl
  have hi : (Tryz.prog.info? 24).map (·.size) = some (dvC ⟨c, t, true, b, F⟩ ad cp).size := by rw [hz]; kernel_rfl
  have HG := Lib.hid hg
  have HAD := Lib.hid had
  clear hok h hg had
  go_enter Tryz.func38, Tryz.ntmps38
  go_upto_region 2 with (first
    | (refine wpList_box_rws rfl _ _ (by rfl) (by exact hR) (dvC ⟨c, t, true, b, F⟩ ad cp) rfl ?_; intro gb w1 hR)
    | (refine wpList_load_rws rfl _ _ (by rfl) (by exact hR) gb rfl (dvC ⟨c, t, true, b, F⟩ ad cp) _ (List.Mem.head _) _ Tryz.underlying24 rfl hi ?_)
    | (go_at_call 62; refine (HH.out _).mono ?_; rintro e w2 ⟨rfl, hb2⟩; have hR := hR.call hb2))
  have f2 := hR.cellAt (g := gb) (List.Mem.head _) 2 rfl; have f4 := hR.cellAt (g := gb) (List.Mem.head _) 4 rfl
  have hgl : gb < w2.heap.size := World.block_lt_of_cell? w2 _ f2
  have HR := Lib.hid hR
  clear hR hb2
  go_upto_region 12 with fail
  clear f2 f4
  go_loopg [8, 40] F.len (fun gg s8 s40 wr => ∃ (kk : Nat) (G : Dr) (xs : List Bs) (v : Value), kk + G.len = F.len ∧ gg = G.len ∧ s8 = v ∧ s40 = .int .i64 kk ∧ xs.length = kk
    ∧ Aside (OwnS w2.heap.size wr v xs) ∧ Aside (Below w2.heap.size w2 wr) ∧ Aside (Row w G bb (f + 5 * kk)) ∧ Aside (G.All FormAt) ∧ Aside (xs ++ formsS G = formsS F) ∧ Aside (errsS G (n + 1) = errsS F (n + 1)) ∧ Aside (G.wt ≤ 1048576))
  case atStart => exact ⟨0, F, [], _, by omega, rfl, rfl, rfl, rfl, World.ownsRow_nil _ _ _ _, Below.refl _ _, hrow, hF, rfl, rfl, hwt⟩
  case round =>
    obtain ⟨kk, G, xs, vl, hkk, rfl, hvl, rfl, hxl, HO, BW, HRo, HP, HX, HEE, HC⟩ := hrel
    have hvl := hvl.symm
    subst hvl
    have hR : Rws w.heap.size w wr [(gb, dvC ⟨c, t, true, b, F⟩ ad cp, 24)] := HR.out.call BW.out
    cases G with
    | nil =>
      have hltz : ¬ (kk : Int) < (F.len : Int) := by simp only [Dr.len] at hkk; omega
      obtain rfl : xs = formsS F := by have := HX.out; simpa [formsS] using this
      have hxN : (formsS F).length ≤ 1048576 := by simp only [Dr.len] at hkk; omega
      have HJ : Hid (∀ u, Below wr.heap.size wr u → Calls Tryz.prog 75 #[vl, .string ⟨#[]⟩] u (RetS (bs (formsS F).flatten) u)) := Lib.hid fun u hu => join_own HO.out hu hxN (by omega)
      have HRI := Lib.hid (rising_own HO.out hxN)
      have he0 : errsS F (n + 1) = 0 := by rw [← HEE.out]; rfl
      have f0 := hR.cellAt (g := gb) (List.Mem.head _) 0 rfl; have f1 := hR.cellAt (g := gb) (List.Mem.head _) 1 rfl
      have HR2 := Lib.hid hR
      have HE1 : Hid ((Dv.mk c t true b F).err n = if c = 0 ∧ t = 17 ∧ riseB (formsS F) = false then 61 else 0) := Lib.hid (by rw [HE.out, if_neg (by rw [he0]; simp)])
      have hkl : True := trivial
      clear HO HRo HP HX HEE HC hrow hF HAD he0 hR hxl
      by_cases hc : c = 0
      · subst hc
        by_cases ht : t = 17
        · subst ht
          cases hr : riseB (formsS F) with
          | false =>
            have HE2 : Hid ((Dv.mk 0 17 true b F).err n = 61) := Lib.hid (by rw [HE1.out, if_pos ⟨rfl, rfl, hr⟩])
            have HRJ : Hid (Calls Tryz.prog 69 #[vl] wr fun e w' => e = .returned (wrV 61) ∧ Below wr.heap.size wr w') := Lib.hid (by have := HRI.out; rw [hr] at this; exact this)
            clear hr
            go_wp2_with (go_at_call 69; refine HRJ.out.mono ?_; rintro e w3 ⟨rfl, hb3⟩)
            go_ret2
            refine ⟨⟨_, ?_, by rw [HE2.out]; exact Or.inr ⟨by decide, 0, ErrV.wrong⟩⟩, HR2.out.below.trans (hb3.mono HR2.out.below.size)⟩
            unfold Dv.formP
            rw [HE2.out, if_neg (by decide)]
            rfl
          | true =>
            have HE2 : Hid ((Dv.mk 0 17 true b F).err n = 0) := Lib.hid (by rw [HE1.out, if_neg (by rw [hr]; simp)])
            have HRJ : Hid (Calls Tryz.prog 69 #[vl] wr fun e w' => e = .returned .nilIface ∧ Below wr.heap.size wr w') := Lib.hid (by have := HRI.out; rw [hr] at this; exact this)
            clear hr
            go_upto_region 23 with (go_at_call 69; refine HRJ.out.mono ?_; rintro e w3 ⟨rfl, hb3⟩)
            have hR := HR2.out.call hb3
            have HB3 := Lib.hid hb3
            clear f0 f1 hb3
            have hS0 : w3.cell? ⟨gb, 0, none⟩ = some (.int .i64 0) ∧ w3.cell? ⟨gb, 1, none⟩ = some (.int .i64 17) ∧ w3.cell? ⟨gb, 2, none⟩ = some (.bool true) ∧ w3.cell? ⟨gb, 3, none⟩ = some (.string (bs b)) ∧ w3.cell? ⟨gb, 4, none⟩ = some (.slice ad F.len cp) := ⟨hR.cellAt (g := gb) (List.Mem.head _) 0 rfl, hR.cellAt (g := gb) (List.Mem.head _) 1 rfl, hR.cellAt (g := gb) (List.Mem.head _) 2 rfl, hR.cellAt (g := gb) (List.Mem.head _) 3 rfl, hR.cellAt (g := gb) (List.Mem.head _) 4 rfl⟩
            have hS0d : w3.drew.cell? ⟨gb, 0, none⟩ = some (.int .i64 0) ∧ w3.drew.cell? ⟨gb, 1, none⟩ = some (.int .i64 17) ∧ w3.drew.cell? ⟨gb, 2, none⟩ = some (.bool true) ∧ w3.drew.cell? ⟨gb, 3, none⟩ = some (.string (bs b)) ∧ w3.drew.cell? ⟨gb, 4, none⟩ = some (.slice ad F.len cp) := hS0
            have hgl3 : gb < w3.heap.size := World.block_lt_of_cell? w3 _ hS0.1
            have HSM : Hid (∀ (u u' : World), gb < u.heap.size → (u.cell? ⟨gb, 0, none⟩ = some (.int .i64 0) ∧ u.cell? ⟨gb, 1, none⟩ = some (.int .i64 17) ∧ u.cell? ⟨gb, 2, none⟩ = some (.bool true) ∧ u.cell? ⟨gb, 3, none⟩ = some (.string (bs b)) ∧ u.cell? ⟨gb, 4, none⟩ = some (.slice ad F.len cp)) → Below u.heap.size u u' → (u'.cell? ⟨gb, 0, none⟩ = some (.int .i64 0) ∧ u'.cell? ⟨gb, 1, none⟩ = some (.int .i64 17) ∧ u'.cell? ⟨gb, 2, none⟩ = some (.bool true) ∧ u'.cell? ⟨gb, 3, none⟩ = some (.string (bs b)) ∧ u'.cell? ⟨gb, 4, none⟩ = some (.slice ad F.len cp))) := Lib.hid fun u u' hl h hb => ⟨(hb.cell (p := ⟨gb, 0, none⟩) hl).trans h.1, (hb.cell (p := ⟨gb, 1, none⟩) hl).trans h.2.1, (hb.cell (p := ⟨gb, 2, none⟩) hl).trans h.2.2.1, (hb.cell (p := ⟨gb, 3, none⟩) hl).trans h.2.2.2.1, (hb.cell (p := ⟨gb, 4, none⟩) hl).trans h.2.2.2.2⟩
            have HJ3 : Hid (Calls Tryz.prog 75 #[vl, .string ⟨#[]⟩] w3.drew (RetS (bs (formsS F).flatten) w3.drew)) := Lib.hid (HJ.out _ HB3.out.drew)
            have HZ : Hid (Below w.heap.size w w3.drew) := Lib.hid hR.below.drew
            clear hR
            go_region_held3 (fun w' => w'.cell? ⟨gb, 0, none⟩ = some (.int .i64 0) ∧ w'.cell? ⟨gb, 1, none⟩ = some (.int .i64 17) ∧ w'.cell? ⟨gb, 2, none⟩ = some (.bool true) ∧ w'.cell? ⟨gb, 3, none⟩ = some (.string (bs b)) ∧ w'.cell? ⟨gb, 4, none⟩ = some (.slice ad F.len cp))
              (first | exact hS0d | exact hS0 | exact hS4 | exact hS5)
              (first
                | (go_at_call 75; refine HJ3.out.mono ?_; rintro e w4 ⟨rfl, hb4⟩; have hS4 := HSM.out w3.drew _ hgl3 hS0d hb4; have hgl4 := Nat.lt_of_lt_of_le hgl3 hb4.size)
                | (go_at_call 74; refine (HW.out _ _ hFf).mono ?_; rintro e w5 ⟨rfl, hb5⟩; have hS5 := HSM.out _ _ hgl4 hS4 hb5))
            all_goals
              go_wp2_with fail
              go_ret2
              refine ⟨⟨_, ?_, by rw [HE2.out]; exact Or.inl ⟨rfl, rfl⟩⟩, ?_⟩
              · unfold Dv.formP
                rw [HE2.out, if_pos rfl, HF.out]
                rfl
              · have hbz := b_trans (b_trans HZ.out hb4) hb5
                repeat (first | exact hbz | refine Below.drew ?_)
        · have htz : (t == 17) = false := by simpa using ht
          have HE2 : Hid ((Dv.mk 0 t true b F).err n = 0) := Lib.hid (by rw [HE1.out, if_neg (fun hh => ht hh.2.1)])
          clear ht
          go_upto_region 23 with fail
          have hR := HR2.out
          have HB3 := Lib.hid (Below.refl wr.heap.size wr)
          clear f0 f1
          have hS0 : wr.cell? ⟨gb, 0, none⟩ = some (.int .i64 0) ∧ wr.cell? ⟨gb, 1, none⟩ = some (.int .i64 t) ∧ wr.cell? ⟨gb, 2, none⟩ = some (.bool true) ∧ wr.cell? ⟨gb, 3, none⟩ = some (.string (bs b)) ∧ wr.cell? ⟨gb, 4, none⟩ = some (.slice ad F.len cp) := ⟨hR.cellAt (g := gb) (List.Mem.head _) 0 rfl, hR.cellAt (g := gb) (List.Mem.head _) 1 rfl, hR.cellAt (g := gb) (List.Mem.head _) 2 rfl, hR.cellAt (g := gb) (List.Mem.head _) 3 rfl, hR.cellAt (g := gb) (List.Mem.head _) 4 rfl⟩
          have hS0d : wr.drew.cell? ⟨gb, 0, none⟩ = some (.int .i64 0) ∧ wr.drew.cell? ⟨gb, 1, none⟩ = some (.int .i64 t) ∧ wr.drew.cell? ⟨gb, 2, none⟩ = some (.bool true) ∧ wr.drew.cell? ⟨gb, 3, none⟩ = some (.string (bs b)) ∧ wr.drew.cell? ⟨gb, 4, none⟩ = some (.slice ad F.len cp) := hS0
          have hgl3 : gb < wr.heap.size := World.block_lt_of_cell? wr _ hS0.1
          have HSM : Hid (∀ (u u' : World), gb < u.heap.size → (u.cell? ⟨gb, 0, none⟩ = some (.int .i64 0) ∧ u.cell? ⟨gb, 1, none⟩ = some (.int .i64 t) ∧ u.cell? ⟨gb, 2, none⟩ = some (.bool true) ∧ u.cell? ⟨gb, 3, none⟩ = some (.string (bs b)) ∧ u.cell? ⟨gb, 4, none⟩ = some (.slice ad F.len cp)) → Below u.heap.size u u' → (u'.cell? ⟨gb, 0, none⟩ = some (.int .i64 0) ∧ u'.cell? ⟨gb, 1, none⟩ = some (.int .i64 t) ∧ u'.cell? ⟨gb, 2, none⟩ = some (.bool true) ∧ u'.cell? ⟨gb, 3, none⟩ = some (.string (bs b)) ∧ u'.cell? ⟨gb, 4, none⟩ = some (.slice ad F.len cp))) := Lib.hid fun u u' hl h hb => ⟨(hb.cell (p := ⟨gb, 0, none⟩) hl).trans h.1, (hb.cell (p := ⟨gb, 1, none⟩) hl).trans h.2.1, (hb.cell (p := ⟨gb, 2, none⟩) hl).trans h.2.2.1, (hb.cell (p := ⟨gb, 3, none⟩) hl).trans h.2.2.2.1, (hb.cell (p := ⟨gb, 4, none⟩) hl).trans h.2.2.2.2⟩
          have HJ3 : Hid (Calls Tryz.prog 75 #[vl, .string ⟨#[]⟩] wr.drew (RetS (bs (formsS F).flatten) wr.drew)) := Lib.hid (HJ.out _ HB3.out.drew)
          have HZ : Hid (Below w.heap.size w wr.drew) := Lib.hid hR.below.drew
          clear hR
          go_region_held3 (fun w' => w'.cell? ⟨gb, 0, none⟩ = some (.int .i64 0) ∧ w'.cell? ⟨gb, 1, none⟩ = some (.int .i64 t) ∧ w'.cell? ⟨gb, 2, none⟩ = some (.bool true) ∧ w'.cell? ⟨gb, 3, none⟩ = some (.string (bs b)) ∧ w'.cell? ⟨gb, 4, none⟩ = some (.slice ad F.len cp))
            (first | exact hS0d | exact hS0 | exact hS4 | exact hS5)
            (first
              | (go_at_call 75; refine HJ3.out.mono ?_; rintro e w4 ⟨rfl, hb4⟩; have hS4 := HSM.out wr.drew _ hgl3 hS0d hb4; have hgl4 := Nat.lt_of_lt_of_le hgl3 hb4.size)
              | (go_at_call 74; refine (HW.out _ _ hFf).mono ?_; rintro e w5 ⟨rfl, hb5⟩; have hS5 := HSM.out _ _ hgl4 hS4 hb5))
          all_goals
            go_wp2_with fail
            go_ret2
            refine ⟨⟨_, ?_, by rw [HE2.out]; exact Or.inl ⟨rfl, rfl⟩⟩, ?_⟩
            · unfold Dv.formP
              rw [HE2.out, if_pos rfl, HF.out]
              rfl
            · have hbz := b_trans (b_trans HZ.out hb4) hb5
              repeat (first | exact hbz | refine Below.drew ?_)
      · have hcz : (c == 0) = false := by simpa using hc
        have HE2 : Hid ((Dv.mk c t true b F).err n = 0) := Lib.hid (by rw [HE1.out, if_neg (fun hh => hc hh.1)])
        clear hc
        go_upto_region 23 with fail
        have hR := HR2.out
        have HB3 := Lib.hid (Below.refl wr.heap.size wr)
        clear f0 f1
        have hS0 : wr.cell? ⟨gb, 0, none⟩ = some (.int .i64 c) ∧ wr.cell? ⟨gb, 1, none⟩ = some (.int .i64 t) ∧ wr.cell? ⟨gb, 2, none⟩ = some (.bool true) ∧ wr.cell? ⟨gb, 3, none⟩ = some (.string (bs b)) ∧ wr.cell? ⟨gb, 4, none⟩ = some (.slice ad F.len cp) := ⟨hR.cellAt (g := gb) (List.Mem.head _) 0 rfl, hR.cellAt (g := gb) (List.Mem.head _) 1 rfl, hR.cellAt (g := gb) (List.Mem.head _) 2 rfl, hR.cellAt (g := gb) (List.Mem.head _) 3 rfl, hR.cellAt (g := gb) (List.Mem.head _) 4 rfl⟩
        have hS0d : wr.drew.cell? ⟨gb, 0, none⟩ = some (.int .i64 c) ∧ wr.drew.cell? ⟨gb, 1, none⟩ = some (.int .i64 t) ∧ wr.drew.cell? ⟨gb, 2, none⟩ = some (.bool true) ∧ wr.drew.cell? ⟨gb, 3, none⟩ = some (.string (bs b)) ∧ wr.drew.cell? ⟨gb, 4, none⟩ = some (.slice ad F.len cp) := hS0
        have hgl3 : gb < wr.heap.size := World.block_lt_of_cell? wr _ hS0.1
        have HSM : Hid (∀ (u u' : World), gb < u.heap.size → (u.cell? ⟨gb, 0, none⟩ = some (.int .i64 c) ∧ u.cell? ⟨gb, 1, none⟩ = some (.int .i64 t) ∧ u.cell? ⟨gb, 2, none⟩ = some (.bool true) ∧ u.cell? ⟨gb, 3, none⟩ = some (.string (bs b)) ∧ u.cell? ⟨gb, 4, none⟩ = some (.slice ad F.len cp)) → Below u.heap.size u u' → (u'.cell? ⟨gb, 0, none⟩ = some (.int .i64 c) ∧ u'.cell? ⟨gb, 1, none⟩ = some (.int .i64 t) ∧ u'.cell? ⟨gb, 2, none⟩ = some (.bool true) ∧ u'.cell? ⟨gb, 3, none⟩ = some (.string (bs b)) ∧ u'.cell? ⟨gb, 4, none⟩ = some (.slice ad F.len cp))) := Lib.hid fun u u' hl h hb => ⟨(hb.cell (p := ⟨gb, 0, none⟩) hl).trans h.1, (hb.cell (p := ⟨gb, 1, none⟩) hl).trans h.2.1, (hb.cell (p := ⟨gb, 2, none⟩) hl).trans h.2.2.1, (hb.cell (p := ⟨gb, 3, none⟩) hl).trans h.2.2.2.1, (hb.cell (p := ⟨gb, 4, none⟩) hl).trans h.2.2.2.2⟩
        have HJ3 : Hid (Calls Tryz.prog 75 #[vl, .string ⟨#[]⟩] wr.drew (RetS (bs (formsS F).flatten) wr.drew)) := Lib.hid (HJ.out _ HB3.out.drew)
        have HZ : Hid (Below w.heap.size w wr.drew) := Lib.hid hR.below.drew
        clear hR
        go_region_held3 (fun w' => w'.cell? ⟨gb, 0, none⟩ = some (.int .i64 c) ∧ w'.cell? ⟨gb, 1, none⟩ = some (.int .i64 t) ∧ w'.cell? ⟨gb, 2, none⟩ = some (.bool true) ∧ w'.cell? ⟨gb, 3, none⟩ = some (.string (bs b)) ∧ w'.cell? ⟨gb, 4, none⟩ = some (.slice ad F.len cp))
          (first | exact hS0d | exact hS0 | exact hS4 | exact hS5)
          (first
            | (go_at_call 75; refine HJ3.out.mono ?_; rintro e w4 ⟨rfl, hb4⟩; have hS4 := HSM.out wr.drew _ hgl3 hS0d hb4; have hgl4 := Nat.lt_of_lt_of_le hgl3 hb4.size)
            | (go_at_call 74; refine (HW.out _ _ hFf).mono ?_; rintro e w5 ⟨rfl, hb5⟩; have hS5 := HSM.out _ _ hgl4 hS4 hb5))
        all_goals
          go_wp2_with fail
          go_ret2
          refine ⟨⟨_, ?_, by rw [HE2.out]; exact Or.inl ⟨rfl, rfl⟩⟩, ?_⟩
          · unfold Dv.formP
            rw [HE2.out, if_pos rfl, HF.out]
            rfl
          · have hbz := b_trans (b_trans HZ.out hb4) hb5
            repeat (first | exact hbz | refine Below.drew ?_)
    | cons c1 t1 k1 s1 kids nx =>
      have hln : (Dr.cons c1 t1 k1 s1 kids nx).len = nx.len + 1 := rfl
      have hltz : (kk : Int) < (F.len : Int) := by omega
      obtain ⟨a1, cp1, h0, h1, h2, h3, h4, r2, hsl, hrn⟩ := (HRo.out.below hR.below (Nat.le_refl _)).kids
      obtain ⟨_, _, _, _, _, _, _, _, _, hrn⟩ := HRo.out.kids
      obtain rfl : ad = some ⟨bb, f, none⟩ := by rcases HAD.out with h | ⟨_, h⟩; exact h; omega
      rw [show f + 5 * kk = f + kk * 5 by omega] at h0 h1 h2 h3 h4
      obtain ⟨hp1, hpn⟩ := HP.out
      have hwc := HC.out
      simp only [Dr.wt] at hwc
      have HCH : Hid (∀ u, Below wr.heap.size wr u → Calls Tryz.prog 38 #[.agg #[.int .i64 c1, .int .i64 t1, .bool k1, .string (bs s1), .slice a1 kids.len cp1], .int .i64 ((n : Int) + 1)] u (FormQ u ⟨c1, t1, k1, s1, kids⟩ (n + 1))) := Lib.hid fun u hu => hp1 c1 t1 k1 s1 a1 cp1 (n + 1) u (by omega) (by omega) (hsl.grown hu) (HG.out.below (b_trans hR.below hu))
      have HEO : Hid (errsS (.cons c1 t1 k1 s1 kids nx) (n + 1) = if (Dv.mk c1 t1 k1 s1 kids).err (n + 1) ≠ 0 then (Dv.mk c1 t1 k1 s1 kids).err (n + 1) else errsS nx (n + 1)) := Lib.hid (Dv.errs_one ⟨c1, t1, k1, s1, kids⟩ nx (n + 1))
      have HXO : Hid (formsS (.cons c1 t1 k1 s1 kids nx) = (Dv.mk c1 t1 k1 s1 kids).form :: formsS nx) := Lib.hid (Dv.forms_one ⟨c1, t1, k1, s1, kids⟩ nx)
      have HRN := Lib.hid hrn
      have HPN := Lib.hid hpn
      have HCN : Hid (nx.wt ≤ 1048576) := Lib.hid (by omega)
      have f4 := hR.cellAt (g := gb) (List.Mem.head _) 4 rfl
      have HR2 := Lib.hid hR
      have hkb : kk ≤ 1048576 := by omega
      clear hrn hpn hp1 hwc HP HRo HC hR hsl hrow hF HAD r2
      generalize Dv.mk c1 t1 k1 s1 kids = v1 at *
      by_cases he : v1.err (n + 1) = 0
      · have HCK : Hid (∀ u, Below wr.heap.size wr u → Calls Tryz.prog 38 #[.agg #[.int .i64 c1, .int .i64 t1, .bool k1, .string (bs s1), .slice a1 kids.len cp1], .int .i64 ((n : Int) + 1)] u fun e w' => e = .returned (.tuple #[.string (bs v1.form), .nilIface]) ∧ Below u.heap.size u w') := Lib.hid fun u hu => (HCH.out u hu).mono fun e w' hh => by
          obtain ⟨⟨er, rfl, hA⟩, hb⟩ := hh
          rcases hA with ⟨_, rfl⟩ | ⟨h, _⟩
          · unfold Dv.formP
            rw [if_pos he]
            exact ⟨rfl, hb⟩
          · exact absurd he h
        have HE3 : Hid (errsS nx (n + 1) = errsS F (n + 1)) := Lib.hid (by rw [← HEE.out, HEO.out, if_neg (by rw [he]; simp)])
        clear HCH he
        go_wp2_with (first
          | (go_at_call 38; refine (HCK.out _ (Below.refl _ _)).mono ?_; rintro e w3 ⟨rfl, hb3⟩; have HO3 := Lib.hid (own_keep HO.out hb3); have HB3 := Lib.hid (BW.out.trans (hb3.mono BW.out.size)))
          | (at_builtin; refine wp_snocS rfl _ _ (by rfl) v1.form (by rfl) (by rfl) HO3.out (Nat.le_refl _) HB3.out (by omega) ?_; intro v' w4 hO4 hB4))
        go_roundg nx.len
        case measure => omega
        case rel => exact ⟨kk + 1, nx, xs ++ [v1.form], v', by omega, rfl, rfl, by go_num, by simp; omega, hO4, hB4, by rw [show f + 5 * (kk + 1) = f + 5 * kk + 5 by omega]; exact HRN.out, HPN.out, (show (xs ++ [v1.form]) ++ formsS nx = formsS F by rw [← HX.out, HXO.out]; simp), HE3.out, HCN.out⟩
      · have HCK : Hid (∀ u, Below wr.heap.size wr u → Calls Tryz.prog 38 #[.agg #[.int .i64 c1, .int .i64 t1, .bool k1, .string (bs s1), .slice a1 kids.len cp1], .int .i64 ((n : Int) + 1)] u fun e w' => (∃ T x, e = .returned (.tuple #[.string (bs []), .iface T x]) ∧ ∃ m, ErrV (v1.err (n + 1)) m (.iface T x)) ∧ Below u.heap.size u w') := Lib.hid fun u hu => (HCH.out u hu).mono fun e w' hh => by
          obtain ⟨⟨er, rfl, hA⟩, hb⟩ := hh
          rcases hA with ⟨h, _⟩ | ⟨_, m, hV⟩
          · exact absurd h he
          · unfold Dv.formP
            rw [if_neg he]
            refine ⟨?_, hb⟩
            cases hV with
            | wrong => exact ⟨_, _, rfl, 0, .wrong⟩
            | part m p v hv => exact ⟨_, _, rfl, _, .part m p v hv⟩
        have HE3 : Hid ((Dv.mk c t true b F).err n = v1.err (n + 1) ∧ v1.err (n + 1) ≠ 0) := Lib.hid (by
          have : errsS F (n + 1) = v1.err (n + 1) := by rw [← HEE.out, HEO.out, if_pos he]
          rw [HE.out, this, if_pos he]
          exact ⟨rfl, he⟩)
        clear HCH he
        go_wp2_with (go_at_call 38; refine (HCK.out _ (Below.refl _ _)).mono ?_; rintro e w3 ⟨⟨T, x, rfl, hV⟩, hb3⟩)
        go_ret2
        obtain ⟨m, hV⟩ := hV
        refine ⟨⟨ptV (kk : Nat) (.iface T x), ?_, by rw [HE3.out.1]; exact Or.inr ⟨HE3.out.2, _, ErrV.part m _ _ hV⟩⟩, HR2.out.below.trans (hb3.mono HR2.out.below.size)⟩
        unfold Dv.formP
        rw [HE3.out.1, if_neg HE3.out.2]
        rfl
theorem form_step (F : Dr) (hF : F.All FormAt) : FormAt F := by
  intro c t k b ad cp n w hw hn hs hg
  by_cases h : headE c t k b F.len n = 0
  · cases k with
    | false => exact form_prim c t b F ad cp n w h (by have := SB_eq; omega) (fun _ => by omega) hg
    | true => exact form_cons F hF c t b ad cp n w h (by omega) hs hg
  · exact form_bad ⟨c, t, k, b, F⟩ ad cp n w h
/-- form, at every value. -/
theorem form_any (v : Dv) (ad : Option Addr) (cp n : Nat) (w : World) (hw : v.b.length + 4 + v.l.wt ≤ 1048576) (hn : n ≤ 16) (hs : SlD w v.l ad cp) (hg : Gd w) : Calls Tryz.prog 38 #[dvv v ad cp, .int .i64 n] w (FormQ w v n) :=
  Dr.rec_all form_step v.l v.c v.t v.k v.b ad cp n w hw hn hs hg
end Go.Proofs.YtebhiplcoioenaaGreatDoor
/- der.Print, der.Check: the walks. -/
namespace Go.Proofs.YtebhiplcoioenaaGreatDoor
open Go.RowKit

set_option maxRecDepth 100000 in
set_option maxHeartbeats 4000000 in
theorem Print_core (v : Dv) (ad : Option Addr) (cp : Nat) (w : World) (hfl : v.err 0 = 0 → v.form.length ≤ 281474976710656) (HFO : Hid (∀ u, Below w.heap.size w u → Calls Tryz.prog 38 #[dvv v ad cp, .int .i64 0] u (FormQ u v 0))) (hg : Gd w) : Calls Tryz.prog 14 #[dvv v ad cp] w fun e w' => e = .returned (.tuple #[.string (bs v.print.1), .int .i64 v.print.2]) ∧ Below w.heap.size w w' := by
  have hR := Rws.start w
  have HTO : Hid (∀ e x u, ErrA e x → Below w.heap.size w u → Calls Tryz.prog 36 #[x] u (RetI e u)) := Lib.hid fun e x u hx hu => told_any e x hx u (hg.below hu).ty
  have HIT : Hid (∀ u, Calls Tryz.prog 34 #[.bool true, .int .i64 64] u fun e w' => e = .returned (wrV 64) ∧ w' = u) := Lib.hid fun u => is_any true 64 u
  have HIF : Hid (∀ u, Calls Tryz.prog 34 #[.bool false, .int .i64 64] u fun e w' => e = .returned .nilIface ∧ w' = u) := Lib.hid fun u => is_any false 64 u
  have HP : Hid (v.print = if v.err 0 ≠ 0 then ([], v.err 0) else if 16384 < v.form.length then ([], 64) else (v.form, 0)) := Lib.hid (by
    unfold Dv.print Dv.check
    by_cases h1 : v.err 0 ≠ 0
    · rw [if_pos h1, if_pos h1, if_neg h1]
    · rw [if_neg h1, if_neg h1]
      by_cases h2 : 16384 < v.form.length
      · rw [if_pos h2, if_pos h2, if_neg (by decide)]
      · rw [if_neg h2, if_neg h2, if_pos rfl])
  obtain ⟨cs, hcs⟩ : ∃ cs, cs = dvC v ad cp := ⟨_, rfl⟩
  unfold dvv at HFO ⊢
  rw [← hcs] at HFO ⊢
  have hz : cs.size = 5 := by rw [hcs]; rfl
  have hi : (Tryz.prog.info? 24).map (·.size) = some cs.size := by rw [hz]; kernel_rfl
  clear hcs hg
  by_cases he : v.err 0 = 0
  · have HF2 : Hid (∀ u, Below w.heap.size w u → Calls Tryz.prog 38 #[.agg cs, .int .i64 0] u fun e w' => e = .returned (.tuple #[.string (bs v.form), .nilIface]) ∧ Below u.heap.size u w') := Lib.hid fun u hu => (HFO.out u hu).mono fun e w' hh => by
      obtain ⟨⟨er, rfl, hA⟩, hb⟩ := hh
      rcases hA with ⟨_, rfl⟩ | ⟨h, _⟩
      · unfold Dv.formP
        rw [if_pos he]
        exact ⟨rfl, hb⟩
      · exact absurd he h
    have zf := bs_size v.form
    have hfl := hfl he
    by_cases hl : 16384 < v.form.length
    · have hlz : (16384 : Int) < (v.form.length : Int) := by omega
      have HP2 : Hid (v.print = ([], 64)) := Lib.hid (by rw [HP.out, if_neg (by rw [he]; simp), if_pos hl])
      have HT2 : Hid (∀ u, Below w.heap.size w u → Calls Tryz.prog 36 #[wrV 64] u (RetI 64 u)) := Lib.hid fun u hu => HTO.out 64 _ u (Or.inr ⟨by decide, 0, .wrong⟩) hu
      clear he hl HP HFO HTO
      generalize v.form = F at *
      go_enter Tryz.func14, Tryz.ntmps14
      go_upto_region 2 with (first
        | (refine wpList_box_rws rfl _ _ (by rfl) (by exact hR) cs rfl ?_; intro gb w1 hR)
        | (refine wpList_load_rws rfl _ _ (by rfl) (by exact hR) gb rfl cs _ (List.Mem.head _) _ Tryz.underlying24 rfl hi ?_)
        | (go_at_call 38; refine (HF2.out _ hR.below).mono ?_; rintro e w2 ⟨rfl, hb2⟩))
      have HB := Lib.hid (hR.call hb2).below
      clear hR hb2
      go_wp2_with (first
        | (go_at_call 34; refine (HIT.out _).mono ?_; rintro e w3 ⟨rfl, rfl⟩)
        | (go_at_call 36; refine (HT2.out _ HB.out).mono ?_; rintro e w3 ⟨rfl, hb3⟩))
      go_ret2
      rw [HP2.out]
      exact ⟨rfl, HB.out.trans (hb3.mono HB.out.size)⟩
    · have hlz : ¬ (16384 : Int) < (v.form.length : Int) := by omega
      have HP2 : Hid (v.print = (v.form, 0)) := Lib.hid (by rw [HP.out, if_neg (by rw [he]; simp), if_neg hl])
      have HIZ : Hid (∀ u, Calls Tryz.prog 34 #[.bool (decide ((16384 : Int) < (v.form.length : Int))), .int .i64 64] u fun e w' => e = .returned .nilIface ∧ w' = u) := Lib.hid fun u => by rw [decide_eq_false hlz]; exact HIF.out u
      clear he hl HP HFO HTO hlz
      generalize v.form = F at *
      go_enter Tryz.func14, Tryz.ntmps14
      go_upto_region 2 with (first
        | (refine wpList_box_rws rfl _ _ (by rfl) (by exact hR) cs rfl ?_; intro gb w1 hR)
        | (refine wpList_load_rws rfl _ _ (by rfl) (by exact hR) gb rfl cs _ (List.Mem.head _) _ Tryz.underlying24 rfl hi ?_)
        | (go_at_call 38; refine (HF2.out _ hR.below).mono ?_; rintro e w2 ⟨rfl, hb2⟩))
      have HB := Lib.hid (hR.call hb2).below
      clear hR hb2
      go_wp2_with (go_at_call 34; refine (HIZ.out _).mono ?_; rintro e w3 ⟨rfl, rfl⟩)
      go_ret2
      rw [HP2.out]
      exact ⟨rfl, HB.out⟩
  · have HP2 : Hid (v.print = ([], v.err 0)) := Lib.hid (by rw [HP.out, if_pos he])
    have HF2 : Hid (∀ u, Below w.heap.size w u → Calls Tryz.prog 38 #[.agg cs, .int .i64 0] u fun e w' => (∃ T x, e = .returned (.tuple #[.string (bs []), .iface T x]) ∧ Hid (ErrA (v.err 0) (.iface T x))) ∧ Below u.heap.size u w') := Lib.hid fun u hu => (HFO.out u hu).mono fun e w' hh => by
      obtain ⟨⟨er, rfl, hA⟩, hb⟩ := hh
      rcases hA with ⟨h, _⟩ | ⟨_, m, hV⟩
      · exact absurd h he
      · unfold Dv.formP
        rw [if_neg he]
        refine ⟨?_, hb⟩
        cases hV with
        | wrong => exact ⟨_, _, rfl, Lib.hid (Or.inr ⟨he, 0, .wrong⟩)⟩
        | part m p v hv => exact ⟨_, _, rfl, Lib.hid (Or.inr ⟨he, _, .part m p v hv⟩)⟩
    clear he HP HFO
    go_enter Tryz.func14, Tryz.ntmps14
    go_upto_region 2 with (first
      | (refine wpList_box_rws rfl _ _ (by rfl) (by exact hR) cs rfl ?_; intro gb w1 hR)
      | (refine wpList_load_rws rfl _ _ (by rfl) (by exact hR) gb rfl cs _ (List.Mem.head _) _ Tryz.underlying24 rfl hi ?_)
      | (go_at_call 38; refine (HF2.out _ hR.below).mono ?_; rintro e w2 ⟨⟨T, x, rfl, hV⟩, hb2⟩))
    have HB := Lib.hid (hR.call hb2).below
    clear hR hb2
    go_wp2_with (go_at_call 36; refine (HTO.out _ _ _ hV.out HB.out).mono ?_; rintro e w3 ⟨rfl, hb3⟩)
    go_ret2
    rw [HP2.out]
    exact ⟨rfl, HB.out.trans (hb3.mono HB.out.size)⟩
theorem prim_k0 {v : Dv} (hc : v.c = 0) (ht : primL.contains v.t = true) (h : headE v.c v.t v.k v.b v.l.len 0 = 0) : v.k = false := by
  unfold headE at h
  by_cases h1 : v.c < 0 ∨ 3 < v.c ∨ v.t < 0 ∨ 30 < v.t ∨ (v.c = 0 ∧ thereB v.t = false)
  · rw [if_pos h1] at h; cases h
  · rw [if_neg h1] at h
    by_cases h2 : (v.c = 0 ∧ consB v.t ≠ v.k) ∨ (v.k = true ∧ v.b ≠ []) ∨ (v.k = false ∧ 0 < v.l.len)
    · rw [if_pos h2] at h; cases h
    · have hp : ∀ x ∈ primL, consB x = false := by decide
      have := hp v.t (List.contains_iff_mem.1 ht)
      cases hk : v.k with
      | false => rfl
      | true => exact absurd (Or.inl ⟨hc, by rw [this, hk]; decide⟩) h2
theorem prim_k {v : Dv} (hc : v.c = 0) (ht : primL.contains v.t = true) (h : v.err 0 = 0) : v.k = false := by
  refine prim_k0 hc ht (Classical.byContradiction fun hh => ?_)
  unfold Dv.err at h
  rw [if_pos hh] at h
  exact hh h
theorem Print_any (v : Dv) (ad : Option Addr) (cp : Nat) (w : World) (hw : v.b.length + 4 + v.l.wt ≤ 1048576) (hs : SlD w v.l ad cp) (hg : Gd w) : Calls Tryz.prog 14 #[dvv v ad cp] w fun e w' => e = .returned (.tuple #[.string (bs v.print.1), .int .i64 v.print.2]) ∧ Below w.heap.size w w' :=
  Print_core v ad cp w (fun _ => by
    have h1 := whole_len v.c v.t v.k (if v.k then (formsS v.l).flatten else v.b)
    have h2 := forms_len v.l
    have h4 : (if v.k then (formsS v.l).flatten else v.b).length ≤ v.l.wt + v.b.length := by
      cases v.k
      · simp
      · rw [if_pos rfl]; omega
    unfold Dv.form
    omega) (Lib.hid fun u hu => form_any v ad cp 0 u hw (by decide) (hs.grown hu) (hg.below hu)) hg
theorem print_2 (v : Dv) : v.print.2 = v.check := by
  unfold Dv.print
  by_cases h : v.check = 0
  · rw [if_pos h, h]
  · rw [if_neg h]
set_option maxRecDepth 100000 in
set_option maxHeartbeats 4000000 in
theorem Check_core (v : Dv) (ad : Option Addr) (cp : Nat) (w : World) (HPR : Hid (∀ u, Below w.heap.size w u → Calls Tryz.prog 14 #[dvv v ad cp] u fun e w' => e = .returned (.tuple #[.string (bs v.print.1), .int .i64 v.print.2]) ∧ Below u.heap.size u w')) : Calls Tryz.prog 15 #[dvv v ad cp] w (RetI v.check w) := by
  have hR := Rws.start w
  obtain ⟨cs, hcs⟩ : ∃ cs, cs = dvC v ad cp := ⟨_, rfl⟩
  unfold dvv at HPR ⊢
  rw [← hcs] at HPR ⊢
  have hz : cs.size = 5 := by rw [hcs]; rfl
  have hi : (Tryz.prog.info? 24).map (·.size) = some cs.size := by rw [hz]; kernel_rfl
  clear hcs
  go_enter Tryz.func15, Tryz.ntmps15
  go_wp2_with (first
    | (refine wpList_box_rws rfl _ _ (by rfl) (by exact hR) cs rfl ?_; intro gb w1 hR)
    | (refine wpList_load_rws rfl _ _ (by rfl) (by exact hR) gb rfl cs _ (List.Mem.head _) _ Tryz.underlying24 rfl hi ?_)
    | (go_at_call 14; refine (HPR.out _ hR.below).mono ?_; rintro e w2 ⟨rfl, hb2⟩))
  go_ret
  rw [print_2]
  exact ⟨rfl, (hR.call hb2).below⟩
theorem Check_any (v : Dv) (ad : Option Addr) (cp : Nat) (w : World) (hw : v.b.length + 4 + v.l.wt ≤ 1048576) (hs : SlD w v.l ad cp) (hg : Gd w) : Calls Tryz.prog 15 #[dvv v ad cp] w (RetI v.check w) :=
  Check_core v ad cp w (Lib.hid fun u hu => Print_any v ad cp u hw (hs.grown hu) (hg.below hu))
/-- A value of class 0 and the tag of a primitive one, of whatever size. -/
theorem Check_prim (v : Dv) (ad : Option Addr) (cp : Nat) (w : World) (hc : v.c = 0) (ht : primL.contains v.t = true) (hs : v.b.length ≤ SB) (hb : v.t = 6 ∨ v.t = 12 → v.b.length ≤ 1048576) (hg : Gd w) : Calls Tryz.prog 15 #[dvv v ad cp] w (RetI v.check w) := by
  refine Check_core v ad cp w (Lib.hid fun u hu => Print_core v ad cp u ?_ (Lib.hid fun u2 hu2 => ?_) (hg.below hu))
  · intro he
    have hSB := SB_eq
    have hk := prim_k hc ht he
    have h1 := whole_len v.c v.t v.k v.b
    unfold Dv.form
    rw [hk] at h1 ⊢
    rw [if_neg (by decide)]
    omega
  · by_cases hh : headE v.c v.t v.k v.b v.l.len 0 = 0
    · have hk := prim_k0 hc ht hh
      obtain ⟨c, t, k, b, l⟩ := v
      simp only at hk hh hs hb
      subst hk
      exact form_prim c t b l ad cp 0 u2 hh hs hb ((hg.below hu).below hu2)
    · exact form_bad v ad cp 0 u2 hh
end Go.Proofs.YtebhiplcoioenaaGreatDoor
