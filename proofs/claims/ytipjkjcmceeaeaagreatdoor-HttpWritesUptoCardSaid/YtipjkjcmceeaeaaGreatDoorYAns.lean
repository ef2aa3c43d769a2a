/- http.Answer, ostiaryref15.Answer: the walks. -/
import Derived.Test.YtipjkjcmceeaeaaGreatDoorYWord
import Derived.Test.YtipjkjcmceeaeaaGreatDoorYRChk
import Derived.Test.YtipjkjcmceeaeaaGreatDoorYGw
namespace Go.Proofs.YtipjkjcmceeaeaaGreatDoor
open Go.RowKit

@[reducible] def rpC (r : Rp) : Array Value := #[.int .i64 r.s, .string (bs r.n), .string (bs r.b)]
@[reducible] def rpv (r : Rp) : Value := .agg (rpC r)
def lNonce : List UInt8 := [65, 66, 67, 68, 69, 70, 71, 72, 73, 74, 75, 76, 77, 78, 79, 80, 81, 82, 83, 84, 85, 86, 87, 88, 89, 90, 97, 98, 99, 100, 101, 102, 103, 104, 105, 106, 107, 108, 109, 110, 111, 112, 113, 114, 115, 116, 117, 118, 119, 120, 121, 122, 48, 49, 50, 51, 52, 53, 54, 55, 56, 57, 45, 95]
theorem has_nonce (c : UInt8) : lNonce.contains c = noC c := every_byte (P := fun c => lNonce.contains c = noC c) (by decide +kernel) c
theorem word_num {n : Int} (h : wordS n ≠ []) : 0 ≤ n ∧ n ≤ 503 := by
  unfold wordS at h
  repeat' split at h
  all_goals first | omega | exact absurd rfl h
theorem word_le (n : Int) : (wordS n).length ≤ 31 := by
  unfold wordS
  repeat' split
  all_goals decide
theorem ofR_nonce (l : Bs) (w : World) (hl : l.length ≤ SB) : Calls Tryz.prog 49 #[.string (bs l), .int .i64 0, .int .i64 128, .string (bs lNonce)] w (RetB (ofB 0 128 noC l) w) :=
  (Of_any l lNonce noC has_nonce 0 128 w hl (by decide)).mono fun e w' hh => ⟨hh.1, by rw [hh.2]; exact Below.refl _ _⟩
set_option maxRecDepth 100000 in
set_option maxHeartbeats 8000000 in
theorem Answer_any (r : Rp) (w : World) (hn : r.n.length ≤ 1048576) (hb : r.b.length ≤ 1048576) (hgw : Gw w) : Calls Tryz.prog 21 #[rpv r] w (RetSE (answerS r) w) := by
  have hSB := SB_eq
  have hR := Rws.start w
  have zn := bs_size r.n
  have zb := bs_size r.b
  have HWO : Hid (∀ u, Calls Tryz.prog 45 #[.int .i64 r.s] u fun e w' => e = .returned (.string (bs (wordS r.s))) ∧ w' = u) := Lib.hid fun u => word_any r.s u
  have HOF0 : ∀ u, Calls Tryz.prog 46 #[.string (bs r.n), .int .i64 0, .int .i64 128, .func (.func 42) #[] #[]] u (RetB (ofB 0 128 noC r.n) u) := fun u => (of_any _ noC lk_nonce r.n 0 128 u (by omega)).mono fun e w' hh => ⟨hh.1, by rw [hh.2]; exact Below.refl _ _⟩
  by_cases hw : wordS r.s = []
  · have q1 : ((bs (wordS r.s)).toList == []) = true := by rw [bs_list, hw]; rfl
    have HA : Hid (answerS r = ([], 1)) := Lib.hid (by unfold answerS; rw [if_pos (Or.inl hw)])
    have HOF := Lib.hid HOF0
    generalize wordS r.s = W at *
    clear hw HOF0
    go_enter Tryz.func21, Tryz.ntmps21
    go_wp2_with (first
      | (refine wpList_box_rws rfl _ _ (by rfl) (by exact hR) (rpC r) rfl ?_; intro gb w1 hR; have f0 := hR.cellAt (g := gb) (List.Mem.head _) 0 rfl; have f1 := hR.cellAt (g := gb) (List.Mem.head _) 1 rfl; have f2 := hR.cellAt (g := gb) (List.Mem.head _) 2 rfl)
      | (go_at_call 45; refine (HWO.out _).mono ?_; rintro e w2 ⟨rfl, rfl⟩)
      | (go_at_call 46; refine (HOF.out _).mono ?_; rintro e w3 ⟨rfl, hb3⟩; have hR := hR.call hb3; have f0 := hR.cellAt (g := gb) (List.Mem.head _) 0 rfl; have f1 := hR.cellAt (g := gb) (List.Mem.head _) 1 rfl; have f2 := hR.cellAt (g := gb) (List.Mem.head _) 2 rfl))
    go_ret2
    rw [HA.out]
    exact ⟨rfl, hR.below⟩
  have q1 : ((bs (wordS r.s)).toList == []) = false := by rw [bs_list]; simpa using hw
  cases ho : ofB 0 128 noC r.n with
  | false =>
    have HA : Hid (answerS r = ([], 1)) := Lib.hid (by unfold answerS; rw [if_pos (Or.inr (Or.inl ho))])
    rw [ho] at HOF0
    have HOF := Lib.hid HOF0
    generalize wordS r.s = W at *
    clear hw HOF0 ho
    go_enter Tryz.func21, Tryz.ntmps21
    go_wp2_with (first
      | (refine wpList_box_rws rfl _ _ (by rfl) (by exact hR) (rpC r) rfl ?_; intro gb w1 hR; have f0 := hR.cellAt (g := gb) (List.Mem.head _) 0 rfl; have f1 := hR.cellAt (g := gb) (List.Mem.head _) 1 rfl; have f2 := hR.cellAt (g := gb) (List.Mem.head _) 2 rfl)
      | (go_at_call 45; refine (HWO.out _).mono ?_; rintro e w2 ⟨rfl, rfl⟩)
      | (go_at_call 46; refine (HOF.out _).mono ?_; rintro e w3 ⟨rfl, hb3⟩; have hR := hR.call hb3; have f0 := hR.cellAt (g := gb) (List.Mem.head _) 0 rfl; have f1 := hR.cellAt (g := gb) (List.Mem.head _) 1 rfl; have f2 := hR.cellAt (g := gb) (List.Mem.head _) 2 rfl))
    go_ret2
    rw [HA.out]
    exact ⟨rfl, hR.below⟩
  | true =>
    rw [ho] at HOF0
    have HOF := Lib.hid HOF0
    by_cases h8 : 8192 < r.b.length
    · have z8 : (8192 : Int) < (r.b.length : Int) := by omega
      have HA : Hid (answerS r = ([], 1)) := Lib.hid (by unfold answerS; rw [if_pos (Or.inr (Or.inr h8))])
      generalize wordS r.s = W at *
      clear hw HOF0 ho h8
      go_enter Tryz.func21, Tryz.ntmps21
      go_wp2_with (first
        | (refine wpList_box_rws rfl _ _ (by rfl) (by exact hR) (rpC r) rfl ?_; intro gb w1 hR; have f0 := hR.cellAt (g := gb) (List.Mem.head _) 0 rfl; have f1 := hR.cellAt (g := gb) (List.Mem.head _) 1 rfl; have f2 := hR.cellAt (g := gb) (List.Mem.head _) 2 rfl)
        | (go_at_call 45; refine (HWO.out _).mono ?_; rintro e w2 ⟨rfl, rfl⟩)
        | (go_at_call 46; refine (HOF.out _).mono ?_; rintro e w3 ⟨rfl, hb3⟩; have hR := hR.call hb3; have f0 := hR.cellAt (g := gb) (List.Mem.head _) 0 rfl; have f1 := hR.cellAt (g := gb) (List.Mem.head _) 1 rfl; have f2 := hR.cellAt (g := gb) (List.Mem.head _) 2 rfl))
      go_ret2
      rw [HA.out]
      exact ⟨rfl, hR.below⟩
    have z8 : ¬ (8192 : Int) < (r.b.length : Int) := by omega
    have hgood : ¬ (wordS r.s = [] ∨ ofB 0 128 noC r.n = false ∨ 8192 < r.b.length) := by rintro (h | h | h); exact hw h; rw [ho] at h; cases h; exact h8 h
    obtain ⟨hs0, hs1⟩ := word_num hw
    obtain ⟨N, hN⟩ : ∃ N : Nat, r.s = (N : Int) := ⟨r.s.toNat, by omega⟩
    have hN3 : N ≤ 503 := by omega
    have hwl := word_le r.s
    have HIT : Hid (∀ u, Below w.heap.size w u → Calls Tryz.prog 47 #[.int .i64 (N : Nat)] u (RW (Is (.string (bs (numS N)))) u)) := Lib.hid fun u hb => (itoa_any N (by omega) u (hgw.below hb)).mono fun _ _ h => rw_below h
    have HIE : Hid (∀ u, Below w.heap.size w u → Calls Tryz.prog 47 #[.int .i64 (r.b.length : Nat)] u (RW (Is (.string (bs (numS r.b.length)))) u)) := Lib.hid fun u hb => (itoa_any r.b.length (by omega) u (hgw.below hb)).mono fun _ _ h => rw_below h
    have hdl := (num_len (n := N) (by omega)).2
    have hel := (num_len (n := r.b.length) (by omega)).2
    obtain ⟨D, eD⟩ : ∃ D, D = numS N := ⟨_, rfl⟩
    obtain ⟨E, eE⟩ : ∃ E, E = numS r.b.length := ⟨_, rfl⟩
    obtain ⟨W, eW⟩ : ∃ W, W = wordS r.s := ⟨_, rfl⟩
    rw [← eD] at HIT hdl
    rw [← eE] at HIE hel
    rw [← eW] at HWO q1 hwl
    rw [hN] at HWO
    rw [← zb] at HIE
    have HWW : Hid (∀ u, Below w.heap.size w u → Calls Tryz.prog 45 #[.int .i64 (N : Nat)] u (RW (Is (.string (bs W))) u)) := Lib.hid fun u _ => (HWO.out u).mono fun _ _ h => rw_same h
    have hrn : r.n.length ≤ 1048576 := hn
    clear hw HOF0 ho h8 hs0 hs1
    have hrp : rpC r = #[.int .i64 (N : Nat), .string (bs r.n), .string (bs r.b)] := by unfold rpC; rw [hN]
    have hrv : rpv r = .agg #[.int .i64 (N : Nat), .string (bs r.n), .string (bs r.b)] := by unfold rpv; rw [hrp]
    rw [hrv]
    clear hrv hrp
    by_cases hne : r.n = []
    · have q2 : ((bs r.n).toList == []) = true := by rw [bs_list, hne]; rfl
      obtain ⟨Z1, eZ1⟩ : ∃ Z1 : Bs, Z1 = [72, 84, 84, 80, 47, 49, 46, 49, 32] ++ D := ⟨_, rfl⟩
      obtain ⟨Z2, eZ2⟩ : ∃ Z2 : Bs, Z2 = Z1 ++ [32] := ⟨_, rfl⟩
      obtain ⟨Z3, eZ3⟩ : ∃ Z3 : Bs, Z3 = Z2 ++ W := ⟨_, rfl⟩
      obtain ⟨Z4, eZ4⟩ : ∃ Z4 : Bs, Z4 = Z3 ++ [13, 10] := ⟨_, rfl⟩
      obtain ⟨Z5, eZ5⟩ : ∃ Z5 : Bs, Z5 = Z4 ++ [99, 111, 110, 116, 101, 110, 116, 45, 108, 101, 110, 103, 116, 104, 58, 32] := ⟨_, rfl⟩
      obtain ⟨Z6, eZ6⟩ : ∃ Z6 : Bs, Z6 = Z5 ++ E := ⟨_, rfl⟩
      obtain ⟨Z7, eZ7⟩ : ∃ Z7 : Bs, Z7 = Z6 ++ [13, 10] := ⟨_, rfl⟩
      obtain ⟨Z8, eZ8⟩ : ∃ Z8 : Bs, Z8 = Z7 ++ [13, 10] := ⟨_, rfl⟩
      obtain ⟨Z9, eZ9⟩ : ∃ Z9 : Bs, Z9 = Z8 ++ r.b := ⟨_, rfl⟩
      have HP : Hid (answerS r = (Z9, 0)) := Lib.hid (by
        unfold answerS
        rw [if_neg hgood, ← eW, hN, Int.toNat_natCast, ← eD, ← eE]
        rw [if_pos hne]
        rw [eZ9, eZ8, eZ7, eZ6, eZ5, eZ4, eZ3, eZ2, eZ1]
        simp [wHttp, wCl, CRLF, HEND, List.append_assoc])
      have lZ1 : Z1.length = 9 + D.length := by rw [eZ1, List.length_append]; rfl
      have lZ2 : Z2.length = Z1.length + 1 := by rw [eZ2, List.length_append]; rfl
      have lZ3 : Z3.length = Z2.length + W.length := by rw [eZ3, List.length_append]
      have lZ4 : Z4.length = Z3.length + 2 := by rw [eZ4, List.length_append]; rfl
      have lZ5 : Z5.length = Z4.length + 16 := by rw [eZ5, List.length_append]; rfl
      have lZ6 : Z6.length = Z5.length + E.length := by rw [eZ6, List.length_append]
      have lZ7 : Z7.length = Z6.length + 2 := by rw [eZ7, List.length_append]; rfl
      have lZ8 : Z8.length = Z7.length + 2 := by rw [eZ8, List.length_append]; rfl
      have lZ9 : Z9.length = Z8.length + r.b.length := by rw [eZ9, List.length_append]
      have HZ1 : Hid (∀ u, (binOp .add 9 (.string ⟨#[72, 84, 84, 80, 47, 49, 46, 49, 32]⟩) (.string (bs D))).run Tryz.prog u = .ok (.string (bs Z1)) u) := Lib.hid fun u => by rw [eZ1]; exact bin_addL [72, 84, 84, 80, 47, 49, 46, 49, 32] D (by first | omega | (simp only [List.length_cons, List.length_nil]; omega)) u
      have HZ2 : Hid (∀ u, (binOp .add 9 (.string (bs Z1)) (.string ⟨#[32]⟩)).run Tryz.prog u = .ok (.string (bs Z2)) u) := Lib.hid fun u => by rw [eZ2]; exact bin_addL Z1 [32] (by first | omega | (simp only [List.length_cons, List.length_nil]; omega)) u
      have HZ3 : Hid (∀ u, (binOp .add 9 (.string (bs Z2)) (.string (bs W))).run Tryz.prog u = .ok (.string (bs Z3)) u) := Lib.hid fun u => by rw [eZ3]; exact bin_addL Z2 W (by first | omega | (simp only [List.length_cons, List.length_nil]; omega)) u
      have HZ4 : Hid (∀ u, (binOp .add 9 (.string (bs Z3)) (.string ⟨#[13, 10]⟩)).run Tryz.prog u = .ok (.string (bs Z4)) u) := Lib.hid fun u => by rw [eZ4]; exact bin_addL Z3 [13, 10] (by first | omega | (simp only [List.length_cons, List.length_nil]; omega)) u
      have HZ5 : Hid (∀ u, (binOp .add 9 (.string (bs Z4)) (.string ⟨#[99, 111, 110, 116, 101, 110, 116, 45, 108, 101, 110, 103, 116, 104, 58, 32]⟩)).run Tryz.prog u = .ok (.string (bs Z5)) u) := Lib.hid fun u => by rw [eZ5]; exact bin_addL Z4 [99, 111, 110, 116, 101, 110, 116, 45, 108, 101, 110, 103, 116, 104, 58, 32] (by first | omega | (simp only [List.length_cons, List.length_nil]; omega)) u
      have HZ6 : Hid (∀ u, (binOp .add 9 (.string (bs Z5)) (.string (bs E))).run Tryz.prog u = .ok (.string (bs Z6)) u) := Lib.hid fun u => by rw [eZ6]; exact bin_addL Z5 E (by first | omega | (simp only [List.length_cons, List.length_nil]; omega)) u
      have HZ7 : Hid (∀ u, (binOp .add 9 (.string (bs Z6)) (.string ⟨#[13, 10]⟩)).run Tryz.prog u = .ok (.string (bs Z7)) u) := Lib.hid fun u => by rw [eZ7]; exact bin_addL Z6 [13, 10] (by first | omega | (simp only [List.length_cons, List.length_nil]; omega)) u
      have HZ8 : Hid (∀ u, (binOp .add 9 (.string (bs Z7)) (.string ⟨#[13, 10]⟩)).run Tryz.prog u = .ok (.string (bs Z8)) u) := Lib.hid fun u => by rw [eZ8]; exact bin_addL Z7 [13, 10] (by first | omega | (simp only [List.length_cons, List.length_nil]; omega)) u
      have HZ9 : Hid (∀ u, (binOp .add 9 (.string (bs Z8)) (.string (bs r.b))).run Tryz.prog u = .ok (.string (bs Z9)) u) := Lib.hid fun u => by rw [eZ9]; exact bin_addL Z8 r.b (by first | omega | (simp only [List.length_cons, List.length_nil]; omega)) u
      clear eZ1 eZ2 eZ3 eZ4 eZ5 eZ6 eZ7 eZ8 eZ9 eD eE hne hgood eW hN
      clear lZ1 lZ2 lZ3 lZ4 lZ5 lZ6 lZ7 lZ8 lZ9
      go_enter Tryz.func21, Tryz.ntmps21
      go_upto_region 4 with (first
        | (refine wpList_box_rws rfl _ _ (by rfl) (by exact hR) #[.int .i64 (N : Nat), .string (bs r.n), .string (bs r.b)] rfl ?_; intro gb w1 hR; have f0 := hR.cellAt (g := gb) (List.Mem.head _) 0 rfl; have f1 := hR.cellAt (g := gb) (List.Mem.head _) 1 rfl; have f2 := hR.cellAt (g := gb) (List.Mem.head _) 2 rfl)
        | (go_at_call 45; refine (HWO.out _).mono ?_; rintro e w2 ⟨rfl, rfl⟩)
        | (go_at_call 46; refine (HOF.out _).mono ?_; rintro e w3 ⟨rfl, hb3⟩; have hR := hR.call hb3; have f0 := hR.cellAt (g := gb) (List.Mem.head _) 0 rfl; have f1 := hR.cellAt (g := gb) (List.Mem.head _) 1 rfl; have f2 := hR.cellAt (g := gb) (List.Mem.head _) 2 rfl))
      clear f0 f1 f2
      have HB0 : Hid (∀ u, Below w3.heap.size w3 u → u.cell? ⟨gb, 0, none⟩ = some (.int .i64 (N : Nat))) := Lib.hid fun u hb => (hb.cell (p := ⟨gb, 0, none⟩) (hR.lt (x := _) (by repeat (first | exact List.Mem.head _ | refine List.Mem.tail _ ?_)))).trans (hR.cellAt (g := gb) (by repeat (first | exact List.Mem.head _ | refine List.Mem.tail _ ?_)) 0 rfl)
      have HB1 : Hid (∀ u, Below w3.heap.size w3 u → u.cell? ⟨gb, 1, none⟩ = some (.string (bs r.n))) := Lib.hid fun u hb => (hb.cell (p := ⟨gb, 1, none⟩) (hR.lt (x := _) (by repeat (first | exact List.Mem.head _ | refine List.Mem.tail _ ?_)))).trans (hR.cellAt (g := gb) (by repeat (first | exact List.Mem.head _ | refine List.Mem.tail _ ?_)) 1 rfl)
      have HB2 : Hid (∀ u, Below w3.heap.size w3 u → u.cell? ⟨gb, 2, none⟩ = some (.string (bs r.b))) := Lib.hid fun u hb => (hb.cell (p := ⟨gb, 2, none⟩) (hR.lt (x := _) (by repeat (first | exact List.Mem.head _ | refine List.Mem.tail _ ?_)))).trans (hR.cellAt (g := gb) (by repeat (first | exact List.Mem.head _ | refine List.Mem.tail _ ?_)) 2 rfl)
      have HBW := Lib.hid hR.below
      have HBL := Lib.hid hR.len
      refine wp_region_softG 10 (by kernel_rfl) (by kernel_rfl) (by rfl) hR ?_
      refine g_fa (g := gb) (k := 0) (off := 0) (by rfl) (by exact fun _ _ _ h => h) Tryz.underlying36 rfl ⟨0, by kernel_rfl⟩ rfl ?_
      refine g_cellw (g := gb) (k := 0) (v := .int .i64 (N : Nat)) (R := Is (.int .i64 (N : Nat))) (by rfl) (by exact fun _ _ _ h => h) (HB0.out) isAgg_int (stb_is _) (by exact fun _ _ => rfl) ?_
      refine g_callK (f := 47) (xs := [.tmp 24]) [.int .i64 (N : Nat)] (R := Is (.string (bs D))) (by rfl) Tryz.func47 (by kernel_rfl) rfl (stb_is _) ⟨(by exact fun _ _ _ h => h), trivial⟩ (fun u hb => HIT.out u (HBW.out.trans (hb.mono HBL.out))) ?_
      refine g_bin (v := .string ⟨#[72, 84, 84, 80, 47, 49, 46, 49, 32]⟩) (u := .string (bs D)) (r := .string (bs Z1)) (by rfl) (by exact fun _ _ _ h => h) (by exact fun _ _ _ h => h) (by rfl) (HZ1.out) ?_
      refine g_bin (v := .string (bs Z1)) (u := .string ⟨#[32]⟩) (r := .string (bs Z2)) (by rfl) (by exact fun _ _ _ h => h) (by exact fun _ _ _ h => h) (by rfl) (HZ2.out) ?_
      refine g_fa (g := gb) (k := 0) (off := 0) (by rfl) (by exact fun _ _ _ h => h) Tryz.underlying36 rfl ⟨0, by kernel_rfl⟩ rfl ?_
      refine g_cellw (g := gb) (k := 0) (v := .int .i64 (N : Nat)) (R := Is (.int .i64 (N : Nat))) (by rfl) (by exact fun _ _ _ h => h) (HB0.out) isAgg_int (stb_is _) (by exact fun _ _ => rfl) ?_
      refine g_callK (f := 45) (xs := [.tmp 29]) [.int .i64 (N : Nat)] (R := Is (.string (bs W))) (by rfl) Tryz.func45 (by kernel_rfl) rfl (stb_is _) ⟨(by exact fun _ _ _ h => h), trivial⟩ (fun u hb => HWW.out u (HBW.out.trans (hb.mono HBL.out))) ?_
      refine g_bin (v := .string (bs Z2)) (u := .string (bs W)) (r := .string (bs Z3)) (by rfl) (by exact fun _ _ _ h => h) (by exact fun _ _ _ h => h) (by rfl) (HZ3.out) ?_
      refine g_bin (v := .string (bs Z3)) (u := .string ⟨#[13, 10]⟩) (r := .string (bs Z4)) (by rfl) (by exact fun _ _ _ h => h) (by exact fun _ _ _ h => h) (by rfl) (HZ4.out) ?_
      intro wB hRB hbB v23 h23 v24 h24 v25 h25 v26 h26 v27 h27 v28 h28 v29 h29 v30 h30 v31 h31 v32 h32
      simp only [softEnd, Act.put, List.setIfInBounds_toArray, List.set_cons_succ, List.set_cons_zero, List.drop_succ_cons, List.drop_zero]
      obtain rfl : v32 = .string (bs Z4) := h32
      clear h23 h24 h25 h26 h27 h28 h29 h30 h31
      have hR := hRB
      have f1 : wB.cell? ⟨gb, 1, none⟩ = some (.string (bs r.n)) := hR.cellAt (g := gb) (by repeat (first | exact List.Mem.head _ | refine List.Mem.tail _ ?_)) 1 rfl
      clear HB0 HB1 HB2 hRB
      go_upto_region 7 with fail
      have HB0 : Hid (∀ u, Below wB.heap.size wB u → u.cell? ⟨gb, 0, none⟩ = some (.int .i64 (N : Nat))) := Lib.hid fun u hb => (hb.cell (p := ⟨gb, 0, none⟩) (hR.lt (x := _) (by repeat (first | exact List.Mem.head _ | refine List.Mem.tail _ ?_)))).trans (hR.cellAt (g := gb) (by repeat (first | exact List.Mem.head _ | refine List.Mem.tail _ ?_)) 0 rfl)
      have HB1 : Hid (∀ u, Below wB.heap.size wB u → u.cell? ⟨gb, 1, none⟩ = some (.string (bs r.n))) := Lib.hid fun u hb => (hb.cell (p := ⟨gb, 1, none⟩) (hR.lt (x := _) (by repeat (first | exact List.Mem.head _ | refine List.Mem.tail _ ?_)))).trans (hR.cellAt (g := gb) (by repeat (first | exact List.Mem.head _ | refine List.Mem.tail _ ?_)) 1 rfl)
      have HB2 : Hid (∀ u, Below wB.heap.size wB u → u.cell? ⟨gb, 2, none⟩ = some (.string (bs r.b))) := Lib.hid fun u hb => (hb.cell (p := ⟨gb, 2, none⟩) (hR.lt (x := _) (by repeat (first | exact List.Mem.head _ | refine List.Mem.tail _ ?_)))).trans (hR.cellAt (g := gb) (by repeat (first | exact List.Mem.head _ | refine List.Mem.tail _ ?_)) 2 rfl)
      have HBW := Lib.hid hR.below
      have HBL := Lib.hid hR.len
      refine wp_region_softG 13 (by kernel_rfl) (by kernel_rfl) (by rfl) hR ?_
      refine g_move (R := Is (.string (bs Z4))) (by rfl) (stb_is _) (by exact fun _ _ _ h => h) ?_
      refine g_bin (v := .string (bs Z4)) (u := .string ⟨#[99, 111, 110, 116, 101, 110, 116, 45, 108, 101, 110, 103, 116, 104, 58, 32]⟩) (r := .string (bs Z5)) (by rfl) (by exact fun _ _ _ h => h) (by exact fun _ _ _ h => h) (by rfl) (HZ5.out) ?_
      refine g_fa (g := gb) (k := 0) (off := 2) (by rfl) (by exact fun _ _ _ h => h) Tryz.underlying36 rfl ⟨0, by kernel_rfl⟩ rfl ?_
      refine g_cellw (g := gb) (k := 2) (v := .string (bs r.b)) (R := Is (.string (bs r.b))) (by rfl) (by exact fun _ _ _ h => h) (HB2.out) isAgg_str (stb_is _) (by exact fun _ _ => rfl) ?_
      refine g_lens (s := bs r.b) (by rfl) (by exact fun _ _ _ h => h) ?_
      refine g_callK (f := 47) (xs := [.tmp 46]) [.int .i64 ((bs r.b).size : Nat)] (R := Is (.string (bs E))) (by rfl) Tryz.func47 (by kernel_rfl) rfl (stb_is _) ⟨(by exact fun _ _ _ h => h), trivial⟩ (fun u hb => HIE.out u (HBW.out.trans (hb.mono HBL.out))) ?_
      refine g_bin (v := .string (bs Z5)) (u := .string (bs E)) (r := .string (bs Z6)) (by rfl) (by exact fun _ _ _ h => h) (by exact fun _ _ _ h => h) (by rfl) (HZ6.out) ?_
      refine g_bin (v := .string (bs Z6)) (u := .string ⟨#[13, 10]⟩) (r := .string (bs Z7)) (by rfl) (by exact fun _ _ _ h => h) (by exact fun _ _ _ h => h) (by rfl) (HZ7.out) ?_
      refine g_bin (v := .string (bs Z7)) (u := .string ⟨#[13, 10]⟩) (r := .string (bs Z8)) (by rfl) (by exact fun _ _ _ h => h) (by exact fun _ _ _ h => h) (by rfl) (HZ8.out) ?_
      refine g_fa (g := gb) (k := 0) (off := 2) (by rfl) (by exact fun _ _ _ h => h) Tryz.underlying36 rfl ⟨0, by kernel_rfl⟩ rfl ?_
      refine g_cellw (g := gb) (k := 2) (v := .string (bs r.b)) (R := Is (.string (bs r.b))) (by rfl) (by exact fun _ _ _ h => h) (HB2.out) isAgg_str (stb_is _) (by exact fun _ _ => rfl) ?_
      refine g_bin (v := .string (bs Z8)) (u := .string (bs r.b)) (r := .string (bs Z9)) (by rfl) (by exact fun _ _ _ h => h) (by exact fun _ _ _ h => h) (by rfl) (HZ9.out) ?_
      refine g_assign (R := Is (.string (bs Z9))) (by rfl) (stb_is _) (by exact fun _ _ _ h => h) ?_
      intro w9 hR9 hb9 v42 h42 v43 h43 v44 h44 v45 h45 v46 h46 v47 h47 v48 h48 v49 h49 v50 h50 v51 h51 v52 h52 v53 h53 v2 h2
      simp only [softEnd, Act.put, List.setIfInBounds_toArray, List.set_cons_succ, List.set_cons_zero, List.drop_succ_cons, List.drop_zero]
      obtain rfl : v2 = .string (bs Z9) := h2
      clear h42 h43 h44 h45 h46 h47 h48 h49 h50 h51 h52 h53
      go_wp2_with fail
      go_ret2
      rw [HP.out]
      exact ⟨rfl, hR9.below⟩
    · have q2 : ((bs r.n).toList == []) = false := by rw [bs_list]; simpa using hne
      obtain ⟨Z1, eZ1⟩ : ∃ Z1 : Bs, Z1 = [72, 84, 84, 80, 47, 49, 46, 49, 32] ++ D := ⟨_, rfl⟩
      obtain ⟨Z2, eZ2⟩ : ∃ Z2 : Bs, Z2 = Z1 ++ [32] := ⟨_, rfl⟩
      obtain ⟨Z3, eZ3⟩ : ∃ Z3 : Bs, Z3 = Z2 ++ W := ⟨_, rfl⟩
      obtain ⟨Z4, eZ4⟩ : ∃ Z4 : Bs, Z4 = Z3 ++ [13, 10] := ⟨_, rfl⟩
      obtain ⟨N1, eN1⟩ : ∃ N1 : Bs, N1 = [100, 112, 111, 112, 45, 110, 111, 110, 99, 101, 58, 32] ++ r.n := ⟨_, rfl⟩
      obtain ⟨N2, eN2⟩ : ∃ N2 : Bs, N2 = N1 ++ [13, 10] := ⟨_, rfl⟩
      obtain ⟨T5, eT5⟩ : ∃ T5 : Bs, T5 = Z4 ++ N2 := ⟨_, rfl⟩
      obtain ⟨Z5, eZ5⟩ : ∃ Z5 : Bs, Z5 = T5 ++ [99, 111, 110, 116, 101, 110, 116, 45, 108, 101, 110, 103, 116, 104, 58, 32] := ⟨_, rfl⟩
      obtain ⟨Z6, eZ6⟩ : ∃ Z6 : Bs, Z6 = Z5 ++ E := ⟨_, rfl⟩
      obtain ⟨Z7, eZ7⟩ : ∃ Z7 : Bs, Z7 = Z6 ++ [13, 10] := ⟨_, rfl⟩
      obtain ⟨Z8, eZ8⟩ : ∃ Z8 : Bs, Z8 = Z7 ++ [13, 10] := ⟨_, rfl⟩
      obtain ⟨Z9, eZ9⟩ : ∃ Z9 : Bs, Z9 = Z8 ++ r.b := ⟨_, rfl⟩
      have HP : Hid (answerS r = (Z9, 0)) := Lib.hid (by
        unfold answerS
        rw [if_neg hgood, ← eW, hN, Int.toNat_natCast, ← eD, ← eE]
        rw [if_neg hne]
        rw [eZ9, eZ8, eZ7, eZ6, eZ5, eT5, eN2, eN1, eZ4, eZ3, eZ2, eZ1]
        simp [wHttp, wNonce, wCl, CRLF, HEND, List.append_assoc])
      have lZ1 : Z1.length = 9 + D.length := by rw [eZ1, List.length_append]; rfl
      have lZ2 : Z2.length = Z1.length + 1 := by rw [eZ2, List.length_append]; rfl
      have lZ3 : Z3.length = Z2.length + W.length := by rw [eZ3, List.length_append]
      have lZ4 : Z4.length = Z3.length + 2 := by rw [eZ4, List.length_append]; rfl
      have lN1 : N1.length = 12 + r.n.length := by rw [eN1, List.length_append]; rfl
      have lN2 : N2.length = N1.length + 2 := by rw [eN2, List.length_append]; rfl
      have lT5 : T5.length = Z4.length + N2.length := by rw [eT5, List.length_append]
      have lZ5 : Z5.length = T5.length + 16 := by rw [eZ5, List.length_append]; rfl
      have lZ6 : Z6.length = Z5.length + E.length := by rw [eZ6, List.length_append]
      have lZ7 : Z7.length = Z6.length + 2 := by rw [eZ7, List.length_append]; rfl
      have lZ8 : Z8.length = Z7.length + 2 := by rw [eZ8, List.length_append]; rfl
      have lZ9 : Z9.length = Z8.length + r.b.length := by rw [eZ9, List.length_append]
      have HZ1 : Hid (∀ u, (binOp .add 9 (.string ⟨#[72, 84, 84, 80, 47, 49, 46, 49, 32]⟩) (.string (bs D))).run Tryz.prog u = .ok (.string (bs Z1)) u) := Lib.hid fun u => by rw [eZ1]; exact bin_addL [72, 84, 84, 80, 47, 49, 46, 49, 32] D (by first | omega | (simp only [List.length_cons, List.length_nil]; omega)) u
      have HZ2 : Hid (∀ u, (binOp .add 9 (.string (bs Z1)) (.string ⟨#[32]⟩)).run Tryz.prog u = .ok (.string (bs Z2)) u) := Lib.hid fun u => by rw [eZ2]; exact bin_addL Z1 [32] (by first | omega | (simp only [List.length_cons, List.length_nil]; omega)) u
      have HZ3 : Hid (∀ u, (binOp .add 9 (.string (bs Z2)) (.string (bs W))).run Tryz.prog u = .ok (.string (bs Z3)) u) := Lib.hid fun u => by rw [eZ3]; exact bin_addL Z2 W (by first | omega | (simp only [List.length_cons, List.length_nil]; omega)) u
      have HZ4 : Hid (∀ u, (binOp .add 9 (.string (bs Z3)) (.string ⟨#[13, 10]⟩)).run Tryz.prog u = .ok (.string (bs Z4)) u) := Lib.hid fun u => by rw [eZ4]; exact bin_addL Z3 [13, 10] (by first | omega | (simp only [List.length_cons, List.length_nil]; omega)) u
      have bN1 : ⟨#[100, 112, 111, 112, 45, 110, 111, 110, 99, 101, 58, 32]⟩ ++ bs r.n = bs N1 := by rw [eN1]; exact bs_app2 [100, 112, 111, 112, 45, 110, 111, 110, 99, 101, 58, 32] r.n
      have yN1 := bs_size N1
      have bN2 : bs N1 ++ ⟨#[13, 10]⟩ = bs N2 := by rw [eN2]; exact bs_app2 N1 [13, 10]
      have yN2 := bs_size N2
      have bT5 : bs Z4 ++ bs N2 = bs T5 := by rw [eT5]; exact bs_app2 Z4 N2
      have yT5 := bs_size T5
      have HZ5 : Hid (∀ u, (binOp .add 9 (.string (bs T5)) (.string ⟨#[99, 111, 110, 116, 101, 110, 116, 45, 108, 101, 110, 103, 116, 104, 58, 32]⟩)).run Tryz.prog u = .ok (.string (bs Z5)) u) := Lib.hid fun u => by rw [eZ5]; exact bin_addL T5 [99, 111, 110, 116, 101, 110, 116, 45, 108, 101, 110, 103, 116, 104, 58, 32] (by first | omega | (simp only [List.length_cons, List.length_nil]; omega)) u
      have HZ6 : Hid (∀ u, (binOp .add 9 (.string (bs Z5)) (.string (bs E))).run Tryz.prog u = .ok (.string (bs Z6)) u) := Lib.hid fun u => by rw [eZ6]; exact bin_addL Z5 E (by first | omega | (simp only [List.length_cons, List.length_nil]; omega)) u
      have HZ7 : Hid (∀ u, (binOp .add 9 (.string (bs Z6)) (.string ⟨#[13, 10]⟩)).run Tryz.prog u = .ok (.string (bs Z7)) u) := Lib.hid fun u => by rw [eZ7]; exact bin_addL Z6 [13, 10] (by first | omega | (simp only [List.length_cons, List.length_nil]; omega)) u
      have HZ8 : Hid (∀ u, (binOp .add 9 (.string (bs Z7)) (.string ⟨#[13, 10]⟩)).run Tryz.prog u = .ok (.string (bs Z8)) u) := Lib.hid fun u => by rw [eZ8]; exact bin_addL Z7 [13, 10] (by first | omega | (simp only [List.length_cons, List.length_nil]; omega)) u
      have HZ9 : Hid (∀ u, (binOp .add 9 (.string (bs Z8)) (.string (bs r.b))).run Tryz.prog u = .ok (.string (bs Z9)) u) := Lib.hid fun u => by rw [eZ9]; exact bin_addL Z8 r.b (by first | omega | (simp only [List.length_cons, List.length_nil]; omega)) u
      have mZ4 : Z4.length ≤ 100 := by omega
      have yZ4 := bs_size Z4
      clear eZ1 eZ2 eZ3 eZ4 eN1 eN2 eT5 eZ5 eZ6 eZ7 eZ8 eZ9 eD eE hne hgood eW hN
      clear lZ1 lZ2 lZ3 lZ4 lT5 lZ5 lZ6 lZ7 lZ8 lZ9
      go_enter Tryz.func21, Tryz.ntmps21
      go_upto_region 4 with (first
        | (refine wpList_box_rws rfl _ _ (by rfl) (by exact hR) #[.int .i64 (N : Nat), .string (bs r.n), .string (bs r.b)] rfl ?_; intro gb w1 hR; have f0 := hR.cellAt (g := gb) (List.Mem.head _) 0 rfl; have f1 := hR.cellAt (g := gb) (List.Mem.head _) 1 rfl; have f2 := hR.cellAt (g := gb) (List.Mem.head _) 2 rfl)
        | (go_at_call 45; refine (HWO.out _).mono ?_; rintro e w2 ⟨rfl, rfl⟩)
        | (go_at_call 46; refine (HOF.out _).mono ?_; rintro e w3 ⟨rfl, hb3⟩; have hR := hR.call hb3; have f0 := hR.cellAt (g := gb) (List.Mem.head _) 0 rfl; have f1 := hR.cellAt (g := gb) (List.Mem.head _) 1 rfl; have f2 := hR.cellAt (g := gb) (List.Mem.head _) 2 rfl))
      clear f0 f1 f2
      have HB0 : Hid (∀ u, Below w3.heap.size w3 u → u.cell? ⟨gb, 0, none⟩ = some (.int .i64 (N : Nat))) := Lib.hid fun u hb => (hb.cell (p := ⟨gb, 0, none⟩) (hR.lt (x := _) (by repeat (first | exact List.Mem.head _ | refine List.Mem.tail _ ?_)))).trans (hR.cellAt (g := gb) (by repeat (first | exact List.Mem.head _ | refine List.Mem.tail _ ?_)) 0 rfl)
      have HB1 : Hid (∀ u, Below w3.heap.size w3 u → u.cell? ⟨gb, 1, none⟩ = some (.string (bs r.n))) := Lib.hid fun u hb => (hb.cell (p := ⟨gb, 1, none⟩) (hR.lt (x := _) (by repeat (first | exact List.Mem.head _ | refine List.Mem.tail _ ?_)))).trans (hR.cellAt (g := gb) (by repeat (first | exact List.Mem.head _ | refine List.Mem.tail _ ?_)) 1 rfl)
      have HB2 : Hid (∀ u, Below w3.heap.size w3 u → u.cell? ⟨gb, 2, none⟩ = some (.string (bs r.b))) := Lib.hid fun u hb => (hb.cell (p := ⟨gb, 2, none⟩) (hR.lt (x := _) (by repeat (first | exact List.Mem.head _ | refine List.Mem.tail _ ?_)))).trans (hR.cellAt (g := gb) (by repeat (first | exact List.Mem.head _ | refine List.Mem.tail _ ?_)) 2 rfl)
      have HBW := Lib.hid hR.below
      have HBL := Lib.hid hR.len
      refine wp_region_softG 10 (by kernel_rfl) (by kernel_rfl) (by rfl) hR ?_
      refine g_fa (g := gb) (k := 0) (off := 0) (by rfl) (by exact fun _ _ _ h => h) Tryz.underlying36 rfl ⟨0, by kernel_rfl⟩ rfl ?_
      refine g_cellw (g := gb) (k := 0) (v := .int .i64 (N : Nat)) (R := Is (.int .i64 (N : Nat))) (by rfl) (by exact fun _ _ _ h => h) (HB0.out) isAgg_int (stb_is _) (by exact fun _ _ => rfl) ?_
      refine g_callK (f := 47) (xs := [.tmp 24]) [.int .i64 (N : Nat)] (R := Is (.string (bs D))) (by rfl) Tryz.func47 (by kernel_rfl) rfl (stb_is _) ⟨(by exact fun _ _ _ h => h), trivial⟩ (fun u hb => HIT.out u (HBW.out.trans (hb.mono HBL.out))) ?_
      refine g_bin (v := .string ⟨#[72, 84, 84, 80, 47, 49, 46, 49, 32]⟩) (u := .string (bs D)) (r := .string (bs Z1)) (by rfl) (by exact fun _ _ _ h => h) (by exact fun _ _ _ h => h) (by rfl) (HZ1.out) ?_
      refine g_bin (v := .string (bs Z1)) (u := .string ⟨#[32]⟩) (r := .string (bs Z2)) (by rfl) (by exact fun _ _ _ h => h) (by exact fun _ _ _ h => h) (by rfl) (HZ2.out) ?_
      refine g_fa (g := gb) (k := 0) (off := 0) (by rfl) (by exact fun _ _ _ h => h) Tryz.underlying36 rfl ⟨0, by kernel_rfl⟩ rfl ?_
      refine g_cellw (g := gb) (k := 0) (v := .int .i64 (N : Nat)) (R := Is (.int .i64 (N : Nat))) (by rfl) (by exact fun _ _ _ h => h) (HB0.out) isAgg_int (stb_is _) (by exact fun _ _ => rfl) ?_
      refine g_callK (f := 45) (xs := [.tmp 29]) [.int .i64 (N : Nat)] (R := Is (.string (bs W))) (by rfl) Tryz.func45 (by kernel_rfl) rfl (stb_is _) ⟨(by exact fun _ _ _ h => h), trivial⟩ (fun u hb => HWW.out u (HBW.out.trans (hb.mono HBL.out))) ?_
      refine g_bin (v := .string (bs Z2)) (u := .string (bs W)) (r := .string (bs Z3)) (by rfl) (by exact fun _ _ _ h => h) (by exact fun _ _ _ h => h) (by rfl) (HZ3.out) ?_
      refine g_bin (v := .string (bs Z3)) (u := .string ⟨#[13, 10]⟩) (r := .string (bs Z4)) (by rfl) (by exact fun _ _ _ h => h) (by exact fun _ _ _ h => h) (by rfl) (HZ4.out) ?_
      intro wB hRB hbB v23 h23 v24 h24 v25 h25 v26 h26 v27 h27 v28 h28 v29 h29 v30 h30 v31 h31 v32 h32
      simp only [softEnd, Act.put, List.setIfInBounds_toArray, List.set_cons_succ, List.set_cons_zero, List.drop_succ_cons, List.drop_zero]
      obtain rfl : v32 = .string (bs Z4) := h32
      clear h23 h24 h25 h26 h27 h28 h29 h30 h31
      have hR := hRB
      have f1 : wB.cell? ⟨gb, 1, none⟩ = some (.string (bs r.n)) := hR.cellAt (g := gb) (by repeat (first | exact List.Mem.head _ | refine List.Mem.tail _ ?_)) 1 rfl
      clear HB0 HB1 HB2 hRB
      go_upto_region 7 with fail
      have HB0 : Hid (∀ u, Below wB.heap.size wB u → u.cell? ⟨gb, 0, none⟩ = some (.int .i64 (N : Nat))) := Lib.hid fun u hb => (hb.cell (p := ⟨gb, 0, none⟩) (hR.lt (x := _) (by repeat (first | exact List.Mem.head _ | refine List.Mem.tail _ ?_)))).trans (hR.cellAt (g := gb) (by repeat (first | exact List.Mem.head _ | refine List.Mem.tail _ ?_)) 0 rfl)
      have HB1 : Hid (∀ u, Below wB.heap.size wB u → u.cell? ⟨gb, 1, none⟩ = some (.string (bs r.n))) := Lib.hid fun u hb => (hb.cell (p := ⟨gb, 1, none⟩) (hR.lt (x := _) (by repeat (first | exact List.Mem.head _ | refine List.Mem.tail _ ?_)))).trans (hR.cellAt (g := gb) (by repeat (first | exact List.Mem.head _ | refine List.Mem.tail _ ?_)) 1 rfl)
      have HB2 : Hid (∀ u, Below wB.heap.size wB u → u.cell? ⟨gb, 2, none⟩ = some (.string (bs r.b))) := Lib.hid fun u hb => (hb.cell (p := ⟨gb, 2, none⟩) (hR.lt (x := _) (by repeat (first | exact List.Mem.head _ | refine List.Mem.tail _ ?_)))).trans (hR.cellAt (g := gb) (by repeat (first | exact List.Mem.head _ | refine List.Mem.tail _ ?_)) 2 rfl)
      have HBW := Lib.hid hR.below
      have HBL := Lib.hid hR.len
      refine wp_region_softG 13 (by kernel_rfl) (by kernel_rfl) (by rfl) hR ?_
      refine g_move (R := Is (.string (bs T5))) (by rfl) (stb_is _) (by exact fun _ _ _ h => h) ?_
      refine g_bin (v := .string (bs T5)) (u := .string ⟨#[99, 111, 110, 116, 101, 110, 116, 45, 108, 101, 110, 103, 116, 104, 58, 32]⟩) (r := .string (bs Z5)) (by rfl) (by exact fun _ _ _ h => h) (by exact fun _ _ _ h => h) (by rfl) (HZ5.out) ?_
      refine g_fa (g := gb) (k := 0) (off := 2) (by rfl) (by exact fun _ _ _ h => h) Tryz.underlying36 rfl ⟨0, by kernel_rfl⟩ rfl ?_
      refine g_cellw (g := gb) (k := 2) (v := .string (bs r.b)) (R := Is (.string (bs r.b))) (by rfl) (by exact fun _ _ _ h => h) (HB2.out) isAgg_str (stb_is _) (by exact fun _ _ => rfl) ?_
      refine g_lens (s := bs r.b) (by rfl) (by exact fun _ _ _ h => h) ?_
      refine g_callK (f := 47) (xs := [.tmp 46]) [.int .i64 ((bs r.b).size : Nat)] (R := Is (.string (bs E))) (by rfl) Tryz.func47 (by kernel_rfl) rfl (stb_is _) ⟨(by exact fun _ _ _ h => h), trivial⟩ (fun u hb => HIE.out u (HBW.out.trans (hb.mono HBL.out))) ?_
      refine g_bin (v := .string (bs Z5)) (u := .string (bs E)) (r := .string (bs Z6)) (by rfl) (by exact fun _ _ _ h => h) (by exact fun _ _ _ h => h) (by rfl) (HZ6.out) ?_
      refine g_bin (v := .string (bs Z6)) (u := .string ⟨#[13, 10]⟩) (r := .string (bs Z7)) (by rfl) (by exact fun _ _ _ h => h) (by exact fun _ _ _ h => h) (by rfl) (HZ7.out) ?_
      refine g_bin (v := .string (bs Z7)) (u := .string ⟨#[13, 10]⟩) (r := .string (bs Z8)) (by rfl) (by exact fun _ _ _ h => h) (by exact fun _ _ _ h => h) (by rfl) (HZ8.out) ?_
      refine g_fa (g := gb) (k := 0) (off := 2) (by rfl) (by exact fun _ _ _ h => h) Tryz.underlying36 rfl ⟨0, by kernel_rfl⟩ rfl ?_
      refine g_cellw (g := gb) (k := 2) (v := .string (bs r.b)) (R := Is (.string (bs r.b))) (by rfl) (by exact fun _ _ _ h => h) (HB2.out) isAgg_str (stb_is _) (by exact fun _ _ => rfl) ?_
      refine g_bin (v := .string (bs Z8)) (u := .string (bs r.b)) (r := .string (bs Z9)) (by rfl) (by exact fun _ _ _ h => h) (by exact fun _ _ _ h => h) (by rfl) (HZ9.out) ?_
      refine g_assign (R := Is (.string (bs Z9))) (by rfl) (stb_is _) (by exact fun _ _ _ h => h) ?_
      intro w9 hR9 hb9 v42 h42 v43 h43 v44 h44 v45 h45 v46 h46 v47 h47 v48 h48 v49 h49 v50 h50 v51 h51 v52 h52 v53 h53 v2 h2
      simp only [softEnd, Act.put, List.setIfInBounds_toArray, List.set_cons_succ, List.set_cons_zero, List.drop_succ_cons, List.drop_zero]
      obtain rfl : v2 = .string (bs Z9) := h2
      clear h42 h43 h44 h45 h46 h47 h48 h49 h50 h51 h52 h53
      go_wp2_with fail
      go_ret2
      rw [HP.out]
      exact ⟨rfl, hR9.below⟩
set_option maxRecDepth 100000 in
set_option maxHeartbeats 8000000 in
theorem AnswerR_any (r : Rp) (w : World) (hn : r.n.length ≤ 1048576) (hb : r.b.length ≤ 1048576) : Calls Tryz.prog 22 #[rpv r] w (RetSE (answerS r) w) := by
  have hSB := SB_eq
  have hR := Rws.start w
  have zn := bs_size r.n
  have zb := bs_size r.b
  have HWO : Hid (∀ u, Calls Tryz.prog 48 #[.int .i64 r.s] u fun e w' => e = .returned (.string (bs (wordS r.s))) ∧ w' = u) := Lib.hid fun u => Word_any r.s u
  have HOF0 : ∀ u, Calls Tryz.prog 49 #[.string (bs r.n), .int .i64 0, .int .i64 128, .string (bs lNonce)] u (RetB (ofB 0 128 noC r.n) u) := fun u => ofR_nonce r.n u (by omega)
  by_cases hw : wordS r.s = []
  · have q1 : ((bs (wordS r.s)).toList == []) = true := by rw [bs_list, hw]; rfl
    have HA : Hid (answerS r = ([], 1)) := Lib.hid (by unfold answerS; rw [if_pos (Or.inl hw)])
    have HOF := Lib.hid HOF0
    generalize wordS r.s = W at *
    clear hw HOF0
    go_enter Tryz.func22, Tryz.ntmps22
    go_wp2_with (first
      | (refine wpList_box_rws rfl _ _ (by rfl) (by exact hR) (rpC r) rfl ?_; intro gb w1 hR; have f0 := hR.cellAt (g := gb) (List.Mem.head _) 0 rfl; have f1 := hR.cellAt (g := gb) (List.Mem.head _) 1 rfl; have f2 := hR.cellAt (g := gb) (List.Mem.head _) 2 rfl)
      | (go_at_call 48; refine (HWO.out _).mono ?_; rintro e w2 ⟨rfl, rfl⟩)
      | (go_at_call 49; refine (HOF.out _).mono ?_; rintro e w3 ⟨rfl, hb3⟩; have hR := hR.call hb3; have f0 := hR.cellAt (g := gb) (List.Mem.head _) 0 rfl; have f1 := hR.cellAt (g := gb) (List.Mem.head _) 1 rfl; have f2 := hR.cellAt (g := gb) (List.Mem.head _) 2 rfl))
    go_ret2
    rw [HA.out]
    exact ⟨rfl, hR.below⟩
  have q1 : ((bs (wordS r.s)).toList == []) = false := by rw [bs_list]; simpa using hw
  cases ho : ofB 0 128 noC r.n with
  | false =>
    have HA : Hid (answerS r = ([], 1)) := Lib.hid (by unfold answerS; rw [if_pos (Or.inr (Or.inl ho))])
    rw [ho] at HOF0
    have HOF := Lib.hid HOF0
    generalize wordS r.s = W at *
    clear hw HOF0 ho
    go_enter Tryz.func22, Tryz.ntmps22
    go_wp2_with (first
      | (refine wpList_box_rws rfl _ _ (by rfl) (by exact hR) (rpC r) rfl ?_; intro gb w1 hR; have f0 := hR.cellAt (g := gb) (List.Mem.head _) 0 rfl; have f1 := hR.cellAt (g := gb) (List.Mem.head _) 1 rfl; have f2 := hR.cellAt (g := gb) (List.Mem.head _) 2 rfl)
      | (go_at_call 48; refine (HWO.out _).mono ?_; rintro e w2 ⟨rfl, rfl⟩)
      | (go_at_call 49; refine (HOF.out _).mono ?_; rintro e w3 ⟨rfl, hb3⟩; have hR := hR.call hb3; have f0 := hR.cellAt (g := gb) (List.Mem.head _) 0 rfl; have f1 := hR.cellAt (g := gb) (List.Mem.head _) 1 rfl; have f2 := hR.cellAt (g := gb) (List.Mem.head _) 2 rfl))
    go_ret2
    rw [HA.out]
    exact ⟨rfl, hR.below⟩
  | true =>
    rw [ho] at HOF0
    have HOF := Lib.hid HOF0
    by_cases h8 : 8192 < r.b.length
    · have z8 : (8192 : Int) < (r.b.length : Int) := by omega
      have HA : Hid (answerS r = ([], 1)) := Lib.hid (by unfold answerS; rw [if_pos (Or.inr (Or.inr h8))])
      generalize wordS r.s = W at *
      clear hw HOF0 ho h8
      go_enter Tryz.func22, Tryz.ntmps22
      go_wp2_with (first
        | (refine wpList_box_rws rfl _ _ (by rfl) (by exact hR) (rpC r) rfl ?_; intro gb w1 hR; have f0 := hR.cellAt (g := gb) (List.Mem.head _) 0 rfl; have f1 := hR.cellAt (g := gb) (List.Mem.head _) 1 rfl; have f2 := hR.cellAt (g := gb) (List.Mem.head _) 2 rfl)
        | (go_at_call 48; refine (HWO.out _).mono ?_; rintro e w2 ⟨rfl, rfl⟩)
        | (go_at_call 49; refine (HOF.out _).mono ?_; rintro e w3 ⟨rfl, hb3⟩; have hR := hR.call hb3; have f0 := hR.cellAt (g := gb) (List.Mem.head _) 0 rfl; have f1 := hR.cellAt (g := gb) (List.Mem.head _) 1 rfl; have f2 := hR.cellAt (g := gb) (List.Mem.head _) 2 rfl))
      go_ret2
      rw [HA.out]
      exact ⟨rfl, hR.below⟩
    have z8 : ¬ (8192 : Int) < (r.b.length : Int) := by omega
    have hgood : ¬ (wordS r.s = [] ∨ ofB 0 128 noC r.n = false ∨ 8192 < r.b.length) := by rintro (h | h | h); exact hw h; rw [ho] at h; cases h; exact h8 h
    obtain ⟨hs0, hs1⟩ := word_num hw
    obtain ⟨N, hN⟩ : ∃ N : Nat, r.s = (N : Int) := ⟨r.s.toNat, by omega⟩
    have hN3 : N ≤ 503 := by omega
    have hwl := word_le r.s
    have HIT : Hid (∀ u, Below w.heap.size w u → Calls Tryz.prog 50 #[.int .i64 (N : Nat)] u (RW (Is (.string (bs (numS N)))) u)) := Lib.hid fun u hb => (Num_any N (by omega) u).mono fun _ _ h => rw_below h
    have HIE : Hid (∀ u, Below w.heap.size w u → Calls Tryz.prog 50 #[.int .i64 (r.b.length : Nat)] u (RW (Is (.string (bs (numS r.b.length)))) u)) := Lib.hid fun u hb => (Num_any r.b.length (by omega) u).mono fun _ _ h => rw_below h
    have hdl := (num_len (n := N) (by omega)).2
    have hel := (num_len (n := r.b.length) (by omega)).2
    obtain ⟨D, eD⟩ : ∃ D, D = numS N := ⟨_, rfl⟩
    obtain ⟨E, eE⟩ : ∃ E, E = numS r.b.length := ⟨_, rfl⟩
    obtain ⟨W, eW⟩ : ∃ W, W = wordS r.s := ⟨_, rfl⟩
    rw [← eD] at HIT hdl
    rw [← eE] at HIE hel
    rw [← eW] at HWO q1 hwl
    rw [hN] at HWO
    rw [← zb] at HIE
    have HWW : Hid (∀ u, Below w.heap.size w u → Calls Tryz.prog 48 #[.int .i64 (N : Nat)] u (RW (Is (.string (bs W))) u)) := Lib.hid fun u _ => (HWO.out u).mono fun _ _ h => rw_same h
    have hrn : r.n.length ≤ 1048576 := hn
    clear hw HOF0 ho h8 hs0 hs1
    have hrp : rpC r = #[.int .i64 (N : Nat), .string (bs r.n), .string (bs r.b)] := by unfold rpC; rw [hN]
    have hrv : rpv r = .agg #[.int .i64 (N : Nat), .string (bs r.n), .string (bs r.b)] := by unfold rpv; rw [hrp]
    rw [hrv]
    clear hrv hrp
    by_cases hne : r.n = []
    · have q2 : ((bs r.n).toList == []) = true := by rw [bs_list, hne]; rfl
      obtain ⟨Z1, eZ1⟩ : ∃ Z1 : Bs, Z1 = [72, 84, 84, 80, 47, 49, 46, 49, 32] ++ D := ⟨_, rfl⟩
      obtain ⟨Z2, eZ2⟩ : ∃ Z2 : Bs, Z2 = Z1 ++ [32] := ⟨_, rfl⟩
      obtain ⟨Z3, eZ3⟩ : ∃ Z3 : Bs, Z3 = Z2 ++ W := ⟨_, rfl⟩
      obtain ⟨Z4, eZ4⟩ : ∃ Z4 : Bs, Z4 = Z3 ++ [13, 10] := ⟨_, rfl⟩
      obtain ⟨Z5, eZ5⟩ : ∃ Z5 : Bs, Z5 = Z4 ++ [99, 111, 110, 116, 101, 110, 116, 45, 108, 101, 110, 103, 116, 104, 58, 32] := ⟨_, rfl⟩
      obtain ⟨Z6, eZ6⟩ : ∃ Z6 : Bs, Z6 = Z5 ++ E := ⟨_, rfl⟩
      obtain ⟨Z8, eZ8⟩ : ∃ Z8 : Bs, Z8 = Z6 ++ [13, 10, 13, 10] := ⟨_, rfl⟩
      obtain ⟨Z9, eZ9⟩ : ∃ Z9 : Bs, Z9 = Z8 ++ r.b := ⟨_, rfl⟩
      have HP : Hid (answerS r = (Z9, 0)) := Lib.hid (by
        unfold answerS
        rw [if_neg hgood, ← eW, hN, Int.toNat_natCast, ← eD, ← eE]
        rw [if_pos hne]
        rw [eZ9, eZ8, eZ6, eZ5, eZ4, eZ3, eZ2, eZ1]
        simp [wHttp, wCl, CRLF, HEND, List.append_assoc])
      have lZ1 : Z1.length = 9 + D.length := by rw [eZ1, List.length_append]; rfl
      have lZ2 : Z2.length = Z1.length + 1 := by rw [eZ2, List.length_append]; rfl
      have lZ3 : Z3.length = Z2.length + W.length := by rw [eZ3, List.length_append]
      have lZ4 : Z4.length = Z3.length + 2 := by rw [eZ4, List.length_append]; rfl
      have lZ5 : Z5.length = Z4.length + 16 := by rw [eZ5, List.length_append]; rfl
      have lZ6 : Z6.length = Z5.length + E.length := by rw [eZ6, List.length_append]
      have lZ8 : Z8.length = Z6.length + 4 := by rw [eZ8, List.length_append]; rfl
      have lZ9 : Z9.length = Z8.length + r.b.length := by rw [eZ9, List.length_append]
      have HZ1 : Hid (∀ u, (binOp .add 9 (.string ⟨#[72, 84, 84, 80, 47, 49, 46, 49, 32]⟩) (.string (bs D))).run Tryz.prog u = .ok (.string (bs Z1)) u) := Lib.hid fun u => by rw [eZ1]; exact bin_addL [72, 84, 84, 80, 47, 49, 46, 49, 32] D (by first | omega | (simp only [List.length_cons, List.length_nil]; omega)) u
      have HZ2 : Hid (∀ u, (binOp .add 9 (.string (bs Z1)) (.string ⟨#[32]⟩)).run Tryz.prog u = .ok (.string (bs Z2)) u) := Lib.hid fun u => by rw [eZ2]; exact bin_addL Z1 [32] (by first | omega | (simp only [List.length_cons, List.length_nil]; omega)) u
      have HZ3 : Hid (∀ u, (binOp .add 9 (.string (bs Z2)) (.string (bs W))).run Tryz.prog u = .ok (.string (bs Z3)) u) := Lib.hid fun u => by rw [eZ3]; exact bin_addL Z2 W (by first | omega | (simp only [List.length_cons, List.length_nil]; omega)) u
      have HZ4 : Hid (∀ u, (binOp .add 9 (.string (bs Z3)) (.string ⟨#[13, 10]⟩)).run Tryz.prog u = .ok (.string (bs Z4)) u) := Lib.hid fun u => by rw [eZ4]; exact bin_addL Z3 [13, 10] (by first | omega | (simp only [List.length_cons, List.length_nil]; omega)) u
      have HZ5 : Hid (∀ u, (binOp .add 9 (.string (bs Z4)) (.string ⟨#[99, 111, 110, 116, 101, 110, 116, 45, 108, 101, 110, 103, 116, 104, 58, 32]⟩)).run Tryz.prog u = .ok (.string (bs Z5)) u) := Lib.hid fun u => by rw [eZ5]; exact bin_addL Z4 [99, 111, 110, 116, 101, 110, 116, 45, 108, 101, 110, 103, 116, 104, 58, 32] (by first | omega | (simp only [List.length_cons, List.length_nil]; omega)) u
      have HZ6 : Hid (∀ u, (binOp .add 9 (.string (bs Z5)) (.string (bs E))).run Tryz.prog u = .ok (.string (bs Z6)) u) := Lib.hid fun u => by rw [eZ6]; exact bin_addL Z5 E (by first | omega | (simp only [List.length_cons, List.length_nil]; omega)) u
      have HZ8 : Hid (∀ u, (binOp .add 9 (.string (bs Z6)) (.string ⟨#[13, 10, 13, 10]⟩)).run Tryz.prog u = .ok (.string (bs Z8)) u) := Lib.hid fun u => by rw [eZ8]; exact bin_addL Z6 [13, 10, 13, 10] (by first | omega | (simp only [List.length_cons, List.length_nil]; omega)) u
      have HZ9 : Hid (∀ u, (binOp .add 9 (.string (bs Z8)) (.string (bs r.b))).run Tryz.prog u = .ok (.string (bs Z9)) u) := Lib.hid fun u => by rw [eZ9]; exact bin_addL Z8 r.b (by first | omega | (simp only [List.length_cons, List.length_nil]; omega)) u
      clear eZ1 eZ2 eZ3 eZ4 eZ5 eZ6 eZ8 eZ9 eD eE hne hgood eW hN
      clear lZ1 lZ2 lZ3 lZ4 lZ5 lZ6 lZ8 lZ9
      go_enter Tryz.func22, Tryz.ntmps22
      go_upto_region 3 with (first
        | (refine wpList_box_rws rfl _ _ (by rfl) (by exact hR) #[.int .i64 (N : Nat), .string (bs r.n), .string (bs r.b)] rfl ?_; intro gb w1 hR; have f0 := hR.cellAt (g := gb) (List.Mem.head _) 0 rfl; have f1 := hR.cellAt (g := gb) (List.Mem.head _) 1 rfl; have f2 := hR.cellAt (g := gb) (List.Mem.head _) 2 rfl)
        | (go_at_call 48; refine (HWO.out _).mono ?_; rintro e w2 ⟨rfl, rfl⟩)
        | (go_at_call 49; refine (HOF.out _).mono ?_; rintro e w3 ⟨rfl, hb3⟩; have hR := hR.call hb3; have f0 := hR.cellAt (g := gb) (List.Mem.head _) 0 rfl; have f1 := hR.cellAt (g := gb) (List.Mem.head _) 1 rfl; have f2 := hR.cellAt (g := gb) (List.Mem.head _) 2 rfl))
      clear f0 f1 f2
      have HB0 : Hid (∀ u, Below w3.heap.size w3 u → u.cell? ⟨gb, 0, none⟩ = some (.int .i64 (N : Nat))) := Lib.hid fun u hb => (hb.cell (p := ⟨gb, 0, none⟩) (hR.lt (x := _) (by repeat (first | exact List.Mem.head _ | refine List.Mem.tail _ ?_)))).trans (hR.cellAt (g := gb) (by repeat (first | exact List.Mem.head _ | refine List.Mem.tail _ ?_)) 0 rfl)
      have HB1 : Hid (∀ u, Below w3.heap.size w3 u → u.cell? ⟨gb, 1, none⟩ = some (.string (bs r.n))) := Lib.hid fun u hb => (hb.cell (p := ⟨gb, 1, none⟩) (hR.lt (x := _) (by repeat (first | exact List.Mem.head _ | refine List.Mem.tail _ ?_)))).trans (hR.cellAt (g := gb) (by repeat (first | exact List.Mem.head _ | refine List.Mem.tail _ ?_)) 1 rfl)
      have HB2 : Hid (∀ u, Below w3.heap.size w3 u → u.cell? ⟨gb, 2, none⟩ = some (.string (bs r.b))) := Lib.hid fun u hb => (hb.cell (p := ⟨gb, 2, none⟩) (hR.lt (x := _) (by repeat (first | exact List.Mem.head _ | refine List.Mem.tail _ ?_)))).trans (hR.cellAt (g := gb) (by repeat (first | exact List.Mem.head _ | refine List.Mem.tail _ ?_)) 2 rfl)
      have HBW := Lib.hid hR.below
      have HBL := Lib.hid hR.len
      refine wp_region_softG 10 (by kernel_rfl) (by kernel_rfl) (by rfl) hR ?_
      refine g_fa (g := gb) (k := 0) (off := 0) (by rfl) (by exact fun _ _ _ h => h) Tryz.underlying36 rfl ⟨0, by kernel_rfl⟩ rfl ?_
      refine g_cellw (g := gb) (k := 0) (v := .int .i64 (N : Nat)) (R := Is (.int .i64 (N : Nat))) (by rfl) (by exact fun _ _ _ h => h) (HB0.out) isAgg_int (stb_is _) (by exact fun _ _ => rfl) ?_
      refine g_callK (f := 50) (xs := [.tmp 22]) [.int .i64 (N : Nat)] (R := Is (.string (bs D))) (by rfl) Tryz.func50 (by kernel_rfl) rfl (stb_is _) ⟨(by exact fun _ _ _ h => h), trivial⟩ (fun u hb => HIT.out u (HBW.out.trans (hb.mono HBL.out))) ?_
      refine g_bin (v := .string ⟨#[72, 84, 84, 80, 47, 49, 46, 49, 32]⟩) (u := .string (bs D)) (r := .string (bs Z1)) (by rfl) (by exact fun _ _ _ h => h) (by exact fun _ _ _ h => h) (by rfl) (HZ1.out) ?_
      refine g_bin (v := .string (bs Z1)) (u := .string ⟨#[32]⟩) (r := .string (bs Z2)) (by rfl) (by exact fun _ _ _ h => h) (by exact fun _ _ _ h => h) (by rfl) (HZ2.out) ?_
      refine g_fa (g := gb) (k := 0) (off := 0) (by rfl) (by exact fun _ _ _ h => h) Tryz.underlying36 rfl ⟨0, by kernel_rfl⟩ rfl ?_
      refine g_cellw (g := gb) (k := 0) (v := .int .i64 (N : Nat)) (R := Is (.int .i64 (N : Nat))) (by rfl) (by exact fun _ _ _ h => h) (HB0.out) isAgg_int (stb_is _) (by exact fun _ _ => rfl) ?_
      refine g_callK (f := 48) (xs := [.tmp 27]) [.int .i64 (N : Nat)] (R := Is (.string (bs W))) (by rfl) Tryz.func48 (by kernel_rfl) rfl (stb_is _) ⟨(by exact fun _ _ _ h => h), trivial⟩ (fun u hb => HWW.out u (HBW.out.trans (hb.mono HBL.out))) ?_
      refine g_bin (v := .string (bs Z2)) (u := .string (bs W)) (r := .string (bs Z3)) (by rfl) (by exact fun _ _ _ h => h) (by exact fun _ _ _ h => h) (by rfl) (HZ3.out) ?_
      refine g_bin (v := .string (bs Z3)) (u := .string ⟨#[13, 10]⟩) (r := .string (bs Z4)) (by rfl) (by exact fun _ _ _ h => h) (by exact fun _ _ _ h => h) (by rfl) (HZ4.out) ?_
      intro wB hRB hbB v21 h21 v22 h22 v23 h23 v24 h24 v25 h25 v26 h26 v27 h27 v28 h28 v29 h29 v30 h30
      simp only [softEnd, Act.put, List.setIfInBounds_toArray, List.set_cons_succ, List.set_cons_zero, List.drop_succ_cons, List.drop_zero]
      obtain rfl : v30 = .string (bs Z4) := h30
      clear h21 h22 h23 h24 h25 h26 h27 h28 h29
      have hR := hRB
      have f1 : wB.cell? ⟨gb, 1, none⟩ = some (.string (bs r.n)) := hR.cellAt (g := gb) (by repeat (first | exact List.Mem.head _ | refine List.Mem.tail _ ?_)) 1 rfl
      clear HB0 HB1 HB2 hRB
      go_upto_region 6 with fail
      have HB0 : Hid (∀ u, Below wB.heap.size wB u → u.cell? ⟨gb, 0, none⟩ = some (.int .i64 (N : Nat))) := Lib.hid fun u hb => (hb.cell (p := ⟨gb, 0, none⟩) (hR.lt (x := _) (by repeat (first | exact List.Mem.head _ | refine List.Mem.tail _ ?_)))).trans (hR.cellAt (g := gb) (by repeat (first | exact List.Mem.head _ | refine List.Mem.tail _ ?_)) 0 rfl)
      have HB1 : Hid (∀ u, Below wB.heap.size wB u → u.cell? ⟨gb, 1, none⟩ = some (.string (bs r.n))) := Lib.hid fun u hb => (hb.cell (p := ⟨gb, 1, none⟩) (hR.lt (x := _) (by repeat (first | exact List.Mem.head _ | refine List.Mem.tail _ ?_)))).trans (hR.cellAt (g := gb) (by repeat (first | exact List.Mem.head _ | refine List.Mem.tail _ ?_)) 1 rfl)
      have HB2 : Hid (∀ u, Below wB.heap.size wB u → u.cell? ⟨gb, 2, none⟩ = some (.string (bs r.b))) := Lib.hid fun u hb => (hb.cell (p := ⟨gb, 2, none⟩) (hR.lt (x := _) (by repeat (first | exact List.Mem.head _ | refine List.Mem.tail _ ?_)))).trans (hR.cellAt (g := gb) (by repeat (first | exact List.Mem.head _ | refine List.Mem.tail _ ?_)) 2 rfl)
      have HBW := Lib.hid hR.below
      have HBL := Lib.hid hR.len
      refine wp_region_softG 12 (by kernel_rfl) (by kernel_rfl) (by rfl) hR ?_
      refine g_move (R := Is (.string (bs Z4))) (by rfl) (stb_is _) (by exact fun _ _ _ h => h) ?_
      refine g_bin (v := .string (bs Z4)) (u := .string ⟨#[99, 111, 110, 116, 101, 110, 116, 45, 108, 101, 110, 103, 116, 104, 58, 32]⟩) (r := .string (bs Z5)) (by rfl) (by exact fun _ _ _ h => h) (by exact fun _ _ _ h => h) (by rfl) (HZ5.out) ?_
      refine g_fa (g := gb) (k := 0) (off := 2) (by rfl) (by exact fun _ _ _ h => h) Tryz.underlying36 rfl ⟨0, by kernel_rfl⟩ rfl ?_
      refine g_cellw (g := gb) (k := 2) (v := .string (bs r.b)) (R := Is (.string (bs r.b))) (by rfl) (by exact fun _ _ _ h => h) (HB2.out) isAgg_str (stb_is _) (by exact fun _ _ => rfl) ?_
      refine g_lens (s := bs r.b) (by rfl) (by exact fun _ _ _ h => h) ?_
      refine g_callK (f := 50) (xs := [.tmp 44]) [.int .i64 ((bs r.b).size : Nat)] (R := Is (.string (bs E))) (by rfl) Tryz.func50 (by kernel_rfl) rfl (stb_is _) ⟨(by exact fun _ _ _ h => h), trivial⟩ (fun u hb => HIE.out u (HBW.out.trans (hb.mono HBL.out))) ?_
      refine g_bin (v := .string (bs Z5)) (u := .string (bs E)) (r := .string (bs Z6)) (by rfl) (by exact fun _ _ _ h => h) (by exact fun _ _ _ h => h) (by rfl) (HZ6.out) ?_
      refine g_bin (v := .string (bs Z6)) (u := .string ⟨#[13, 10, 13, 10]⟩) (r := .string (bs Z8)) (by rfl) (by exact fun _ _ _ h => h) (by exact fun _ _ _ h => h) (by rfl) (HZ8.out) ?_
      refine g_fa (g := gb) (k := 0) (off := 2) (by rfl) (by exact fun _ _ _ h => h) Tryz.underlying36 rfl ⟨0, by kernel_rfl⟩ rfl ?_
      refine g_cellw (g := gb) (k := 2) (v := .string (bs r.b)) (R := Is (.string (bs r.b))) (by rfl) (by exact fun _ _ _ h => h) (HB2.out) isAgg_str (stb_is _) (by exact fun _ _ => rfl) ?_
      refine g_bin (v := .string (bs Z8)) (u := .string (bs r.b)) (r := .string (bs Z9)) (by rfl) (by exact fun _ _ _ h => h) (by exact fun _ _ _ h => h) (by rfl) (HZ9.out) ?_
      refine g_assign (R := Is (.string (bs Z9))) (by rfl) (stb_is _) (by exact fun _ _ _ h => h) ?_
      intro w9 hR9 hb9 v40 h40 v41 h41 v42 h42 v43 h43 v44 h44 v45 h45 v46 h46 v47 h47 v48 h48 v49 h49 v50 h50 v2 h2
      simp only [softEnd, Act.put, List.setIfInBounds_toArray, List.set_cons_succ, List.set_cons_zero, List.drop_succ_cons, List.drop_zero]
      obtain rfl : v2 = .string (bs Z9) := h2
      clear h40 h41 h42 h43 h44 h45 h46 h47 h48 h49 h50
      go_wp2_with fail
      go_ret2
      rw [HP.out]
      exact ⟨rfl, hR9.below⟩
    · have q2 : ((bs r.n).toList == []) = false := by rw [bs_list]; simpa using hne
      obtain ⟨Z1, eZ1⟩ : ∃ Z1 : Bs, Z1 = [72, 84, 84, 80, 47, 49, 46, 49, 32] ++ D := ⟨_, rfl⟩
      obtain ⟨Z2, eZ2⟩ : ∃ Z2 : Bs, Z2 = Z1 ++ [32] := ⟨_, rfl⟩
      obtain ⟨Z3, eZ3⟩ : ∃ Z3 : Bs, Z3 = Z2 ++ W := ⟨_, rfl⟩
      obtain ⟨Z4, eZ4⟩ : ∃ Z4 : Bs, Z4 = Z3 ++ [13, 10] := ⟨_, rfl⟩
      obtain ⟨N1, eN1⟩ : ∃ N1 : Bs, N1 = [100, 112, 111, 112, 45, 110, 111, 110, 99, 101, 58, 32] ++ r.n := ⟨_, rfl⟩
      obtain ⟨N2, eN2⟩ : ∃ N2 : Bs, N2 = N1 ++ [13, 10] := ⟨_, rfl⟩
      obtain ⟨T5, eT5⟩ : ∃ T5 : Bs, T5 = Z4 ++ N2 := ⟨_, rfl⟩
      obtain ⟨Z5, eZ5⟩ : ∃ Z5 : Bs, Z5 = T5 ++ [99, 111, 110, 116, 101, 110, 116, 45, 108, 101, 110, 103, 116, 104, 58, 32] := ⟨_, rfl⟩
      obtain ⟨Z6, eZ6⟩ : ∃ Z6 : Bs, Z6 = Z5 ++ E := ⟨_, rfl⟩
      obtain ⟨Z8, eZ8⟩ : ∃ Z8 : Bs, Z8 = Z6 ++ [13, 10, 13, 10] := ⟨_, rfl⟩
      obtain ⟨Z9, eZ9⟩ : ∃ Z9 : Bs, Z9 = Z8 ++ r.b := ⟨_, rfl⟩
      have HP : Hid (answerS r = (Z9, 0)) := Lib.hid (by
        unfold answerS
        rw [if_neg hgood, ← eW, hN, Int.toNat_natCast, ← eD, ← eE]
        rw [if_neg hne]
        rw [eZ9, eZ8, eZ6, eZ5, eT5, eN2, eN1, eZ4, eZ3, eZ2, eZ1]
        simp [wHttp, wNonce, wCl, CRLF, HEND, List.append_assoc])
      have lZ1 : Z1.length = 9 + D.length := by rw [eZ1, List.length_append]; rfl
      have lZ2 : Z2.length = Z1.length + 1 := by rw [eZ2, List.length_append]; rfl
      have lZ3 : Z3.length = Z2.length + W.length := by rw [eZ3, List.length_append]
      have lZ4 : Z4.length = Z3.length + 2 := by rw [eZ4, List.length_append]; rfl
      have lN1 : N1.length = 12 + r.n.length := by rw [eN1, List.length_append]; rfl
      have lN2 : N2.length = N1.length + 2 := by rw [eN2, List.length_append]; rfl
      have lT5 : T5.length = Z4.length + N2.length := by rw [eT5, List.length_append]
      have lZ5 : Z5.length = T5.length + 16 := by rw [eZ5, List.length_append]; rfl
      have lZ6 : Z6.length = Z5.length + E.length := by rw [eZ6, List.length_append]
      have lZ8 : Z8.length = Z6.length + 4 := by rw [eZ8, List.length_append]; rfl
      have lZ9 : Z9.length = Z8.length + r.b.length := by rw [eZ9, List.length_append]
      have HZ1 : Hid (∀ u, (binOp .add 9 (.string ⟨#[72, 84, 84, 80, 47, 49, 46, 49, 32]⟩) (.string (bs D))).run Tryz.prog u = .ok (.string (bs Z1)) u) := Lib.hid fun u => by rw [eZ1]; exact bin_addL [72, 84, 84, 80, 47, 49, 46, 49, 32] D (by first | omega | (simp only [List.length_cons, List.length_nil]; omega)) u
      have HZ2 : Hid (∀ u, (binOp .add 9 (.string (bs Z1)) (.string ⟨#[32]⟩)).run Tryz.prog u = .ok (.string (bs Z2)) u) := Lib.hid fun u => by rw [eZ2]; exact bin_addL Z1 [32] (by first | omega | (simp only [List.length_cons, List.length_nil]; omega)) u
      have HZ3 : Hid (∀ u, (binOp .add 9 (.string (bs Z2)) (.string (bs W))).run Tryz.prog u = .ok (.string (bs Z3)) u) := Lib.hid fun u => by rw [eZ3]; exact bin_addL Z2 W (by first | omega | (simp only [List.length_cons, List.length_nil]; omega)) u
      have HZ4 : Hid (∀ u, (binOp .add 9 (.string (bs Z3)) (.string ⟨#[13, 10]⟩)).run Tryz.prog u = .ok (.string (bs Z4)) u) := Lib.hid fun u => by rw [eZ4]; exact bin_addL Z3 [13, 10] (by first | omega | (simp only [List.length_cons, List.length_nil]; omega)) u
      have bN1 : ⟨#[100, 112, 111, 112, 45, 110, 111, 110, 99, 101, 58, 32]⟩ ++ bs r.n = bs N1 := by rw [eN1]; exact bs_app2 [100, 112, 111, 112, 45, 110, 111, 110, 99, 101, 58, 32] r.n
      have yN1 := bs_size N1
      have bN2 : bs N1 ++ ⟨#[13, 10]⟩ = bs N2 := by rw [eN2]; exact bs_app2 N1 [13, 10]
      have yN2 := bs_size N2
      have bT5 : bs Z4 ++ bs N2 = bs T5 := by rw [eT5]; exact bs_app2 Z4 N2
      have yT5 := bs_size T5
      have HZ5 : Hid (∀ u, (binOp .add 9 (.string (bs T5)) (.string ⟨#[99, 111, 110, 116, 101, 110, 116, 45, 108, 101, 110, 103, 116, 104, 58, 32]⟩)).run Tryz.prog u = .ok (.string (bs Z5)) u) := Lib.hid fun u => by rw [eZ5]; exact bin_addL T5 [99, 111, 110, 116, 101, 110, 116, 45, 108, 101, 110, 103, 116, 104, 58, 32] (by first | omega | (simp only [List.length_cons, List.length_nil]; omega)) u
      have HZ6 : Hid (∀ u, (binOp .add 9 (.string (bs Z5)) (.string (bs E))).run Tryz.prog u = .ok (.string (bs Z6)) u) := Lib.hid fun u => by rw [eZ6]; exact bin_addL Z5 E (by first | omega | (simp only [List.length_cons, List.length_nil]; omega)) u
      have HZ8 : Hid (∀ u, (binOp .add 9 (.string (bs Z6)) (.string ⟨#[13, 10, 13, 10]⟩)).run Tryz.prog u = .ok (.string (bs Z8)) u) := Lib.hid fun u => by rw [eZ8]; exact bin_addL Z6 [13, 10, 13, 10] (by first | omega | (simp only [List.length_cons, List.length_nil]; omega)) u
      have HZ9 : Hid (∀ u, (binOp .add 9 (.string (bs Z8)) (.string (bs r.b))).run Tryz.prog u = .ok (.string (bs Z9)) u) := Lib.hid fun u => by rw [eZ9]; exact bin_addL Z8 r.b (by first | omega | (simp only [List.length_cons, List.length_nil]; omega)) u
      have mZ4 : Z4.length ≤ 100 := by omega
      have yZ4 := bs_size Z4
      clear eZ1 eZ2 eZ3 eZ4 eN1 eN2 eT5 eZ5 eZ6 eZ8 eZ9 eD eE hne hgood eW hN
      clear lZ1 lZ2 lZ3 lZ4 lT5 lZ5 lZ6 lZ8 lZ9
      go_enter Tryz.func22, Tryz.ntmps22
      go_upto_region 3 with (first
        | (refine wpList_box_rws rfl _ _ (by rfl) (by exact hR) #[.int .i64 (N : Nat), .string (bs r.n), .string (bs r.b)] rfl ?_; intro gb w1 hR; have f0 := hR.cellAt (g := gb) (List.Mem.head _) 0 rfl; have f1 := hR.cellAt (g := gb) (List.Mem.head _) 1 rfl; have f2 := hR.cellAt (g := gb) (List.Mem.head _) 2 rfl)
        | (go_at_call 48; refine (HWO.out _).mono ?_; rintro e w2 ⟨rfl, rfl⟩)
        | (go_at_call 49; refine (HOF.out _).mono ?_; rintro e w3 ⟨rfl, hb3⟩; have hR := hR.call hb3; have f0 := hR.cellAt (g := gb) (List.Mem.head _) 0 rfl; have f1 := hR.cellAt (g := gb) (List.Mem.head _) 1 rfl; have f2 := hR.cellAt (g := gb) (List.Mem.head _) 2 rfl))
      clear f0 f1 f2
      have HB0 : Hid (∀ u, Below w3.heap.size w3 u → u.cell? ⟨gb, 0, none⟩ = some (.int .i64 (N : Nat))) := Lib.hid fun u hb => (hb.cell (p := ⟨gb, 0, none⟩) (hR.lt (x := _) (by repeat (first | exact List.Mem.head _ | refine List.Mem.tail _ ?_)))).trans (hR.cellAt (g := gb) (by repeat (first | exact List.Mem.head _ | refine List.Mem.tail _ ?_)) 0 rfl)
      have HB1 : Hid (∀ u, Below w3.heap.size w3 u → u.cell? ⟨gb, 1, none⟩ = some (.string (bs r.n))) := Lib.hid fun u hb => (hb.cell (p := ⟨gb, 1, none⟩) (hR.lt (x := _) (by repeat (first | exact List.Mem.head _ | refine List.Mem.tail _ ?_)))).trans (hR.cellAt (g := gb) (by repeat (first | exact List.Mem.head _ | refine List.Mem.tail _ ?_)) 1 rfl)
      have HB2 : Hid (∀ u, Below w3.heap.size w3 u → u.cell? ⟨gb, 2, none⟩ = some (.string (bs r.b))) := Lib.hid fun u hb => (hb.cell (p := ⟨gb, 2, none⟩) (hR.lt (x := _) (by repeat (first | exact List.Mem.head _ | refine List.Mem.tail _ ?_)))).trans (hR.cellAt (g := gb) (by repeat (first | exact List.Mem.head _ | refine List.Mem.tail _ ?_)) 2 rfl)
      have HBW := Lib.hid hR.below
      have HBL := Lib.hid hR.len
      refine wp_region_softG 10 (by kernel_rfl) (by kernel_rfl) (by rfl) hR ?_
      refine g_fa (g := gb) (k := 0) (off := 0) (by rfl) (by exact fun _ _ _ h => h) Tryz.underlying36 rfl ⟨0, by kernel_rfl⟩ rfl ?_
      refine g_cellw (g := gb) (k := 0) (v := .int .i64 (N : Nat)) (R := Is (.int .i64 (N : Nat))) (by rfl) (by exact fun _ _ _ h => h) (HB0.out) isAgg_int (stb_is _) (by exact fun _ _ => rfl) ?_
      refine g_callK (f := 50) (xs := [.tmp 22]) [.int .i64 (N : Nat)] (R := Is (.string (bs D))) (by rfl) Tryz.func50 (by kernel_rfl) rfl (stb_is _) ⟨(by exact fun _ _ _ h => h), trivial⟩ (fun u hb => HIT.out u (HBW.out.trans (hb.mono HBL.out))) ?_
      refine g_bin (v := .string ⟨#[72, 84, 84, 80, 47, 49, 46, 49, 32]⟩) (u := .string (bs D)) (r := .string (bs Z1)) (by rfl) (by exact fun _ _ _ h => h) (by exact fun _ _ _ h => h) (by rfl) (HZ1.out) ?_
      refine g_bin (v := .string (bs Z1)) (u := .string ⟨#[32]⟩) (r := .string (bs Z2)) (by rfl) (by exact fun _ _ _ h => h) (by exact fun _ _ _ h => h) (by rfl) (HZ2.out) ?_
      refine g_fa (g := gb) (k := 0) (off := 0) (by rfl) (by exact fun _ _ _ h => h) Tryz.underlying36 rfl ⟨0, by kernel_rfl⟩ rfl ?_
      refine g_cellw (g := gb) (k := 0) (v := .int .i64 (N : Nat)) (R := Is (.int .i64 (N : Nat))) (by rfl) (by exact fun _ _ _ h => h) (HB0.out) isAgg_int (stb_is _) (by exact fun _ _ => rfl) ?_
      refine g_callK (f := 48) (xs := [.tmp 27]) [.int .i64 (N : Nat)] (R := Is (.string (bs W))) (by rfl) Tryz.func48 (by kernel_rfl) rfl (stb_is _) ⟨(by exact fun _ _ _ h => h), trivial⟩ (fun u hb => HWW.out u (HBW.out.trans (hb.mono HBL.out))) ?_
      refine g_bin (v := .string (bs Z2)) (u := .string (bs W)) (r := .string (bs Z3)) (by rfl) (by exact fun _ _ _ h => h) (by exact fun _ _ _ h => h) (by rfl) (HZ3.out) ?_
      refine g_bin (v := .string (bs Z3)) (u := .string ⟨#[13, 10]⟩) (r := .string (bs Z4)) (by rfl) (by exact fun _ _ _ h => h) (by exact fun _ _ _ h => h) (by rfl) (HZ4.out) ?_
      intro wB hRB hbB v21 h21 v22 h22 v23 h23 v24 h24 v25 h25 v26 h26 v27 h27 v28 h28 v29 h29 v30 h30
      simp only [softEnd, Act.put, List.setIfInBounds_toArray, List.set_cons_succ, List.set_cons_zero, List.drop_succ_cons, List.drop_zero]
      obtain rfl : v30 = .string (bs Z4) := h30
      clear h21 h22 h23 h24 h25 h26 h27 h28 h29
      have hR := hRB
      have f1 : wB.cell? ⟨gb, 1, none⟩ = some (.string (bs r.n)) := hR.cellAt (g := gb) (by repeat (first | exact List.Mem.head _ | refine List.Mem.tail _ ?_)) 1 rfl
      clear HB0 HB1 HB2 hRB
      go_upto_region 6 with fail
      have HB0 : Hid (∀ u, Below wB.heap.size wB u → u.cell? ⟨gb, 0, none⟩ = some (.int .i64 (N : Nat))) := Lib.hid fun u hb => (hb.cell (p := ⟨gb, 0, none⟩) (hR.lt (x := _) (by repeat (first | exact List.Mem.head _ | refine List.Mem.tail _ ?_)))).trans (hR.cellAt (g := gb) (by repeat (first | exact List.Mem.head _ | refine List.Mem.tail _ ?_)) 0 rfl)
      have HB1 : Hid (∀ u, Below wB.heap.size wB u → u.cell? ⟨gb, 1, none⟩ = some (.string (bs r.n))) := Lib.hid fun u hb => (hb.cell (p := ⟨gb, 1, none⟩) (hR.lt (x := _) (by repeat (first | exact List.Mem.head _ | refine List.Mem.tail _ ?_)))).trans (hR.cellAt (g := gb) (by repeat (first | exact List.Mem.head _ | refine List.Mem.tail _ ?_)) 1 rfl)
      have HB2 : Hid (∀ u, Below wB.heap.size wB u → u.cell? ⟨gb, 2, none⟩ = some (.string (bs r.b))) := Lib.hid fun u hb => (hb.cell (p := ⟨gb, 2, none⟩) (hR.lt (x := _) (by repeat (first | exact List.Mem.head _ | refine List.Mem.tail _ ?_)))).trans (hR.cellAt (g := gb) (by repeat (first | exact List.Mem.head _ | refine List.Mem.tail _ ?_)) 2 rfl)
      have HBW := Lib.hid hR.below
      have HBL := Lib.hid hR.len
      refine wp_region_softG 12 (by kernel_rfl) (by kernel_rfl) (by rfl) hR ?_
      refine g_move (R := Is (.string (bs T5))) (by rfl) (stb_is _) (by exact fun _ _ _ h => h) ?_
      refine g_bin (v := .string (bs T5)) (u := .string ⟨#[99, 111, 110, 116, 101, 110, 116, 45, 108, 101, 110, 103, 116, 104, 58, 32]⟩) (r := .string (bs Z5)) (by rfl) (by exact fun _ _ _ h => h) (by exact fun _ _ _ h => h) (by rfl) (HZ5.out) ?_
      refine g_fa (g := gb) (k := 0) (off := 2) (by rfl) (by exact fun _ _ _ h => h) Tryz.underlying36 rfl ⟨0, by kernel_rfl⟩ rfl ?_
      refine g_cellw (g := gb) (k := 2) (v := .string (bs r.b)) (R := Is (.string (bs r.b))) (by rfl) (by exact fun _ _ _ h => h) (HB2.out) isAgg_str (stb_is _) (by exact fun _ _ => rfl) ?_
      refine g_lens (s := bs r.b) (by rfl) (by exact fun _ _ _ h => h) ?_
      refine g_callK (f := 50) (xs := [.tmp 44]) [.int .i64 ((bs r.b).size : Nat)] (R := Is (.string (bs E))) (by rfl) Tryz.func50 (by kernel_rfl) rfl (stb_is _) ⟨(by exact fun _ _ _ h => h), trivial⟩ (fun u hb => HIE.out u (HBW.out.trans (hb.mono HBL.out))) ?_
      refine g_bin (v := .string (bs Z5)) (u := .string (bs E)) (r := .string (bs Z6)) (by rfl) (by exact fun _ _ _ h => h) (by exact fun _ _ _ h => h) (by rfl) (HZ6.out) ?_
      refine g_bin (v := .string (bs Z6)) (u := .string ⟨#[13, 10, 13, 10]⟩) (r := .string (bs Z8)) (by rfl) (by exact fun _ _ _ h => h) (by exact fun _ _ _ h => h) (by rfl) (HZ8.out) ?_
      refine g_fa (g := gb) (k := 0) (off := 2) (by rfl) (by exact fun _ _ _ h => h) Tryz.underlying36 rfl ⟨0, by kernel_rfl⟩ rfl ?_
      refine g_cellw (g := gb) (k := 2) (v := .string (bs r.b)) (R := Is (.string (bs r.b))) (by rfl) (by exact fun _ _ _ h => h) (HB2.out) isAgg_str (stb_is _) (by exact fun _ _ => rfl) ?_
      refine g_bin (v := .string (bs Z8)) (u := .string (bs r.b)) (r := .string (bs Z9)) (by rfl) (by exact fun _ _ _ h => h) (by exact fun _ _ _ h => h) (by rfl) (HZ9.out) ?_
      refine g_assign (R := Is (.string (bs Z9))) (by rfl) (stb_is _) (by exact fun _ _ _ h => h) ?_
      intro w9 hR9 hb9 v40 h40 v41 h41 v42 h42 v43 h43 v44 h44 v45 h45 v46 h46 v47 h47 v48 h48 v49 h49 v50 h50 v2 h2
      simp only [softEnd, Act.put, List.setIfInBounds_toArray, List.set_cons_succ, List.set_cons_zero, List.drop_succ_cons, List.drop_zero]
      obtain rfl : v2 = .string (bs Z9) := h2
      clear h40 h41 h42 h43 h44 h45 h46 h47 h48 h49 h50
      go_wp2_with fail
      go_ret2
      rw [HP.out]
      exact ⟨rfl, hR9.below⟩
end Go.Proofs.YtipjkjcmceeaeaaGreatDoor
