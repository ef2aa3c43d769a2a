/- WKeys WRound RRound, in one text. -/
import Derived.Test.YtjkjlbchbbpmaaaGreatDoorZM
import Derived.Test.YtjkjlbchbbpmaaaGreatDoorZTFixed
import Derived.Test.YtjkjlbchbbpmaaaGreatDoorZW1
/- The known keys go there and back: plain. -/
namespace Go.Proofs.YtjkjlbchbbpmaaaGreatDoor
theorem prime_of {p n : Nat} (h : Ec.Prime p) (e : (n == p) = true) : Ec.Prime n := by
  rw [beq_iff_eq.1 e]; exact h
theorem keyN_any : ∀ r, r < 5 → KeyN (nv (kb r 0)) (nv (kb r 1)) (nv (kb r 2)) (nv (kb r 3)) (nv (kb r 4)) (nv (kb r 5)) (nv (kb r 6)) := by
  intro r hr
  rcases (by omega : r = 0 ∨ r = 1 ∨ r = 2 ∨ r = 3 ∨ r = 4) with rfl | rfl | rfl | rfl | rfl
  · exact ⟨prime_of Ecp.known_0 (by decide +kernel), prime_of Ecp.known_1 (by decide +kernel), by decide +kernel, by decide +kernel, by decide +kernel, by decide +kernel, by decide +kernel⟩
  · exact ⟨prime_of Ecp.known_2 (by decide +kernel), prime_of Ecp.known_3 (by decide +kernel), by decide +kernel, by decide +kernel, by decide +kernel, by decide +kernel, by decide +kernel⟩
  · exact ⟨prime_of Ecp.known_4 (by decide +kernel), prime_of Ecp.known_5 (by decide +kernel), by decide +kernel, by decide +kernel, by decide +kernel, by decide +kernel, by decide +kernel⟩
  · exact ⟨prime_of Ecp.known_6 (by decide +kernel), prime_of Ecp.known_7 (by decide +kernel), by decide +kernel, by decide +kernel, by decide +kernel, by decide +kernel, by decide +kernel⟩
  · exact ⟨prime_of Ecp.known_8 (by decide +kernel), prime_of Ecp.known_9 (by decide +kernel), by decide +kernel, by decide +kernel, by decide +kernel, by decide +kernel, by decide +kernel⟩
end Go.Proofs.YtjkjlbchbbpmaaaGreatDoor
/- RsaRound: the walk. -/
namespace Go.Proofs.YtjkjlbchbbpmaaaGreatDoor
open Go.RowKit

set_option maxRecDepth 100000 in
theorem round_long (i : Int) (m : ByteArray) (r : Nat) (hr : r < 5) (hi : (r : Int) = i % 5) (w : World) (hm : (512 : Int) < (m.size : Int)) :
    Calls Tryz.prog 7 #[.int .i64 i, .string m] w fun e w' => e = .returned (.bool true) ∧ Below w.heap.size w w' := by
  have hkn := fun w => known_any i r hr hi w
  have hfx := fun w => fixed_any w
  obtain ⟨q0, hq0⟩ : ∃ q, q = kb r 0 := ⟨_, rfl⟩
  have hres : res7 r = #[.string q0, .string (kb r 1), .string (kb r 2), .string (kb r 3), .string (kb r 4), .string (kb r 5), .string (kb r 6)] := by rw [hq0]; rfl
  generalize kb r 1 = q1 at hres
  generalize kb r 2 = q2 at hres
  generalize kb r 3 = q3 at hres
  generalize kb r 4 = q4 at hres
  generalize kb r 5 = q5 at hres
  generalize kb r 6 = q6 at hres
  rw [hres] at hkn
  have HK := Lib.hid hkn; have HF := Lib.hid hfx
  clear hkn hfx hres hq0 hi
  have hR0 := Rws.start w
  go_enter Tryz.func7, Tryz.ntmps7
  go_wp2_with fail
  refine (HK.out _).mono ?_
  rintro ee w1 ⟨rfl, hb⟩
  have hR1 := hR0.call hb
  have hR := hR1.alloc #[.string q0, .string q1, .string q2, .string q3, .string q4, .string q5, .string q6] 35
  clear hb
  go_wp2_with fail
  refine (HF.out _).mono ?_
  rintro ee w3 ⟨rfl, hb⟩
  have hres := (hR.call hb).below
  clear hb
  go_wp2_with fail
  go_ret
  exact ⟨rfl, hres⟩

set_option maxRecDepth 100000 in
set_option maxHeartbeats 3200000 in
theorem round_core (i : Int) (m q0 q1 q2 q3 q4 q5 q6 r0 a X S Y : ByteArray) (w : World) (hm : (m.size : Int) ≤ 512)
    (hk : ∀ w : World, Calls Tryz.prog 18 #[.int .i64 i] w fun e w' => e = .returned (.agg #[.string q0, .string q1, .string q2, .string q3, .string q4, .string q5, .string q6]) ∧ Below w.heap.size w w')
    (hd : ∀ w : World, Calls Tryz.prog 19 #[.string m, .string q0] w fun e w' => e = .returned (.tuple #[.string r0, .string a, .int .i64 0]) ∧ Below w.heap.size w w')
    (hp : ∀ w : World, Calls Tryz.prog 20 #[.string a, .int .i64 (q0.size : Int)] w fun e w' => e = .returned (.tuple #[.string X, .int .i64 0]) ∧ Below w.heap.size w w')
    (hr1 : ∀ w : World, Calls Tryz.prog 21 #[.agg #[.string q0, .string q1, .string q2, .string q3, .string q4, .string q5, .string q6], .string X] w fun e w' => e = .returned (.tuple #[.string S, .bool true]) ∧ Below w.heap.size w w')
    (ho1 : ∀ w : World, Calls Tryz.prog 12 #[.agg #[.string q0, .string q1], .string S] w fun e w' => e = .returned (.tuple #[.string X, .int .i64 0]) ∧ Below w.heap.size w w')
    (ho2 : ∀ w : World, Calls Tryz.prog 12 #[.agg #[.string q0, .string q1], .string X] w fun e w' => e = .returned (.tuple #[.string Y, .int .i64 0]) ∧ Below w.heap.size w w')
    (hr2 : ∀ w : World, Calls Tryz.prog 21 #[.agg #[.string q0, .string q1, .string q2, .string q3, .string q4, .string q5, .string q6], .string Y] w fun e w' => e = .returned (.tuple #[.string X, .bool true]) ∧ Below w.heap.size w w') :
    Calls Tryz.prog 7 #[.int .i64 i, .string m] w fun e w' => e = .returned (.bool true) ∧ Below w.heap.size w w' := by
  have hfx := fun w => fixed_any w
  have HK := Lib.hid hk; have HF := Lib.hid hfx; have HD := Lib.hid hd; have HP := Lib.hid hp; have HR1 := Lib.hid hr1; have HO1 := Lib.hid ho1; have HO2 := Lib.hid ho2; have HR2 := Lib.hid hr2
  clear hk hfx hd hp hr1 ho1 ho2 hr2
  have hR0 := Rws.start w
  go_enter Tryz.func7, Tryz.ntmps7
  go_wp2_with fail
  refine (HK.out _).mono ?_
  rintro ee w1 ⟨rfl, hb⟩
  have hR1 := hR0.call hb
  have hR := hR1.alloc #[.string q0, .string q1, .string q2, .string q3, .string q4, .string q5, .string q6] 35
  clear hb
  go_wp2_with fail
  refine (HF.out _).mono ?_
  rintro ee w3 ⟨rfl, hb⟩
  have hR := hR.call hb
  clear hb hR1 hR0
  have c0 : w3.cell? ⟨w1.heap.size, 0, none⟩ = some (.string q0) := hR.cellAt (List.Mem.head _) 0 rfl
  have c1 : w3.cell? ⟨w1.heap.size, 1, none⟩ = some (.string q1) := hR.cellAt (List.Mem.head _) 1 rfl
  go_wp2_with (refine wpList_load_rws rfl _ _ (by rfl) (by assumption) _ rfl #[.string q0, .string q1, .string q2, .string q3, .string q4, .string q5, .string q6] _ (by repeat (first | exact List.Mem.head _ | refine List.Mem.tail _ ?_)) _ Tryz.underlying35 rfl (by kernel_rfl) ?_)
  refine (HD.out _).mono ?_
  rintro ee w4 ⟨rfl, hb⟩
  have hR := hR.call hb
  clear hb c0 c1
  have c0 : w4.cell? ⟨w1.heap.size, 0, none⟩ = some (.string q0) := hR.cellAt (List.Mem.head _) 0 rfl
  have c1 : w4.cell? ⟨w1.heap.size, 1, none⟩ = some (.string q1) := hR.cellAt (List.Mem.head _) 1 rfl
  go_wp2_with (refine wpList_load_rws rfl _ _ (by rfl) (by assumption) _ rfl #[.string q0, .string q1, .string q2, .string q3, .string q4, .string q5, .string q6] _ (by repeat (first | exact List.Mem.head _ | refine List.Mem.tail _ ?_)) _ Tryz.underlying35 rfl (by kernel_rfl) ?_)
  refine (HP.out _).mono ?_
  rintro ee w5 ⟨rfl, hb⟩
  have hR := hR.call hb
  clear hb c0 c1
  have c0 : w5.cell? ⟨w1.heap.size, 0, none⟩ = some (.string q0) := hR.cellAt (List.Mem.head _) 0 rfl
  have c1 : w5.cell? ⟨w1.heap.size, 1, none⟩ = some (.string q1) := hR.cellAt (List.Mem.head _) 1 rfl
  go_wp2_with (refine wpList_load_rws rfl _ _ (by rfl) (by assumption) _ rfl #[.string q0, .string q1, .string q2, .string q3, .string q4, .string q5, .string q6] _ (by repeat (first | exact List.Mem.head _ | refine List.Mem.tail _ ?_)) _ Tryz.underlying35 rfl (by kernel_rfl) ?_)
  refine (HR1.out _).mono ?_
  rintro ee w6 ⟨rfl, hb⟩
  have hR := hR.call hb
  clear hb c0 c1
  have c0 : w6.cell? ⟨w1.heap.size, 0, none⟩ = some (.string q0) := hR.cellAt (List.Mem.head _) 0 rfl
  have c1 : w6.cell? ⟨w1.heap.size, 1, none⟩ = some (.string q1) := hR.cellAt (List.Mem.head _) 1 rfl
  go_wp2_with (refine wpList_load_rws rfl _ _ (by rfl) (by assumption) _ rfl #[.string q0, .string q1, .string q2, .string q3, .string q4, .string q5, .string q6] _ (by repeat (first | exact List.Mem.head _ | refine List.Mem.tail _ ?_)) _ Tryz.underlying35 rfl (by kernel_rfl) ?_)
  refine (HO1.out _).mono ?_
  rintro ee w7 ⟨rfl, hb⟩
  have hR := hR.call hb
  clear hb c0 c1
  have c0 : w7.cell? ⟨w1.heap.size, 0, none⟩ = some (.string q0) := hR.cellAt (List.Mem.head _) 0 rfl
  have c1 : w7.cell? ⟨w1.heap.size, 1, none⟩ = some (.string q1) := hR.cellAt (List.Mem.head _) 1 rfl
  go_wp2_with (refine wpList_load_rws rfl _ _ (by rfl) (by assumption) _ rfl #[.string q0, .string q1, .string q2, .string q3, .string q4, .string q5, .string q6] _ (by repeat (first | exact List.Mem.head _ | refine List.Mem.tail _ ?_)) _ Tryz.underlying35 rfl (by kernel_rfl) ?_)
  refine (HO2.out _).mono ?_
  rintro ee w8 ⟨rfl, hb⟩
  have hR := hR.call hb
  clear hb c0 c1
  have c0 : w8.cell? ⟨w1.heap.size, 0, none⟩ = some (.string q0) := hR.cellAt (List.Mem.head _) 0 rfl
  have c1 : w8.cell? ⟨w1.heap.size, 1, none⟩ = some (.string q1) := hR.cellAt (List.Mem.head _) 1 rfl
  go_wp2_with (refine wpList_load_rws rfl _ _ (by rfl) (by assumption) _ rfl #[.string q0, .string q1, .string q2, .string q3, .string q4, .string q5, .string q6] _ (by repeat (first | exact List.Mem.head _ | refine List.Mem.tail _ ?_)) _ Tryz.underlying35 rfl (by kernel_rfl) ?_)
  refine (HR2.out _).mono ?_
  rintro ee w9 ⟨rfl, hb⟩
  have hR := hR.call hb
  clear hb c0 c1
  have c0 : w9.cell? ⟨w1.heap.size, 0, none⟩ = some (.string q0) := hR.cellAt (List.Mem.head _) 0 rfl
  have c1 : w9.cell? ⟨w1.heap.size, 1, none⟩ = some (.string q1) := hR.cellAt (List.Mem.head _) 1 rfl
  have hres := hR.below
  go_wp2_with fail
  go_ret
  exact ⟨by first | rfl | simp, hres⟩
end Go.Proofs.YtjkjlbchbbpmaaaGreatDoor
/- RsaRound: for every input true. -/
namespace Go.Proofs.YtjkjlbchbbpmaaaGreatDoor
open Go.RowKit
theorem bv_rep0 (l : List UInt8) : ∀ n : Nat, bv (List.replicate n 0 ++ l) = bv l
  | 0 => rfl
  | n + 1 => by
    rw [List.replicate_succ, List.cons_append, bv_cons, bv_rep0 l n]
    simp
theorem nv_padS (v n : Nat) : nv ⟨(padS v n).toArray⟩ = v := (bv_rep0 (fm v) _).trans (bv_fm v)
theorem size_padS {v n : Nat} (h : v < 256 ^ n) : (⟨(padS v n).toArray⟩ : ByteArray).size = n := by
  have hl := (Dg.len_le_iff (by omega) v n).2 h
  rw [str_size]
  unfold padS
  rw [List.length_append, List.length_replicate, fm_length]
  omega
end Go.Proofs.YtjkjlbchbbpmaaaGreatDoor
namespace Go.Proofs.YtjkjlbchbbpmaaaGreatDoor.rsaRound
open Go.RowKit
theorem law_any (i : Int) (m : ByteArray) (w : World) (_h1 : -9223372036854775808 ≤ i) (_h2 : i ≤ 9223372036854775807) (_hs : m.size ≤ 140737488351232) :
    Calls Tryz.prog 7 #[.int .i64 i, .string m] w fun r w' => r = .returned (.bool true) ∧ Below w.heap.size w w' := by
  obtain ⟨r, hi, hr⟩ : ∃ r : Nat, (r : Int) = i % 5 ∧ r < 5 := ⟨(i % 5).toNat, by omega, by omega⟩
  by_cases hm : (512 : Int) < (m.size : Int)
  · exact round_long i m r hr hi w hm
  · have hkey := keyN_any r hr
    have hok := keyOk_known r hr
    have hkn := fun w => known_any i r hr hi w
    have z0 := kb_size r hr 0 (by omega)
    have z1 := kb_size r hr 1 (by omega)
    have z2 := (kb_size r hr 2 (by omega)).2
    have z3 := (kb_size r hr 3 (by omega)).2
    have z4 := (kb_size r hr 4 (by omega)).2
    have z5 := (kb_size r hr 5 (by omega)).2
    have z6 := (kb_size r hr 6 (by omega)).2
    have hres : res7 r = #[.string (kb r 0), .string (kb r 1), .string (kb r 2), .string (kb r 3), .string (kb r 4), .string (kb r 5), .string (kb r 6)] := rfl
    rw [hres] at hkn
    generalize kb r 0 = q0 at *
    generalize kb r 1 = q1 at *
    generalize kb r 2 = q2 at *
    generalize kb r 3 = q3 at *
    generalize kb r 4 = q4 at *
    generalize kb r 5 = q5 at *
    generalize kb r 6 = q6 at *
    clear hres
    have hP := hkey.p.pos
    have hQ := hkey.q.pos
    have hN : nv q2 * nv q3 < 256 ^ q0.size := by rw [← hkey.n]; exact nv_size q0
    have hN0 : 0 < nv q0 := by rw [hkey.n]; exact Nat.mul_pos hP hQ
    have hN2 : nv q0 < 256 ^ q0.size := nv_size q0
    obtain ⟨x, hx⟩ : ∃ x, x = nv m % nv q0 := ⟨_, rfl⟩
    have hxl : x < nv q0 := by rw [hx]; exact Nat.mod_lt _ hN0
    obtain ⟨y, hy⟩ : ∃ y, y = x ^ nv q1 % nv q0 := ⟨_, rfl⟩
    have hyl : y < nv q0 := by rw [hy]; exact Nat.mod_lt _ hN0
    obtain ⟨s, hs⟩ : ∃ s, s = crtN x (nv q2) (nv q3) (nv q4) (nv q5) (nv q6) := ⟨_, rfl⟩
    have hsl : s < nv q0 := by rw [hs, hkey.n]; exact crt_lt _ _ _ _ _ _ hP hQ
    have hback : s ^ nv q1 % nv q0 = x := by rw [hs]; exact hkey.back hxl
    have hforth : crtN y (nv q2) (nv q3) (nv q4) (nv q5) (nv q6) = x := by rw [hy]; exact hkey.forth hxl
    have sX : (⟨(padS x q0.size).toArray⟩ : ByteArray).size = q0.size := size_padS (Nat.lt_trans hxl hN2)
    have sY : (⟨(padS y q0.size).toArray⟩ : ByteArray).size = q0.size := size_padS (Nat.lt_trans hyl hN2)
    have sS : (⟨(padS s q0.size).toArray⟩ : ByteArray).size = q0.size := size_padS (Nat.lt_trans hsl hN2)
    refine round_core i m q0 q1 q2 q3 q4 q5 q6 (tx (nv m / nv q0)) (tx x) ⟨(padS x q0.size).toArray⟩ ⟨(padS s q0.size).toArray⟩ ⟨(padS y q0.size).toArray⟩ w (by omega) hkn ?_ ?_ ?_ ?_ ?_ ?_
    · intro w
      have h := div_ok m q0 (nv m) (nv q0) w (by omega) (by omega) rfl rfl hN0
      rw [← hx] at h; exact h
    · intro w
      have hl := (Dg.len_le_iff (B := 256) (by omega) x q0.size).2 (Nat.lt_trans hxl hN2)
      have hp : PadR (tx x) (q0.size : Int) = (padS x q0.size, 0) := by
        unfold PadR
        rw [nv_tx, if_neg (by omega)]; rfl
      have h := Pad_any (tx x) (q0.size : Int) w (by rw [tx_size]; omega)
      rw [hp] at h; exact h
    · intro w
      have h := raised_any ⟨(padS x q0.size).toArray⟩ q0 q1 q2 q3 q4 q5 q6 128 w (by omega) (by omega) (by omega) z2 z3 z4 z5 z6 hP hQ hN
      rw [nv_padS, ← hs] at h; exact h
    · intro w
      have h := open_any q0 q1 ⟨(padS s q0.size).toArray⟩ w (by omega) (by omega)
      have ho : OpenR q0 q1 ⟨(padS s q0.size).toArray⟩ = (padS x q0.size, 0) := by
        unfold OpenR
        rw [if_neg (fun h => h hok), nv_padS, if_neg (by omega), hback]
      rw [ho] at h; exact h
    · intro w
      have h := open_any q0 q1 ⟨(padS x q0.size).toArray⟩ w (by omega) (by omega)
      have ho : OpenR q0 q1 ⟨(padS x q0.size).toArray⟩ = (padS y q0.size, 0) := by
        unfold OpenR
        rw [if_neg (fun h => h hok), nv_padS, if_neg (by omega), ← hy]
      rw [ho] at h; exact h
    · intro w
      have h := raised_any ⟨(padS y q0.size).toArray⟩ q0 q1 q2 q3 q4 q5 q6 128 w (by omega) (by omega) (by omega) z2 z3 z4 z5 z6 hP hQ hN
      rw [nv_padS, hforth] at h; exact h
end Go.Proofs.YtjkjlbchbbpmaaaGreatDoor.rsaRound
