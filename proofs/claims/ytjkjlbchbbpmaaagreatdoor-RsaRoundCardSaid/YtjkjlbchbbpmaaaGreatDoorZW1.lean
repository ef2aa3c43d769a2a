/- WRaised WRaised2, in one text. -/
import Derived.Test.YtjkjlbchbbpmaaaGreatDoorZTFixed
import Derived.Test.YtjkjlbchbbpmaaaGreatDoorZS2
import Derived.Test.YtjkjlbchbbpmaaaGreatDoorZM
/- raised (layer 4): the walk. -/
namespace Go.Proofs.YtjkjlbchbbpmaaaGreatDoor
open Go.RowKit

set_option maxRecDepth 100000 in
set_option maxHeartbeats 3200000 in
theorem raised_core (m q0 q1 q2 q3 q4 q5 q6 a b u v x y d ea z t s out r0 r1 r4 r8 : ByteArray) (n : Int) (w : World) (hn : (q0.size : Int) = n)
    (h0 : ∀ w : World, Calls Tryz.prog 19 #[.string m, .string q2] w fun e w' => e = .returned (.tuple #[.string r0, .string a, .int .i64 0]) ∧ Below w.heap.size w w')
    (h1 : ∀ w : World, Calls Tryz.prog 19 #[.string m, .string q3] w fun e w' => e = .returned (.tuple #[.string r1, .string b, .int .i64 0]) ∧ Below w.heap.size w w')
    (h2 : ∀ w : World, Calls Tryz.prog 33 #[.string a, .string q4, .string q2] w fun e w' => e = .returned (.tuple #[.string u, .int .i64 0]) ∧ Below w.heap.size w w')
    (h3 : ∀ w : World, Calls Tryz.prog 33 #[.string b, .string q5, .string q3] w fun e w' => e = .returned (.tuple #[.string v, .int .i64 0]) ∧ Below w.heap.size w w')
    (h4 : ∀ w : World, Calls Tryz.prog 19 #[.string v, .string q2] w fun e w' => e = .returned (.tuple #[.string r4, .string x, .int .i64 0]) ∧ Below w.heap.size w w')
    (h5 : ∀ w : World, Calls Tryz.prog 45 #[.string u, .string q2] w fun e w' => e = .returned (.tuple #[.string y, .int .i64 0]) ∧ Below w.heap.size w w')
    (h6 : ∀ w : World, Calls Tryz.prog 46 #[.string y, .string x] w fun e w' => e = .returned (.tuple #[.string d, .int .i64 0]) ∧ Below w.heap.size w w')
    (h7 : ∀ w : World, Calls Tryz.prog 47 #[.string d, .string q6] w fun e w' => e = .returned (.tuple #[.string ea, .int .i64 0]) ∧ Below w.heap.size w w')
    (h8 : ∀ w : World, Calls Tryz.prog 19 #[.string ea, .string q2] w fun e w' => e = .returned (.tuple #[.string r8, .string z, .int .i64 0]) ∧ Below w.heap.size w w')
    (h9 : ∀ w : World, Calls Tryz.prog 47 #[.string z, .string q3] w fun e w' => e = .returned (.tuple #[.string t, .int .i64 0]) ∧ Below w.heap.size w w')
    (h10 : ∀ w : World, Calls Tryz.prog 45 #[.string v, .string t] w fun e w' => e = .returned (.tuple #[.string s, .int .i64 0]) ∧ Below w.heap.size w w')
    (h11 : ∀ w : World, Calls Tryz.prog 20 #[.string s, .int .i64 n] w fun e w' => e = .returned (.tuple #[.string out, .int .i64 0]) ∧ Below w.heap.size w w')
    : Calls Tryz.prog 21 #[.agg #[.string q0, .string q1, .string q2, .string q3, .string q4, .string q5, .string q6], .string m] w fun e w' => e = .returned (.tuple #[.string out, .bool true]) ∧ Below w.heap.size w w' := by
  have H0 := Lib.hid h0; have H1 := Lib.hid h1; have H2 := Lib.hid h2; have H3 := Lib.hid h3; have H4 := Lib.hid h4; have H5 := Lib.hid h5; have H6 := Lib.hid h6; have H7 := Lib.hid h7; have H8 := Lib.hid h8; have H9 := Lib.hid h9; have H10 := Lib.hid h10; have H11 := Lib.hid h11
  clear h0 h1 h2 h3 h4 h5 h6 h7 h8 h9 h10 h11
  have hR0 := Rws.start w
  go_enter Tryz.func21, Tryz.ntmps21
  go_upto_region 1 with (refine wpList_box_rws rfl _ _ (by rfl) (by assumption) _ rfl ?_; intro g w1 hR)
  have c0 : w1.cell? ⟨g, 0, none⟩ = some (.string q0) := hR.cellAt (List.Mem.head _) 0 rfl
  have c2 : w1.cell? ⟨g, 2, none⟩ = some (.string q2) := hR.cellAt (List.Mem.head _) 2 rfl
  have c3 : w1.cell? ⟨g, 3, none⟩ = some (.string q3) := hR.cellAt (List.Mem.head _) 3 rfl
  have c4 : w1.cell? ⟨g, 4, none⟩ = some (.string q4) := hR.cellAt (List.Mem.head _) 4 rfl
  have c5 : w1.cell? ⟨g, 5, none⟩ = some (.string q5) := hR.cellAt (List.Mem.head _) 5 rfl
  have c6 : w1.cell? ⟨g, 6, none⟩ = some (.string q6) := hR.cellAt (List.Mem.head _) 6 rfl
  go_wp2_with fail
  refine (H0.out _).mono ?_
  rintro ee w2 ⟨rfl, hb⟩
  have hR := hR.call hb
  clear hb c0 c2 c3 c4 c5 c6
  have c0 : w2.cell? ⟨g, 0, none⟩ = some (.string q0) := hR.cellAt (List.Mem.head _) 0 rfl
  have c2 : w2.cell? ⟨g, 2, none⟩ = some (.string q2) := hR.cellAt (List.Mem.head _) 2 rfl
  have c3 : w2.cell? ⟨g, 3, none⟩ = some (.string q3) := hR.cellAt (List.Mem.head _) 3 rfl
  have c4 : w2.cell? ⟨g, 4, none⟩ = some (.string q4) := hR.cellAt (List.Mem.head _) 4 rfl
  have c5 : w2.cell? ⟨g, 5, none⟩ = some (.string q5) := hR.cellAt (List.Mem.head _) 5 rfl
  have c6 : w2.cell? ⟨g, 6, none⟩ = some (.string q6) := hR.cellAt (List.Mem.head _) 6 rfl
  go_wp2_with fail
  refine (H1.out _).mono ?_
  rintro ee w3 ⟨rfl, hb⟩
  have hR := hR.call hb
  clear hb c0 c2 c3 c4 c5 c6
  have c0 : w3.cell? ⟨g, 0, none⟩ = some (.string q0) := hR.cellAt (List.Mem.head _) 0 rfl
  have c2 : w3.cell? ⟨g, 2, none⟩ = some (.string q2) := hR.cellAt (List.Mem.head _) 2 rfl
  have c3 : w3.cell? ⟨g, 3, none⟩ = some (.string q3) := hR.cellAt (List.Mem.head _) 3 rfl
  have c4 : w3.cell? ⟨g, 4, none⟩ = some (.string q4) := hR.cellAt (List.Mem.head _) 4 rfl
  have c5 : w3.cell? ⟨g, 5, none⟩ = some (.string q5) := hR.cellAt (List.Mem.head _) 5 rfl
  have c6 : w3.cell? ⟨g, 6, none⟩ = some (.string q6) := hR.cellAt (List.Mem.head _) 6 rfl
  go_wp2_with fail
  refine (H2.out _).mono ?_
  rintro ee w4 ⟨rfl, hb⟩
  have hR := hR.call hb
  clear hb c0 c2 c3 c4 c5 c6
  have c0 : w4.cell? ⟨g, 0, none⟩ = some (.string q0) := hR.cellAt (List.Mem.head _) 0 rfl
  have c2 : w4.cell? ⟨g, 2, none⟩ = some (.string q2) := hR.cellAt (List.Mem.head _) 2 rfl
  have c3 : w4.cell? ⟨g, 3, none⟩ = some (.string q3) := hR.cellAt (List.Mem.head _) 3 rfl
  have c4 : w4.cell? ⟨g, 4, none⟩ = some (.string q4) := hR.cellAt (List.Mem.head _) 4 rfl
  have c5 : w4.cell? ⟨g, 5, none⟩ = some (.string q5) := hR.cellAt (List.Mem.head _) 5 rfl
  have c6 : w4.cell? ⟨g, 6, none⟩ = some (.string q6) := hR.cellAt (List.Mem.head _) 6 rfl
  go_wp2_with fail
  refine (H3.out _).mono ?_
  rintro ee w5 ⟨rfl, hb⟩
  have hR := hR.call hb
  clear hb c0 c2 c3 c4 c5 c6
  have c0 : w5.cell? ⟨g, 0, none⟩ = some (.string q0) := hR.cellAt (List.Mem.head _) 0 rfl
  have c2 : w5.cell? ⟨g, 2, none⟩ = some (.string q2) := hR.cellAt (List.Mem.head _) 2 rfl
  have c3 : w5.cell? ⟨g, 3, none⟩ = some (.string q3) := hR.cellAt (List.Mem.head _) 3 rfl
  have c4 : w5.cell? ⟨g, 4, none⟩ = some (.string q4) := hR.cellAt (List.Mem.head _) 4 rfl
  have c5 : w5.cell? ⟨g, 5, none⟩ = some (.string q5) := hR.cellAt (List.Mem.head _) 5 rfl
  have c6 : w5.cell? ⟨g, 6, none⟩ = some (.string q6) := hR.cellAt (List.Mem.head _) 6 rfl
  go_wp2_with fail
  refine (H4.out _).mono ?_
  rintro ee w6 ⟨rfl, hb⟩
  have hR := hR.call hb
  clear hb c0 c2 c3 c4 c5 c6
  have c0 : w6.cell? ⟨g, 0, none⟩ = some (.string q0) := hR.cellAt (List.Mem.head _) 0 rfl
  have c2 : w6.cell? ⟨g, 2, none⟩ = some (.string q2) := hR.cellAt (List.Mem.head _) 2 rfl
  have c3 : w6.cell? ⟨g, 3, none⟩ = some (.string q3) := hR.cellAt (List.Mem.head _) 3 rfl
  have c4 : w6.cell? ⟨g, 4, none⟩ = some (.string q4) := hR.cellAt (List.Mem.head _) 4 rfl
  have c5 : w6.cell? ⟨g, 5, none⟩ = some (.string q5) := hR.cellAt (List.Mem.head _) 5 rfl
  have c6 : w6.cell? ⟨g, 6, none⟩ = some (.string q6) := hR.cellAt (List.Mem.head _) 6 rfl
  go_wp2_with fail
  refine (H5.out _).mono ?_
  rintro ee w7 ⟨rfl, hb⟩
  have hR := hR.call hb
  clear hb c0 c2 c3 c4 c5 c6
  have c0 : w7.cell? ⟨g, 0, none⟩ = some (.string q0) := hR.cellAt (List.Mem.head _) 0 rfl
  have c2 : w7.cell? ⟨g, 2, none⟩ = some (.string q2) := hR.cellAt (List.Mem.head _) 2 rfl
  have c3 : w7.cell? ⟨g, 3, none⟩ = some (.string q3) := hR.cellAt (List.Mem.head _) 3 rfl
  have c4 : w7.cell? ⟨g, 4, none⟩ = some (.string q4) := hR.cellAt (List.Mem.head _) 4 rfl
  have c5 : w7.cell? ⟨g, 5, none⟩ = some (.string q5) := hR.cellAt (List.Mem.head _) 5 rfl
  have c6 : w7.cell? ⟨g, 6, none⟩ = some (.string q6) := hR.cellAt (List.Mem.head _) 6 rfl
  go_wp2_with fail
  refine (H6.out _).mono ?_
  rintro ee w8 ⟨rfl, hb⟩
  have hR := hR.call hb
  clear hb c0 c2 c3 c4 c5 c6
  have c0 : w8.cell? ⟨g, 0, none⟩ = some (.string q0) := hR.cellAt (List.Mem.head _) 0 rfl
  have c2 : w8.cell? ⟨g, 2, none⟩ = some (.string q2) := hR.cellAt (List.Mem.head _) 2 rfl
  have c3 : w8.cell? ⟨g, 3, none⟩ = some (.string q3) := hR.cellAt (List.Mem.head _) 3 rfl
  have c4 : w8.cell? ⟨g, 4, none⟩ = some (.string q4) := hR.cellAt (List.Mem.head _) 4 rfl
  have c5 : w8.cell? ⟨g, 5, none⟩ = some (.string q5) := hR.cellAt (List.Mem.head _) 5 rfl
  have c6 : w8.cell? ⟨g, 6, none⟩ = some (.string q6) := hR.cellAt (List.Mem.head _) 6 rfl
  go_wp2_with fail
  refine (H7.out _).mono ?_
  rintro ee w9 ⟨rfl, hb⟩
  have hR := hR.call hb
  clear hb c0 c2 c3 c4 c5 c6
  have c0 : w9.cell? ⟨g, 0, none⟩ = some (.string q0) := hR.cellAt (List.Mem.head _) 0 rfl
  have c2 : w9.cell? ⟨g, 2, none⟩ = some (.string q2) := hR.cellAt (List.Mem.head _) 2 rfl
  have c3 : w9.cell? ⟨g, 3, none⟩ = some (.string q3) := hR.cellAt (List.Mem.head _) 3 rfl
  have c4 : w9.cell? ⟨g, 4, none⟩ = some (.string q4) := hR.cellAt (List.Mem.head _) 4 rfl
  have c5 : w9.cell? ⟨g, 5, none⟩ = some (.string q5) := hR.cellAt (List.Mem.head _) 5 rfl
  have c6 : w9.cell? ⟨g, 6, none⟩ = some (.string q6) := hR.cellAt (List.Mem.head _) 6 rfl
  go_wp2_with fail
  refine (H8.out _).mono ?_
  rintro ee w10 ⟨rfl, hb⟩
  have hR := hR.call hb
  clear hb c0 c2 c3 c4 c5 c6
  have c0 : w10.cell? ⟨g, 0, none⟩ = some (.string q0) := hR.cellAt (List.Mem.head _) 0 rfl
  have c2 : w10.cell? ⟨g, 2, none⟩ = some (.string q2) := hR.cellAt (List.Mem.head _) 2 rfl
  have c3 : w10.cell? ⟨g, 3, none⟩ = some (.string q3) := hR.cellAt (List.Mem.head _) 3 rfl
  have c4 : w10.cell? ⟨g, 4, none⟩ = some (.string q4) := hR.cellAt (List.Mem.head _) 4 rfl
  have c5 : w10.cell? ⟨g, 5, none⟩ = some (.string q5) := hR.cellAt (List.Mem.head _) 5 rfl
  have c6 : w10.cell? ⟨g, 6, none⟩ = some (.string q6) := hR.cellAt (List.Mem.head _) 6 rfl
  go_wp2_with fail
  refine (H9.out _).mono ?_
  rintro ee w11 ⟨rfl, hb⟩
  have hR := hR.call hb
  clear hb c0 c2 c3 c4 c5 c6
  have c0 : w11.cell? ⟨g, 0, none⟩ = some (.string q0) := hR.cellAt (List.Mem.head _) 0 rfl
  have c2 : w11.cell? ⟨g, 2, none⟩ = some (.string q2) := hR.cellAt (List.Mem.head _) 2 rfl
  have c3 : w11.cell? ⟨g, 3, none⟩ = some (.string q3) := hR.cellAt (List.Mem.head _) 3 rfl
  have c4 : w11.cell? ⟨g, 4, none⟩ = some (.string q4) := hR.cellAt (List.Mem.head _) 4 rfl
  have c5 : w11.cell? ⟨g, 5, none⟩ = some (.string q5) := hR.cellAt (List.Mem.head _) 5 rfl
  have c6 : w11.cell? ⟨g, 6, none⟩ = some (.string q6) := hR.cellAt (List.Mem.head _) 6 rfl
  go_wp2_with fail
  refine (H10.out _).mono ?_
  rintro ee w12 ⟨rfl, hb⟩
  have hR := hR.call hb
  clear hb c0 c2 c3 c4 c5 c6
  have c0 : w12.cell? ⟨g, 0, none⟩ = some (.string q0) := hR.cellAt (List.Mem.head _) 0 rfl
  have c2 : w12.cell? ⟨g, 2, none⟩ = some (.string q2) := hR.cellAt (List.Mem.head _) 2 rfl
  have c3 : w12.cell? ⟨g, 3, none⟩ = some (.string q3) := hR.cellAt (List.Mem.head _) 3 rfl
  have c4 : w12.cell? ⟨g, 4, none⟩ = some (.string q4) := hR.cellAt (List.Mem.head _) 4 rfl
  have c5 : w12.cell? ⟨g, 5, none⟩ = some (.string q5) := hR.cellAt (List.Mem.head _) 5 rfl
  have c6 : w12.cell? ⟨g, 6, none⟩ = some (.string q6) := hR.cellAt (List.Mem.head _) 6 rfl
  go_wp2_with fail
  refine (H11.out _).mono ?_
  rintro ee w13 ⟨rfl, hb⟩
  have hR := hR.call hb
  clear hb c0 c2 c3 c4 c5 c6
  have hres := hR.below
  go_wp2_with fail
  go_ret2
  exact ⟨rfl, hres⟩
end Go.Proofs.YtjkjlbchbbpmaaaGreatDoor
/- raised (layer 4): what it answers, in numbers. -/
namespace Go.Proofs.YtjkjlbchbbpmaaaGreatDoor
open Go.RowKit

set_option maxRecDepth 100000 in
set_option maxHeartbeats 1600000 in
theorem raised_any (m q0 q1 q2 q3 q4 q5 q6 : ByteArray) (k : Nat) (w : World) (hm : m.size ≤ 512) (hk : k ≤ 128) (s0 : q0.size ≤ 512)
    (s2 : q2.size ≤ k) (s3 : q3.size ≤ k) (s4 : q4.size ≤ k) (s5 : q5.size ≤ k) (s6 : q6.size ≤ k)
    (hP : 0 < nv q2) (hQ : 0 < nv q3) (hN : nv q2 * nv q3 < 256 ^ q0.size) :
    Calls Tryz.prog 21 #[.agg #[.string q0, .string q1, .string q2, .string q3, .string q4, .string q5, .string q6], .string m] w
      fun e w' => e = .returned (.tuple #[.string ⟨(padS (crtN (nv m) (nv q2) (nv q3) (nv q4) (nv q5) (nv q6)) q0.size).toArray⟩, .bool true]) ∧ Below w.heap.size w w' := by
  have b2 : nv q2 < 256 ^ k := Nat.lt_of_lt_of_le (nv_size q2) (Nat.pow_le_pow_right (by omega) s2)
  have b3 : nv q3 < 256 ^ k := Nat.lt_of_lt_of_le (nv_size q3) (Nat.pow_le_pow_right (by omega) s3)
  have b6 : nv q6 < 256 ^ k := Nat.lt_of_lt_of_le (nv_size q6) (Nat.pow_le_pow_right (by omega) s6)
  have hlt := crt_lt (nv m) (nv q2) (nv q3) (nv q4) (nv q5) (nv q6) hP hQ
  obtain ⟨c, hc⟩ : ∃ c, c = crtN (nv m) (nv q2) (nv q3) (nv q4) (nv q5) (nv q6) := ⟨_, rfl⟩
  rw [← hc] at hlt ⊢
  unfold crtN at hc
  have hlen : Dg.len 256 c ≤ q0.size := (Dg.len_le_iff (by omega) _ _).2 (Nat.lt_trans hlt hN)
  obtain ⟨M, hM⟩ : ∃ M, nv m = M := ⟨_, rfl⟩
  obtain ⟨P, hP'⟩ : ∃ P, nv q2 = P := ⟨_, rfl⟩
  obtain ⟨Q, hQ'⟩ : ∃ Q, nv q3 = Q := ⟨_, rfl⟩
  obtain ⟨Dp, hDp⟩ : ∃ Dp, nv q4 = Dp := ⟨_, rfl⟩
  obtain ⟨Dq, hDq⟩ : ∃ Dq, nv q5 = Dq := ⟨_, rfl⟩
  obtain ⟨U, hU⟩ : ∃ U, nv q6 = U := ⟨_, rfl⟩
  rw [hM, hP', hQ', hDp, hDq, hU] at hc
  rw [hP'] at b2 hP hlt hN; rw [hQ'] at b3 hQ hlt hN; rw [hU] at b6
  obtain ⟨u, hu⟩ : ∃ u, (M % P) ^ Dp % P = u := ⟨_, rfl⟩
  obtain ⟨v, hv⟩ : ∃ v, (M % Q) ^ Dq % Q = v := ⟨_, rfl⟩
  rw [hu, hv] at hc
  have lu : u < P := hu ▸ Nat.mod_lt _ hP
  have lv : v < Q := hv ▸ Nat.mod_lt _ hQ
  have lx : v % P < P := Nat.mod_lt _ hP
  have lz : (u + P - v % P) * U % P < P := Nat.mod_lt _ hP
  have la : M % P < P := Nat.mod_lt _ hP
  have lb : M % Q < Q := Nat.mod_lt _ hQ
  have e1 : (256 : Nat) ^ (k + 1) = 256 ^ k * 256 := Nat.pow_succ ..
  have e2 : (256 : Nat) ^ (k + 1 + k) = 256 ^ (k + 1) * 256 ^ k := Nat.pow_add ..
  obtain ⟨K, hK⟩ : ∃ K, (256 : Nat) ^ k = K := ⟨_, rfl⟩
  have sa : (tx (M % P)).size ≤ k := tx_le (by omega)
  have sb : (tx (M % Q)).size ≤ k := tx_le (by omega)
  have su : (tx u).size ≤ k := tx_le (by omega)
  have sv : (tx v).size ≤ k := tx_le (by omega)
  have sx : (tx (v % P)).size ≤ k := tx_le (by omega)
  have sy : (tx (u + P)).size ≤ k + 1 := tx_le (by omega)
  have sd : (tx (u + P - v % P)).size ≤ k + 1 := tx_le (by omega)
  have se : (tx ((u + P - v % P) * U)).size ≤ k + 1 + k := tx_le (by
    rw [e2]; exact Nat.mul_lt_mul_of_lt_of_lt (by omega) (by omega))
  have sz : (tx ((u + P - v % P) * U % P)).size ≤ k := tx_le (by omega)
  have st : (tx ((u + P - v % P) * U % P * Q)).size ≤ k + 1 + k := tx_le (by
    rw [e2]; exact Nat.mul_lt_mul_of_lt_of_lt (by omega) (by omega))
  refine raised_core m q0 q1 q2 q3 q4 q5 q6 (tx (M % P)) (tx (M % Q)) (tx u) (tx v) (tx (v % P)) (tx (u + P)) (tx (u + P - v % P)) (tx ((u + P - v % P) * U)) (tx ((u + P - v % P) * U % P)) (tx ((u + P - v % P) * U % P * Q)) (tx c) _ _ _ _ _ (q0.size : Int) w rfl
    (fun w => div_ok m q2 M P w (by omega) (by omega) hM hP' hP)
    (fun w => div_ok m q3 M Q w (by omega) (by omega) hM hQ' hQ)
    (fun w => ?_) (fun w => ?_)
    (fun w => div_ok (tx v) q2 v P w (by omega) (by omega) (nv_tx _) hP' hP)
    (fun w => add_ok (tx u) q2 u P w (by omega) (by omega) (nv_tx _) hP')
    (fun w => sub_ok (tx (u + P)) (tx (v % P)) _ _ w (by omega) (by omega) (nv_tx _) (nv_tx _) (by omega))
    (fun w => mul_ok (tx (u + P - v % P)) q6 _ U w (by omega) (by omega) (nv_tx _) hU)
    (fun w => div_ok (tx ((u + P - v % P) * U)) q2 _ P w (by omega) (by omega) (nv_tx _) hP' hP)
    (fun w => mul_ok (tx ((u + P - v % P) * U % P)) q3 _ Q w (by omega) (by omega) (nv_tx _) hQ')
    (fun w => ?_) (fun w => ?_)
  · have := pow_ok (tx (M % P)) q4 q2 (M % P) Dp P w (by omega) (by omega) (by omega) (nv_tx _) hDp hP' hP
    rw [hu] at this; exact this
  · have := pow_ok (tx (M % Q)) q5 q3 (M % Q) Dq Q w (by omega) (by omega) (by omega) (nv_tx _) hDq hQ' hQ
    rw [hv] at this; exact this
  · have := add_ok (tx v) (tx ((u + P - v % P) * U % P * Q)) v _ w (by omega) (by omega) (nv_tx _) (nv_tx _)
    rw [← hc] at this; exact this
  · have hp : PadR (tx c) (q0.size : Int) = (padS c q0.size, 0) := by
      unfold PadR
      rw [nv_tx, if_neg (by omega)]; rfl
    have := Pad_any (tx c) (q0.size : Int) w (by rw [tx_size]; omega)
    rw [hp] at this; exact this
end Go.Proofs.YtjkjlbchbbpmaaaGreatDoor
