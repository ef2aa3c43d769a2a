/- Ver EVerAny, in one text. -/
import Derived.Test.YtaggpodckafbgaaGreatDoorZM
import Derived.Test.YtaggpodckafbgaaGreatDoorZV2
import Derived.Test.YtaggpodckafbgaaGreatDoorZA0
/- Plain: what a signature is, and why what was signed is one. -/
namespace Go.Proofs.YtaggpodckafbgaaGreatDoor.Ec
def ivN (n a : Nat) : Nat := a ^ (n - 2) % n
theorem ivN_ok {n a : Nat} (hn : Prime n) (ha : a % n ≠ 0) : a * ivN n a % n = 1 := by
  have hd : ¬ n ∣ a := fun h => ha (Nat.mod_eq_zero_of_dvd h)
  have h := fermat hn hd
  have h2 := hn.1
  unfold ivN
  rw [Nat.mul_mod_mod, Nat.mul_comm, ← Nat.pow_succ, show (n - 2).succ = n - 1 by omega, h, Nat.mod_eq_of_lt (by omega)]
theorem ivN_lt {n : Nat} (hn : Prime n) (a : Nat) : ivN n a < n := Nat.mod_lt _ hn.pos
def xN : Pt P → Option Nat
  | .inf => none
  | .at x _ => some (x.val % N)
def verP (A : Pt P) (h r t : Nat) : Bool :=
  decide (r ≠ 0 ∧ r < N ∧ t ≠ 0 ∧ t < N ∧ xN (addA (nA G (h * ivN N t % N)) (nA A (r * ivN N t % N))) = some r)
theorem verP_r0 (A : Pt P) (h t : Nat) : verP A h 0 t = false := by
  unfold verP; rw [decide_eq_false_iff_not]; exact fun hh => hh.1 rfl
theorem verP_t0 (A : Pt P) (h r : Nat) : verP A h r 0 = false := by
  unfold verP; rw [decide_eq_false_iff_not]; exact fun hh => hh.2.2.1 rfl
theorem verP_rN (A : Pt P) (h t : Nat) {r : Nat} (hr : N ≤ r) : verP A h r t = false := by
  unfold verP; rw [decide_eq_false_iff_not]; exact fun hh => absurd hh.2.1 (by omega)
theorem verP_tN (A : Pt P) (h r : Nat) {t : Nat} (ht : N ≤ t) : verP A h r t = false := by
  unfold verP; rw [decide_eq_false_iff_not]; exact fun hh => absurd hh.2.2.2.1 (by omega)
end Go.Proofs.YtaggpodckafbgaaGreatDoor.Ec
/- Verify: whether bytes are a signature, by the points. -/
namespace Go.Proofs.YtaggpodckafbgaaGreatDoor
open Go.RowKit
def verR (kx ky s sig : ByteArray) : Bool := match inK kx ky with
  | some (.at x y) => if sig.size = 64 then Ec.verP (.at x y) (nv (sha s)) (nv (sig.extract 0 32)) (nv (sig.extract 32 sig.size)) else false
  | _ => false
set_option maxRecDepth 100000 in
theorem verify_chk (kx ky s sig : ByteArray) (w : World) (h0 : ¬ checkR kx ky = 0) : Calls Tryz.prog 19 #[.agg (kvc kx ky), .string s, .string sig] w fun e w' => e = .returned (.bool false) ∧ Below w.heap.size w w' := by
  have HC := Lib.hid (fun w => Check_any kx ky w)
  have hR0 := Rws.start w
  go_enter Tryz.func19, Tryz.ntmps19
  go_wp2_with (first
    | (refine wK_box rfl (by rfl) (by assumption) rfl ?_; intro gk w1 hR)
    | (refine wK_load rfl (by rfl) (by assumption) rfl (by repeat (first | exact pzH | refine pzM ?_)) rfl ?_)
    | (go_at_call 11; refine (HC.out _).mono ?_; rintro e w1 ⟨rfl, hb1⟩; have hR := Rws.call (by assumption) hb1))
  go_ret
  exact ⟨rfl, Rws.below (by assumption)⟩
theorem pp1 : pp 1 = Ec.N := rfl
theorem N_lt : Ec.N < 115792089237316195423570985008687907853269984665640564039457584007913129639936 := by decide
theorem N_two : 2 ≤ Ec.N := by decide
theorem lt_N {x : Nat} (h : x < Ec.N) : x < 115792089237316195423570985008687907853269984665640564039457584007913129639936 := Nat.lt_trans h N_lt
theorem verify_at (kx ky s sig : ByteArray) (x y : Ec.F) (w : World) (hK : inK kx ky = some (.at x y)) (hl : sig.size = 64) (hs : s.size ≤ 281474976710656) :
    Calls Tryz.prog 19 #[.agg (kvc kx ky), .string s, .string sig] w fun e w' => e = .returned (.bool (Ec.verP (.at x y) (nv (sha s)) (nv (sig.extract 0 32)) (nv (sig.extract 32 sig.size)))) ∧ Below w.heap.size w w' := by
  have hchk : checkR kx ky = 0 := by unfold checkR; rw [hK]
  have h1 := fun w => Check_any kx ky w
  rw [hchk] at h1
  have s1 : (sig.extract 0 32).size = 32 := by rw [ByteArray.size_extract]; omega
  have s2 : (sig.extract 32 sig.size).size = 32 := by rw [ByteArray.size_extract, Nat.min_self]; omega
  have h2 := fun w => number_any (sig.extract 0 32) s1 w
  have h3 := fun w => number_any (sig.extract 32 sig.size) s2 w
  have rl := nv_lt32 (Nat.le_of_eq s1)
  have tl := nv_lt32 (Nat.le_of_eq s2)
  generalize nv (sig.extract 0 32) = r at *
  generalize nv (sig.extract 32 sig.size) = t at *
  have h4 := fun w => einv_any 1 t w tl
  have h5 := fun w => modulus_any 1 w
  have hB : Big Ec.N := pp_big 1
  have h6 := fun w => below_any r Ec.N w rl hB
  have h7 := fun w => below_any t Ec.N w tl hB
  rw [pp1] at h4 h5
  have hN0 : 0 < Ec.N := by have := N_two; omega
  have rml : r % Ec.N < 115792089237316195423570985008687907853269984665640564039457584007913129639936 := lt_N (Nat.mod_lt _ hN0)
  have tml : t % Ec.N < 115792089237316195423570985008687907853269984665640564039457584007913129639936 := lt_N (Nat.mod_lt _ hN0)
  by_cases c1 : r = 0
  · have e : Ec.verP (.at x y) (nv (sha s)) r t = false := by rw [c1]; exact Ec.verP_r0 _ _ _
    rw [e]
    exact verify_no0 kx ky s sig r t _ Ec.N (r % Ec.N) (t % Ec.N) _ w hl rl tl rml tml (decide_eq_true c1) h1 h2 h3 h4 h5 h6 h7
  by_cases c2 : t % Ec.N = 0
  · have e : Ec.verP (.at x y) (nv (sha s)) r t = false := by
      by_cases t0 : t = 0
      · rw [t0]; exact Ec.verP_t0 _ _ _
      · refine Ec.verP_tN _ _ _ ?_
        rcases Nat.lt_or_ge t Ec.N with h | h
        · rw [Nat.mod_eq_of_lt h] at c2; exact absurd c2 t0
        · exact h
    rw [e]
    rw [decide_eq_false (fun h => h c2)] at h4
    exact verify_no1 kx ky s sig r t _ Ec.N (r % Ec.N) (t % Ec.N) w hl rl tl rml tml (decide_eq_false c1) h1 h2 h3 h4 h5 h6 h7
  rw [decide_eq_true c2, if_neg c2] at h4
  by_cases c3' : Ec.N ≤ r
  · have e : Ec.verP (.at x y) (nv (sha s)) r t = false := Ec.verP_rN _ _ _ (by omega)
    rw [e]
    refine verify_no2 kx ky s sig r t _ Ec.N (r % Ec.N) (t % Ec.N) w hl rl tl rml tml (decide_eq_false c1) ?_ h1 h2 h3 h4 h5 h6 h7
    rw [decide_eq_false (fun h => by have := Nat.mod_lt r hN0; omega)]; rfl
  have c3 : r < Ec.N := by omega
  by_cases c4' : Ec.N ≤ t
  · have e : Ec.verP (.at x y) (nv (sha s)) r t = false := Ec.verP_tN _ _ _ (by omega)
    rw [e]
    refine verify_no3 kx ky s sig r t _ Ec.N (r % Ec.N) (t % Ec.N) w hl rl tl rml tml (decide_eq_false c1) ?_ ?_ h1 h2 h3 h4 h5 h6 h7
    · rw [decide_eq_true (Nat.mod_eq_of_lt c3)]; rfl
    · rw [decide_eq_false (fun h => by have := Nat.mod_lt t hN0; omega)]; rfl
  have c4 : t < Ec.N := by omega
  rw [Nat.mod_eq_of_lt c3] at h6
  rw [Nat.mod_eq_of_lt c4] at h7 c2
  obtain ⟨i, hi⟩ : ∃ i, i = t ^ (Ec.N - 2) % Ec.N := ⟨_, rfl⟩
  have hil : i < 115792089237316195423570985008687907853269984665640564039457584007913129639936 := by rw [hi]; exact lt_N (Nat.mod_lt _ hN0)
  have hiv : i = Ec.ivN Ec.N t := hi
  rw [← hi] at h4
  have h8 := fun w => base_any w
  have h9 := fun w => of_some (inK_out (A := Ec.G) Ec.G_on) w
  have h10 := fun w => of_some hK w
  have h11 := fun w => sum256_any s hs w
  have h12 := fun w => number_any (sha s) (sha_size s) w
  have hvl := nv_lt32 (Nat.le_of_eq (sha_size s))
  generalize nv (sha s) = hv at *
  have h13 := fun w => times_any 1 hv i w hvl hil
  have h15 := fun w => times_any 1 r i w rl hil
  rw [pp1] at h13 h15
  obtain ⟨u, hu⟩ : ∃ u, u = hv * i % Ec.N := ⟨_, rfl⟩
  obtain ⟨v, hvv⟩ : ∃ v, v = r * i % Ec.N := ⟨_, rfl⟩
  have hul : u < 115792089237316195423570985008687907853269984665640564039457584007913129639936 := by rw [hu]; exact lt_N (Nat.mod_lt _ hN0)
  have hvl2 : v < 115792089237316195423570985008687907853269984665640564039457584007913129639936 := by rw [hvv]; exact lt_N (Nat.mod_lt _ hN0)
  rw [← hu] at h13
  rw [← hvv] at h15
  have h14 := fun w => multiple_any (Ec.Jac.of Ec.G) u w hul
  have h16 := fun w => multiple_any (Ec.Jac.of (.at x y)) v w hvl2
  have oA : Ec.On (.at x y) := inK_on hK
  have rG : Ec.Rep (Ec.mulJ (Ec.Jac.of Ec.G) 256 u) (Ec.nA Ec.G u) := by
    rw [← Ec.mulN_nA Ec.G_on]
    exact Ec.rep_mulJ Ec.hP Ec.two_ne Ec.G_on (Ec.rep_of Ec.hP Ec.G) 256 u hul
  have rA : Ec.Rep (Ec.mulJ (Ec.Jac.of (.at x y)) 256 v) (Ec.nA (.at x y) v) := by
    rw [← Ec.mulN_nA oA]
    exact Ec.rep_mulJ Ec.hP Ec.two_ne oA (Ec.rep_of Ec.hP (.at x y)) 256 v hvl2
  generalize Ec.mulJ (Ec.Jac.of Ec.G) 256 u = j3 at *
  generalize Ec.mulJ (Ec.Jac.of (.at x y)) 256 v = j4 at *
  have h17 := fun w => padd_any j3 j4 w
  have rS := Ec.Rep.add Ec.hP Ec.two_ne rG rA (Ec.On.nA Ec.G_on u) (Ec.On.nA oA v)
  have h18 := fun w => key_rep _ _ rS w
  have ev : Ec.verP (.at x y) hv r t = decide (Ec.xN (Ec.addA (Ec.nA Ec.G u) (Ec.nA (.at x y) v)) = some r) := by
    unfold Ec.verP
    rw [← hiv, ← hu, ← hvv]
    exact decide_eq_decide.2 ⟨fun h => h.2.2.2.2, fun h => ⟨c1, c3, c2, c4, h⟩⟩
  rw [ev]
  clear ev rS rG rA
  generalize j3.add j4 = j5 at *
  have e1 : (!decide (r = r)) = false := by simp
  have e2 : (!decide (t = t)) = false := by simp
  generalize Ec.addA (Ec.nA Ec.G u) (Ec.nA (.at x y) v) = R at *
  cases R with
  | inf =>
    have e : decide (Ec.xN (.inf : Ec.Pt Ec.P) = some r) = false := decide_eq_false (fun h => by cases h)
    rw [e]
    exact verify_far kx ky s sig _ _ _ _ _ _ _ _ _ j5 r t i Ec.N r t hv u v w hl rl tl rl tl (decide_eq_false c1) e1 e2 (by rw [toList_nil]; rfl) h1 h2 h3 h4 h5 h6 h7 h8 h9 h10 h11 h12 h13 h14 h15 h16 h17 h18
  | «at» X Y =>
    have sx : (outK (.at X Y)).1.size = 32 := pb_size _ _
    have vx : nv (outK (.at X Y)).1 = X.val := nv_pb (F_lt X)
    have h19 := fun w => number_any (outK (.at X Y)).1 sx w
    rw [vx] at h19
    have h20 := fun w => below_any X.val Ec.N w (F_lt X) hB
    have e : decide (Ec.xN (.at X Y) = some r) = decide (X.val % Ec.N = r) := decide_eq_decide.2 ⟨fun h => Option.some.inj h, fun h => congrArg some h⟩
    rw [e]
    exact verify_yes kx ky s sig _ _ _ _ _ _ _ _ _ j5 r t i Ec.N r t hv u v X.val (X.val % Ec.N) _ w hl rl tl rl tl (decide_eq_false c1) e1 e2 (by rw [toList_nil, decide_eq_false (by omega)]; rfl) (lt_N (Nat.mod_lt _ hN0)) rfl h1 h2 h3 h4 h5 h6 h7 h8 h9 h10 h11 h12 h13 h14 h15 h16 h17 h18 h19 h20
theorem ecVerify_any (kx ky s sig : ByteArray) (w : World) (hs : s.size ≤ 281474976710656) :
    Calls Tryz.prog 19 #[.agg (kvc kx ky), .string s, .string sig] w fun e w' => e = .returned (.bool (verR kx ky s sig)) ∧ Below w.heap.size w w' := by
  unfold verR
  cases hK : inK kx ky with
  | none => exact verify_chk kx ky s sig w (by unfold checkR; rw [hK]; decide)
  | some A =>
    cases A with
    | inf => exact verify_chk kx ky s sig w (by unfold checkR; rw [hK]; decide)
    | «at» x y =>
      by_cases hl : sig.size = 64
      · simp only [if_pos hl]
        exact verify_at kx ky s sig x y w hK hl hs
      · simp only [if_neg hl]
        exact Verify_len kx ky s sig w hl
end Go.Proofs.YtaggpodckafbgaaGreatDoor
