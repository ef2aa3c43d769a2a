/- ZRTwo ZGS2 ZRDig, in one text. -/
import Derived.Test.YtebhiplcoioenaaGreatDoorZDI
import Derived.Test.YtebhiplcoioenaaGreatDoorZZWhole
import Derived.Test.YtebhiplcoioenaaGreatDoorZZGS
import Derived.Test.YtebhiplcoioenaaGreatDoorZDG
import Derived.Great.BuildSlice
/- ostiaryref06.two: the walk. -/
namespace Go.Proofs.YtebhiplcoioenaaGreatDoor
open Go.RowKit

set_option maxRecDepth 100000 in
set_option maxHeartbeats 4000000 in
theorem two_any (n : Nat) (w : World) (hn : n < 100) : Calls Tryz.prog 58 #[.int .i64 (n : Nat)] w fun e w' => e = .returned (.string (bs (twoT n))) ∧ Below w.heap.size w w' := by
  have hcv : ∀ u : World, (convert 68 9 (.slice (some ⟨u.heap.size, 0, none⟩) 2 2)).run Tryz.prog (u.alloc (.cells #[.int .u8 (48 + (n : Int) / 10), .int .u8 (48 + (n : Int) % 10)] 5)) = .ok (.string (bs (twoT n))) (u.alloc (.cells #[.int .u8 (48 + (n : Int) / 10), .int .u8 (48 + (n : Int) % 10)] 5)) := fun u => conv_l (twoT n) _ (by
    unfold ByC twoT
    simp only [List.map_cons, List.map_nil]
    rw [u8_lt (48 + n / 10) (by omega), u8_lt (48 + n % 10) (by omega)]
    rfl) u (by unfold twoT; simp)
  have HB := Lib.hid (b_alloc w (.cells #[.int .u8 (48 + (n : Int) / 10), .int .u8 (48 + (n : Int) % 10)] 5))
  go_enter Tryz.func58, Tryz.ntmps58
  go_wp2_with fail
  go_ret
  exact ⟨rfl, HB.out⟩
end Go.Proofs.YtebhiplcoioenaaGreatDoor
/- Further steps of soft regions: a slice of one byte, its text, numbers turned, quotients. -/
namespace Go.Proofs.YtebhiplcoioenaaGreatDoor
open Go.RowKit

theorem bin_quo2 (a b : Nat) (hb : 0 < b) (hb2 : b < 4611686018427387904) (ha : a < 4611686018427387904) (W : World) : (binOp .quo 3 (.int .i64 (a : Nat)) (.int .i64 (b : Nat))).run Tryz.prog W = .ok (.int .i64 ((a / b : Nat) : Int)) W := by
  have hq : Int.tdiv (a : Int) (b : Int) = ((a / b : Nat) : Int) := by rw [Int.tdiv_eq_ediv_of_nonneg (by omega)]; rfl
  have hl : a / b ≤ a := Nat.div_le_self a b
  have hw : IntKind.i64.wrap (Int.tdiv (a : Int) (b : Int)) = ((a / b : Nat) : Int) := by
    rw [hq]
    generalize a / b = q at *
    exact IntWalk.i64_in _ (by omega)
  rw [← hw, binOp_quo]
  unfold Op.intDiv
  simp only
  rw [if_neg (by simp; omega)]
  rfl
theorem bin_rem2 (a b : Nat) (hb : 0 < b) (hb2 : b < 4611686018427387904) (ha : a < 4611686018427387904) (W : World) : (binOp .rem 3 (.int .i64 (a : Nat)) (.int .i64 (b : Nat))).run Tryz.prog W = .ok (.int .i64 ((a % b : Nat) : Int)) W := by
  have hq : Int.tmod (a : Int) (b : Int) = ((a % b : Nat) : Int) := by rw [Int.tmod_eq_emod_of_nonneg (by omega)]; rfl
  rw [← hq, binOp_rem]
  unfold Op.intDiv
  simp only
  rw [if_neg (by simp; omega)]
  rfl
theorem bin_addZ2 (a b : Int) {r : Int} (h : IntKind.i64.wrap (a + b) = r) (W : World) : (binOp .add 3 (.int .i64 a) (.int .i64 b)).run Tryz.prog W = .ok (.int .i64 r) W := by
  rw [← h]; kernel_rfl
theorem bin_mulZ2 (a b : Int) {r : Int} (h : IntKind.i64.wrap (a * b) = r) (W : World) : (binOp .mul 3 (.int .i64 a) (.int .i64 b)).run Tryz.prog W = .ok (.int .i64 r) W := by
  rw [← h]; kernel_rfl
theorem bin_add2 (a b r : Nat) (h : a + b = r) (hr : r < 4611686018427387904) (W : World) : (binOp .add 3 (.int .i64 (a : Nat)) (.int .i64 (b : Nat))).run Tryz.prog W = .ok (.int .i64 (r : Nat)) W :=
  bin_addZ2 _ _ (by rw [IntWalk.i64_in _ (by omega)]; omega) W
theorem bin_mul2 (a b r : Nat) (h : a * b = r) (hr : r < 4611686018427387904) (W : World) : (binOp .mul 3 (.int .i64 (a : Nat)) (.int .i64 (b : Nat))).run Tryz.prog W = .ok (.int .i64 (r : Nat)) W := by
  have h3 : (a : Int) * (b : Int) = (r : Int) := by rw [← h]; push_cast; rfl
  exact bin_mulZ2 _ _ (by rw [h3]; exact IntWalk.i64_in _ (by omega)) W
theorem cvt_u8 (a : Nat) (c : UInt8) (h : c.toNat = a) (W : World) : (convert 3 5 (.int .i64 (a : Nat))).run Tryz.prog W = .ok (.int .u8 (c.toNat : Nat)) W := by
  have h1 : (convert 3 5 (.int .i64 (a : Nat))).run Tryz.prog W = .ok (.int .u8 (IntKind.u8.wrap (a : Nat))) W := by kernel_rfl
  rw [h1, IntWalk.u8_in _ (by have := c.toNat_lt; omega), h]
/-- A slice of one byte. -/
def OneB (c : UInt8) : Prd := fun w x => ∃ g, x = .slice (some ⟨g, 0, none⟩) 1 1 ∧ w.heap[g]? = some (.cells #[.int .u8 (c.toNat : Nat)] 5 (0, 0))
theorem stb_oneB (c : UInt8) : Stb (OneB c) := fun w _ _ hb ⟨g, hx, hg⟩ => ⟨g, hx, by rw [hb.block g (by have := (Array.getElem?_eq_some_iff.1 hg).1; omega)]; exact hg⟩
section
variable {B : Nat} {w0 ws : World} {L : List (Nat × Array Value × TypeId)} {full : List Oper} {a0 : Act} {K : Act → World → Prop} {n : Nat} {l : List Oper} {o : Oper} {Γ : Env}
theorem g_sl1 {x : Operand} {c : UInt8} (ho : o.op = .buildSlice 68 1 #[(0, x)]) (hx : Has ws a0 Γ x (Is (.int .u8 (c.toNat : Nat))))
    (h : softG Tryz.prog B w0 ws L full a0 K n l ((o.dst, OneB c) :: Γ)) (hlv : Live full ws a0 Γ o := by first | exact ⟨rfl, Or.inl rfl⟩ | exact live_of rfl rfl rfl (fun _ _ _ h => h)) : softG Tryz.prog B w0 ws L full a0 K (n + 1) (o :: l) Γ :=
  g_any (stb_oneB _) (fun w e _ hb hat => by
    have h1 : e x = .int .u8 (c.toNat : Nat) := hx w _ hb (hat x (by rw [ho]; exact Array.mem_singleton_self x))
    obtain ⟨i, hi, hz0, hz1, hz2⟩ := info_parts info_u8
    have h3 : (Instr.buildSlice 68 1 #[(0, Value.int .u8 (c.toNat : Nat))]).run Tryz.prog w = .ok (.slice (some ⟨w.heap.size, 0, none⟩) 1 1) (w.alloc (.cells #[.int .u8 (c.toNat : Nat)] 5)) :=
      run_buildSlice w _ _ 1 _ _ i (.int .u8 0) Tryz.underlying68 hi hz0 (by rw [hz1]; decide) (by rw [hz1]; decide) (by rw [hz1]; kernel_rfl)
    unfold execOp
    simp only [ho]
    have h4 : (Instr.buildSlice 68 1 ((#[(0, x)] : Array (Nat × Operand)).map fun p => (p.1, e p.2))).run Tryz.prog w = .ok (.slice (some ⟨w.heap.size, 0, none⟩) 1 1) (w.alloc (.cells #[.int .u8 (c.toNat : Nat)] 5)) := by
      rw [← h3]; simp [h1]
    rw [Sem.run_bind, h4]
    exact ⟨⟨_, rfl, heap_alloc_new w _⟩, (Below.refl _ _).alloc (Nat.le_refl _) _⟩) h hlv
theorem g_cvA {t1 t2 : TypeId} {x : Operand} {A : Prd} {r : Value} (ho : o.op = .convert t1 t2 x) (hx : Has ws a0 Γ x A) (hc : ∀ w v, A w v → (convert t1 t2 v).run Tryz.prog w = .ok r w)
    (h : softG Tryz.prog B w0 ws L full a0 K n l ((o.dst, Is r) :: Γ)) (hlv : Live full ws a0 Γ o := by first | exact ⟨rfl, Or.inl rfl⟩ | exact live_of rfl rfl rfl (fun _ _ _ h => h)) : softG Tryz.prog B w0 ws L full a0 K (n + 1) (o :: l) Γ :=
  g_one (x := x) (by rw [ho]; exact Array.mem_singleton_self x) hx (fun w e _ he => by
    unfold execOp
    simp only [ho]
    rw [Sem.run_bind, hc w _ he]
    rfl) h hlv
theorem g_cvn {t1 t2 : TypeId} {x : Operand} {v r : Value} (ho : o.op = .convert t1 t2 x) (hx : Has ws a0 Γ x (Is v)) (hc : ∀ w, (convert t1 t2 v).run Tryz.prog w = .ok r w)
    (h : softG Tryz.prog B w0 ws L full a0 K n l ((o.dst, Is r) :: Γ)) (hlv : Live full ws a0 Γ o := by first | exact ⟨rfl, Or.inl rfl⟩ | exact live_of rfl rfl rfl (fun _ _ _ h => h)) : softG Tryz.prog B w0 ws L full a0 K (n + 1) (o :: l) Γ :=
  g_cvA ho hx (fun w u hu => by
    obtain rfl : u = v := hu
    exact hc w) h hlv
end
theorem oneB_text {c : UInt8} {w : World} {v : Value} (h : OneB c w v) : (convert 68 9 v).run Tryz.prog w = .ok (.string (bs [c])) w := by
  obtain ⟨g, rfl, hg⟩ := h
  have ho : OwnB 0 w (.slice (some ⟨g, 0, none⟩) 1 1) [c] := ⟨by simp [ByC], Or.inr ⟨g, 1, _, rfl, Nat.zero_le _, hg, Nat.le_refl _, by unfold maxLen; omega, by simp, by simp [ByC]⟩⟩
  exact own_text ho
end Go.Proofs.YtebhiplcoioenaaGreatDoor
/- ostiaryref06.Digits: the walk (gen_zrdig.py). -/
namespace Go.Proofs.YtebhiplcoioenaaGreatDoor
open Go.RowKit

theorem conv_1 (c : UInt8) (t : Int) (ht : t = (c.toNat : Nat)) (u : World) : (convert 68 9 (.slice (some ⟨u.heap.size, 0, none⟩) 1 1)).run Tryz.prog (u.alloc (.cells #[.int .u8 t] 5)) = .ok (.string (bs [c])) (u.alloc (.cells #[.int .u8 t] 5)) :=
  conv_l [c] _ (by rw [ht]; rfl) u (by simp)
set_option maxRecDepth 100000 in
set_option maxHeartbeats 4000000 in
theorem rdig_small (n : Nat) (w : World) (hn : n < 10) : Calls Tryz.prog 44 #[.int .i64 (n : Nat)] w fun e w' => e = .returned (.string (bs [UInt8.ofNat (48 + n)])) ∧ Below w.heap.size w w' := by
  obtain ⟨c, hc⟩ : ∃ c, c = UInt8.ofNat (48 + n) := ⟨_, rfl⟩
  have hcn : c.toNat = 48 + n := by rw [hc]; exact u8_lt _ (by omega)
  have hcv := fun u => conv_1 c (48 + (n : Int)) (by omega) u
  rw [← hc]
  have HB := Lib.hid (b_alloc w (.cells #[.int .u8 (48 + (n : Int))] 5))
  clear hc hcn
  go_enter Tryz.func44, Tryz.ntmps44
  go_wp2_with fail
  go_ret
  exact ⟨rfl, HB.out⟩
set_option maxRecDepth 100000 in
set_option maxHeartbeats 4000000 in
theorem rdig_big (n : Nat) (c : UInt8) (w : World) (P : Bs) (hn : ¬ n < 10) (hn2 : n ≤ 4294967296) (hP : P.length ≤ 20) (hc : c.toNat = 48 + n % 10) (hcall : ∀ u, Calls Tryz.prog 44 #[.int .i64 (n / 10 : Nat)] u fun e w' => e = .returned (.string (bs P)) ∧ Below u.heap.size u w') : Calls Tryz.prog 44 #[.int .i64 (n : Nat)] w fun e w' => e = .returned (.string (bs (P ++ [c]))) ∧ Below w.heap.size w w' := by
  have hR := Rws.start w
  have zp := bs_size P
  have z1 : (bs [c]).size = 1 := bs_size [c]
  have HC : Hid (∀ u, Below w.heap.size w u → Calls Tryz.prog 44 #[.int .i64 (n / 10 : Nat)] u (RW (Is (.string (bs P))) u)) := Lib.hid fun u _ => (hcall u).mono fun _ _ hh => rw_below hh
  have HE : Hid (bs P ++ bs [c] = bs (P ++ [c])) := Lib.hid (bs_app2 _ _)
  have hnz : ¬ (n : Int) < 10 := by omega
  clear hcall
  go_enter Tryz.func44, Tryz.ntmps44
  go_upto_region 3 with fail
  refine wp_region_softG 9 (by kernel_rfl) (by kernel_rfl) (by rfl) hR ?_
  refine g_move (R := Is (.int .i64 (n : Nat))) (by rfl) (stb_is _) (by exact fun _ _ _ h => h) ?_
  refine g_bin (v := .int .i64 (n : Nat)) (u := .int .i64 10) (r := .int .i64 (n / 10 : Nat)) (by rfl) (by exact fun _ _ _ h => h) (by exact fun _ _ _ h => h) (by rfl) (fun W => bin_quo2 _ _ (by decide) (by decide) (by omega) W) ?_
  refine g_callK (f := 44) (xs := [.tmp 11]) [.int .i64 (n / 10 : Nat)] (R := Is (.string (bs P))) (by rfl) Tryz.func44 (by kernel_rfl) rfl (stb_is _) ⟨(by exact fun _ _ _ h => h), trivial⟩ (HC.out) ?_
  refine g_move (R := Is (.int .i64 (n : Nat))) (by rfl) (stb_is _) (by exact fun _ _ _ h => h) ?_
  refine g_bin (v := .int .i64 (n : Nat)) (u := .int .i64 10) (r := .int .i64 (n % 10 : Nat)) (by rfl) (by exact fun _ _ _ h => h) (by exact fun _ _ _ h => h) (by rfl) (fun W => bin_rem2 _ _ (by decide) (by decide) (by omega) W) ?_
  refine g_bin (v := .int .i64 48) (u := .int .i64 (n % 10 : Nat)) (r := .int .i64 (48 + n % 10 : Nat)) (by rfl) (by exact fun _ _ _ h => h) (by exact fun _ _ _ h => h) (by rfl) (fun W => bin_add2 48 _ _ rfl (by omega) W) ?_
  refine g_cvn (v := .int .i64 (48 + n % 10 : Nat)) (r := .int .u8 (c.toNat : Nat)) (by rfl) (by exact fun _ _ _ h => h) (fun W => cvt_u8 _ c hc W) ?_
  refine g_sl1 (c := c) (by rfl) (by exact fun _ _ _ h => h) ?_
  refine g_cvA (A := OneB c) (by rfl) (by exact fun _ _ _ h => h) (fun _ _ h => oneB_text h) ?_
  intro w16 hR16 hb16 v10 h10 v11 h11 v12 h12 v13 h13 v14 h14 v15 h15 v16 h16 v17 h17 v18 h18
  simp only [softEnd, Act.put, List.setIfInBounds_toArray, List.set_cons_succ, List.set_cons_zero, List.drop_succ_cons, List.drop_zero]
  obtain rfl : v12 = .string (bs P) := h12
  obtain rfl : v18 = .string (bs [c]) := h18
  clear h10 h11 h13 h14 h15 h16 h17
  go_wp2_with fail
  go_ret
  rw [HE.out]
  exact ⟨rfl, hR16.below⟩
theorem RDigits_any : ∀ (n : Nat), n ≤ 4294967296 → ∀ w : World, Calls Tryz.prog 44 #[.int .i64 (n : Nat)] w fun e w' => e = .returned (.string (bs (numT n))) ∧ Below w.heap.size w w' := by
  intro n
  induction n using Nat.strongRecOn with
  | ind n ih =>
    intro hn w
    by_cases h : n < 10
    · rw [numT_small h]
      exact rdig_small n w h
    · rw [numT_big h]
      exact rdig_big n _ w (numT (n / 10)) h hn (Nat.le_trans (numT_len (k := 10) (by omega)) (by decide)) (u8_lt _ (by omega)) (ih (n / 10) (by omega) (by omega))
end Go.Proofs.YtebhiplcoioenaaGreatDoor
