/- TCheck TOpen, in one text. -/
import Derived.Test.YtjkjlbchbbpmaaaGreatDoorZX1
import Derived.Test.YtjkjlbchbbpmaaaGreatDoorZX3
import Derived.Test.YtjkjlbchbbpmaaaGreatDoorZR0
import Derived.Test.YtjkjlbchbbpmaaaGreatDoorZR9
import Derived.Test.YtjkjlbchbbpmaaaGreatDoorZS2
/- The reference's Check (layer 4): the walk. -/
namespace Go.Proofs.YtjkjlbchbbpmaaaGreatDoor
open Go.RowKit

theorem run_eqs (a b : ByteArray) (W : World) : (binOp .eql 9 (.string a) (.string b)).run Tryz.prog W = .ok (.bool (a.toList == b.toList)) W := rfl
theorem run_geqi (a b : Int) (W : World) : (binOp .geq 3 (.int .i64 a) (.int .i64 b)).run Tryz.prog W = .ok (.bool (decide (b ≤ a))) W := by
  simp [binOp, go_sem]
theorem run_leqi (a b : Int) (W : World) : (binOp .leq 3 (.int .i64 a) (.int .i64 b)).run Tryz.prog W = .ok (.bool (decide (a ≤ b))) W := by
  simp [binOp, go_sem]
theorem run_equ (a b : Int) (W : World) : (binOp .eql 51 (.int .u64 a) (.int .u64 b)).run Tryz.prog W = .ok (.bool (a == b)) W := by
  simp [binOp, go_sem]

/-- A slice that reads as the number. -/
def NV (v : Nat) : Prd := fun w u => ∃ ao n c, u = .slice ao n c ∧ RN w ao n c v
theorem stb_nv (v : Nat) : Stb (NV v) := fun _ _ _ hb ⟨ao, n, c, hu, hr⟩ => ⟨ao, n, c, hu, hr.below hb (Nat.le_refl _)⟩
theorem nv_le {w : World} {ao : Option Addr} {n c : Nat} (s : ByteArray) (hs : s.size ≤ 10000) (h : RN w ao n c (nv s)) : n ≤ 10000 := by
  obtain ⟨k, hk⟩ : ∃ k, k = 10000 := ⟨_, rfl⟩
  rw [← hk] at hs ⊢
  refine h.le ?_
  have h1 := nv_size s
  refine Nat.lt_of_lt_of_le h1 ?_
  rw [show DB = 256 ^ 2 from rfl, ← Nat.pow_mul]
  exact Nat.pow_le_pow_right (by omega) (by omega)
theorem call_of (s : ByteArray) (hs : s.size ≤ 10000) (w : World) (v : Value) (h : Is (.string s) w v) : Calls Tryz.prog 27 #[v] w fun en w' => ∃ u, en = .returned u ∧ NV (nv s) w' u ∧ Below w.heap.size w w' := by
  obtain rfl : v = .string s := h
  exact (of_any s w (by omega)).mono fun e w' ⟨ro, k, cap, he, hr, hb⟩ => ⟨_, he, ⟨ro, k, cap, rfl, hr⟩, hb⟩
theorem call_form (s : ByteArray) (hs : s.size ≤ 10000) (w : World) (v : Value) (h : NV (nv s) w v) : Calls Tryz.prog 28 #[v] w fun en w' => ∃ u, en = .returned u ∧ Is (.string ⟨(fm (nv s)).toArray⟩) w' u ∧ Below w.heap.size w w' := by
  obtain ⟨ao, n, c, rfl, hr⟩ := h
  exact (rform_any ao n c _ w hr (Nat.le_trans (nv_le s hs hr) (by omega))).mono fun e w' ⟨he, hb⟩ => ⟨_, he, rfl, hb⟩
theorem call_bit (s : ByteArray) (w : World) (v u : Value) (h : NV (nv s) w v) (hu : Is (.int .i64 0) w u) : Calls Tryz.prog 29 #[v, u] w fun en w' => ∃ u, en = .returned u ∧ Is (.int .u64 ((nv s % 2 : Nat) : Int)) w' u ∧ Below w.heap.size w w' := by
  obtain ⟨ao, n, c, rfl, hr⟩ := h
  obtain rfl : u = .int .i64 0 := hu
  refine (bit_any ao n c _ 0 w hr (by omega)).mono fun e w' ⟨he, hw⟩ => ⟨_, he, ?_, by rw [← hw]; exact Below.refl _ _⟩
  show Value.int .u64 _ = _
  unfold Dg.dg
  rw [Nat.pow_zero, Nat.div_one]
theorem call_bits (s : ByteArray) (hs : s.size ≤ 10000) (w : World) (v : Value) (h : NV (nv s) w v) : Calls Tryz.prog 30 #[v] w fun en w' => ∃ u, en = .returned u ∧ Is (.int .i64 ((bitsS s : Nat) : Int)) w' u ∧ Below w.heap.size w w' := by
  obtain ⟨ao, n, c, rfl, hr⟩ := h
  exact (bits_any ao n c _ w hr (Nat.le_trans (nv_le s hs hr) (by omega))).mono fun e w' ⟨he, hw⟩ => ⟨_, he, rfl, by rw [← hw]; exact Below.refl _ _⟩
theorem call_cmp (a b : Nat) (w : World) (v u : Value) (h : NV a w v) (h2 : NV b w u) : Calls Tryz.prog 31 #[v, u] w fun en w' => ∃ u, en = .returned u ∧ Is (.int .i64 (cmpN a b)) w' u ∧ Below w.heap.size w w' := by
  obtain ⟨ao, n, c, rfl, hr⟩ := h
  obtain ⟨bo, m, d, rfl, hr2⟩ := h2
  exact (rcmp_any ao bo n c m d a b w hr hr2).mono fun e w' ⟨he, q, hw⟩ => ⟨_, he, rfl, by rw [hw]; exact below_drewN (Below.refl _ _) q⟩

theorem keyOk_tests (n e : ByteArray) : decide (KeyOk n e) = (((⟨(fm (nv n)).toArray⟩ : ByteArray).toList == n.toList) && ((⟨(fm (nv e)).toArray⟩ : ByteArray).toList == e.toList) && (((nv n % 2 : Nat) : Int) == 1) && (((nv e % 2 : Nat) : Int) == 1) && decide ((512 : Int) ≤ ((bitsS n : Nat) : Int)) && decide (((bitsS n : Nat) : Int) ≤ (2048 : Int)) && decide ((0 : Int) ≤ cmpN (nv e) 3) && decide (((bitsS e : Nat) : Int) ≤ (32 : Int))) := by
  have h3 : nv e % 2 = 1 → ((0 : Int) ≤ cmpN (nv e) 3 ↔ 2 ≤ bitsS e) := fun h => by
    have h1 := Dg.len_le_iff (B := 2) (by omega) (nv e) 1
    have h2 : (0 : Int) ≤ cmpN (nv e) 3 ↔ 3 ≤ nv e := by
      rcases cmpN_three (nv e) 3 with ⟨a, b⟩ | ⟨a, b⟩ | ⟨a, b⟩ <;> rw [b] <;> omega
    rw [h2]
    unfold bitsS
    omega
  have e1 : ∀ s : ByteArray, (⟨(fm (nv s)).toArray⟩ : ByteArray).toList = s.toList ↔ fm (nv s) = s.data.toList := fun s => by
    rw [Lib.toList_data, Lib.toList_data]
  rw [Bool.eq_iff_iff]
  simp only [decide_eq_true_eq, Bool.and_eq_true, beq_iff_eq, e1]
  unfold KeyOk oddS
  constructor
  · rintro ⟨⟨a1, a2⟩, ⟨a3, a4⟩, a5, a6, a7, a8⟩
    exact ⟨⟨⟨⟨⟨⟨⟨a1, a3⟩, by omega⟩, by omega⟩, by omega⟩, by omega⟩, (h3 a4).2 a7⟩, by omega⟩
  · rintro ⟨⟨⟨⟨⟨⟨⟨a1, a3⟩, a2⟩, a4⟩, a5⟩, a6⟩, a7⟩, a8⟩
    exact ⟨⟨a1, by omega⟩, ⟨a3, by omega⟩, by omega, by omega, (h3 (by omega)).1 a7, by omega⟩
theorem three_len : Dg.len DB 3 = 1 := by
  refine Nat.le_antisymm ((Dg.len_le_iff DB2 3 1).2 (by rw [DB_eq]; omega)) ?_
  have := (Dg.len_pos_iff DB2 3).2 (by omega)
  omega
theorem rn_three (w : World) : RN (w.alloc (.cells #[.int .u64 3] 51)) (some ⟨w.heap.size, 0, none⟩) 1 1 3 := by
  refine ⟨three_len.symm, Sh.some _ _ _, Nat.le_refl _, by decide, fun j hj => ?_⟩
  obtain rfl : j = 0 := by omega
  rw [blk_some, off_some]
  have h := new_cells w #[.int .u64 3] 51 0 _ rfl
  rw [Addr.add_lit] at h
  rw [h]
  show some (Value.int .u64 3) = some (.int .u64 ((Dg.dg DB 3 0 : Nat) : Int))
  rw [show Dg.dg DB 3 0 = 3 from rfl]; rfl
section
variable {B : Nat} {w0 ws : World} {L : List (Nat × Array Value × TypeId)} {full : List Oper} {a0 : Act} {K : Act → World → Prop} {n : Nat} {l : List Oper} {o : Oper} {Γ : Env}
theorem g_three (ho : o.op = .buildSlice 48 1 #[(0, .const (.int .u64 3))])
    (h : softG Tryz.prog B w0 ws L full a0 K n l ((o.dst, NV 3) :: Γ)) (hlv : Live full ws a0 Γ o := by first | exact Or.inl rfl | exact live_of rfl rfl (fun _ _ _ h => h)) : softG Tryz.prog B w0 ws L full a0 K (n + 1) (o :: l) Γ :=
  g_any (stb_nv 3) (fun w e _ _ hat => by
    have he : e (.const (.int .u64 3)) = .int .u64 3 := hat (.const (.int .u64 3)) (by
      rw [ho]
      exact Array.mem_singleton_self _)
    obtain ⟨i, hi, hz0, hz1, hz2⟩ := info_parts info64
    have h1 : (Instr.buildSlice 48 1 #[(0, Value.int .u64 3)]).run Tryz.prog w = .ok (.slice (some ⟨w.heap.size, 0, none⟩) 1 1) (w.alloc (.cells #[.int .u64 3] 51)) :=
      run_buildSlice w _ _ 1 _ _ i (.int .u64 0) Tryz.underlying48 hi hz0 (by rw [hz1]; decide) (by rw [hz1]; decide) (by rw [hz1]; kernel_rfl)
    unfold execOp
    simp only [ho]
    have h2 : (Instr.buildSlice 48 1 ((#[(0, .const (.int .u64 3))] : Array (Nat × Operand)).map fun p => (p.1, e p.2))).run Tryz.prog w = .ok (.slice (some ⟨w.heap.size, 0, none⟩) 1 1) (w.alloc (.cells #[.int .u64 3] 51)) := by
      rw [← h1]; simp [he]
    rw [Sem.run_bind, h2]
    exact ⟨⟨_, _, _, rfl, rn_three w⟩, (Below.refl _ _).alloc (Nat.le_refl _) _⟩) h hlv
end

set_option maxRecDepth 100000 in
set_option maxHeartbeats 3200000 in
theorem rcheck_any (n e : ByteArray) (w : World) (hn : n.size ≤ 10000) (he : e.size ≤ 10000) :
    Calls Tryz.prog 11 #[.agg #[.string n, .string e]] w fun r w' => r = .returned (.bool (decide (KeyOk n e))) ∧ Below w.heap.size w w' := by
  obtain ⟨b1, B1⟩ : ∃ b1, b1 = ((⟨(fm (nv n)).toArray⟩ : ByteArray).toList == n.toList) := ⟨_, rfl⟩
  obtain ⟨b2, B2⟩ : ∃ b2, b2 = ((⟨(fm (nv e)).toArray⟩ : ByteArray).toList == e.toList) := ⟨_, rfl⟩
  have F1 : ∀ W : World, (binOp .eql 9 (.string ⟨(fm (nv n)).toArray⟩) (.string n)).run Tryz.prog W = .ok (.bool b1) W := fun W => by rw [B1]; exact run_eqs _ _ W
  have F2 : ∀ W : World, (binOp .eql 9 (.string ⟨(fm (nv e)).toArray⟩) (.string e)).run Tryz.prog W = .ok (.bool b2) W := fun W => by rw [B2]; exact run_eqs _ _ W
  obtain ⟨b3, B3⟩ : ∃ b3, b3 = (((nv n % 2 : Nat) : Int) == 1) := ⟨_, rfl⟩
  obtain ⟨b4, B4⟩ : ∃ b4, b4 = (((nv e % 2 : Nat) : Int) == 1) := ⟨_, rfl⟩
  obtain ⟨b5, B5⟩ : ∃ b5, b5 = decide ((512 : Int) ≤ ((bitsS n : Nat) : Int)) := ⟨_, rfl⟩
  obtain ⟨b6, B6⟩ : ∃ b6, b6 = decide (((bitsS n : Nat) : Int) ≤ (2048 : Int)) := ⟨_, rfl⟩
  obtain ⟨b7, B7⟩ : ∃ b7, b7 = decide ((0 : Int) ≤ cmpN (nv e) 3) := ⟨_, rfl⟩
  obtain ⟨b8, B8⟩ : ∃ b8, b8 = decide (((bitsS e : Nat) : Int) ≤ (32 : Int)) := ⟨_, rfl⟩
  have F3 : ∀ W : World, (binOp .eql 51 (.int .u64 ((nv n % 2 : Nat) : Int)) (.int .u64 1)).run Tryz.prog W = .ok (.bool b3) W := fun W => by rw [B3]; exact run_equ _ _ W
  have F4 : ∀ W : World, (binOp .eql 51 (.int .u64 ((nv e % 2 : Nat) : Int)) (.int .u64 1)).run Tryz.prog W = .ok (.bool b4) W := fun W => by rw [B4]; exact run_equ _ _ W
  have F5 : ∀ W : World, (binOp .geq 3 (.int .i64 ((bitsS n : Nat) : Int)) (.int .i64 512)).run Tryz.prog W = .ok (.bool b5) W := fun W => by rw [B5]; exact run_geqi _ _ W
  have F6 : ∀ W : World, (binOp .leq 3 (.int .i64 ((bitsS n : Nat) : Int)) (.int .i64 2048)).run Tryz.prog W = .ok (.bool b6) W := fun W => by rw [B6]; exact run_leqi _ _ W
  have F7 : ∀ W : World, (binOp .geq 3 (.int .i64 (cmpN (nv e) 3)) (.int .i64 0)).run Tryz.prog W = .ok (.bool b7) W := fun W => by rw [B7]; exact run_geqi _ _ W
  have F8 : ∀ W : World, (binOp .leq 3 (.int .i64 ((bitsS e : Nat) : Int)) (.int .i64 32)).run Tryz.prog W = .ok (.bool b8) W := fun W => by rw [B8]; exact run_leqi _ _ W
  have hfin : decide (KeyOk n e) = (b1 && b2 && b3 && b4 && b5 && b6 && b7 && b8) := by
    rw [B1, B2, B3, B4, B5, B6, B7, B8]
    exact keyOk_tests n e
  obtain ⟨B, hB⟩ : ∃ B, B = decide (KeyOk n e) := ⟨_, rfl⟩
  rw [← hB] at hfin ⊢
  have HF := Lib.hid hfin
  have G1 := Lib.hid F1; have G2 := Lib.hid F2; have G3 := Lib.hid F3; have G4 := Lib.hid F4; have G5 := Lib.hid F5; have G6 := Lib.hid F6; have G7 := Lib.hid F7; have G8 := Lib.hid F8
  clear B1 B2 B3 B4 B5 B6 B7 B8 hfin hB F1 F2 F3 F4 F5 F6 F7 F8
  have hR0 := Rws.start w
  go_enter Tryz.func11, Tryz.ntmps11
  go_upto_region 1 with (refine wpList_box_rws rfl _ _ (by rfl) (by assumption) _ rfl ?_; intro g w1 hR)
  refine wp_region_softG 6 (by kernel_rfl) (by kernel_rfl) (by rfl) hR ?_
  refine g_fa (by rfl) (by exact fun _ _ _ h => h) Tryz.underlying23 (by rfl) ⟨_, str_info⟩ (by rfl) ?_
  refine g_lds (by rfl) (by exact fun _ _ _ h => h) (by repeat (first | exact List.Mem.head _ | refine List.Mem.tail _ ?_)) (by rfl) ?_
  refine g_call1 (by rfl) Tryz.func27 (by kernel_rfl) rfl (stb_nv (nv n)) (A := Is (.string n)) (by exact fun _ _ _ h => h) (call_of n hn) ?_
  refine g_fa (by rfl) (by exact fun _ _ _ h => h) Tryz.underlying23 (by rfl) ⟨_, str_info⟩ (by rfl) ?_
  refine g_lds (by rfl) (by exact fun _ _ _ h => h) (by repeat (first | exact List.Mem.head _ | refine List.Mem.tail _ ?_)) (by rfl) ?_
  refine g_call1 (by rfl) Tryz.func27 (by kernel_rfl) rfl (stb_nv (nv e)) (A := Is (.string e)) (by exact fun _ _ _ h => h) (call_of e he) ?_
  intro w2 hR2 hb2 v5 h5 v6 h6 v7 h7 v8 h8 v9 h9 v10 h10
  simp only [softEnd, Act.put, List.setIfInBounds_toArray, List.set_cons_succ, List.set_cons_zero, List.drop_succ_cons, List.drop_zero]
  clear h5 h6 h8 h9
  go_wp2_with fail
  have K1 : NV (nv n) w2 v7 := h7
  have K2 : NV (nv e) w2 v10 := h10
  clear h7 h10
  refine wp_region_softG 43 (by kernel_rfl) (by kernel_rfl) (by rfl) hR2 ?_
  refine g_move (by rfl) (stb_nv (nv n)) (by exact fun w _ hb h => by obtain rfl := h; exact stb_nv _ _ _ _ hb K1) ?_
  refine g_call1 (by rfl) Tryz.func28 (by kernel_rfl) rfl (stb_is _) (by exact fun _ _ _ h => h) (call_form n hn) ?_
  refine g_fa (by rfl) (by exact fun _ _ _ h => h) Tryz.underlying23 (by rfl) ⟨_, str_info⟩ (by rfl) ?_
  refine g_lds (by rfl) (by exact fun _ _ _ h => h) (by repeat (first | exact List.Mem.head _ | refine List.Mem.tail _ ?_)) (by rfl) ?_
  refine g_bin (r := .bool b1) (by rfl) (by exact fun _ _ _ h => h) (by exact fun _ _ _ h => h) (by rfl) G1.out ?_
  cases b1
  · repeat (first | (refine g_dead (dead_of rfl rfl (fun _ _ _ h => h) (by rfl)) ?_) | (refine g_move (by rfl) (stb_is _) (by exact fun _ _ _ h => h) ?_) | (refine g_pick (by rfl) (by exact fun _ _ _ h => h) (stb_is _) (by exact fun _ _ _ h => h) ?_))
    intro w9 hR9 hb9
    iterate 43 (intro v hv)
    obtain rfl : v = .bool false := hv
    simp only [softEnd, Act.put, List.setIfInBounds_toArray, List.set_cons_succ, List.set_cons_zero, List.drop_succ_cons, List.drop_zero]
    have hres := hR9.below
    clear hR9 hb9 hR2 hb2 hR hR0
    go_wp2_with fail
    go_ret
    exact ⟨by rw [HF.out]; simp, hres⟩
  refine g_move (by rfl) (stb_is _) (by exact fun _ _ _ h => h) ?_
  refine g_move (by rfl) (stb_nv (nv e)) (by exact fun w _ hb h => by obtain rfl := h; exact stb_nv _ _ _ _ hb K2) ?_
  refine g_call1 (by rfl) Tryz.func28 (by kernel_rfl) rfl (stb_is _) (by exact fun _ _ _ h => h) (call_form e he) ?_
  refine g_fa (by rfl) (by exact fun _ _ _ h => h) Tryz.underlying23 (by rfl) ⟨_, str_info⟩ (by rfl) ?_
  refine g_lds (by rfl) (by exact fun _ _ _ h => h) (by repeat (first | exact List.Mem.head _ | refine List.Mem.tail _ ?_)) (by rfl) ?_
  refine g_bin (r := .bool b2) (by rfl) (by exact fun _ _ _ h => h) (by exact fun _ _ _ h => h) (by rfl) G2.out ?_
  refine g_pick (by rfl) (by exact fun _ _ _ h => h) (stb_is _) (by exact fun _ _ _ h => h) ?_
  cases b2
  · repeat (first | (refine g_dead (dead_of rfl rfl (fun _ _ _ h => h) (by rfl)) ?_) | (refine g_move (by rfl) (stb_is _) (by exact fun _ _ _ h => h) ?_) | (refine g_pick (by rfl) (by exact fun _ _ _ h => h) (stb_is _) (by exact fun _ _ _ h => h) ?_))
    intro w9 hR9 hb9
    iterate 43 (intro v hv)
    obtain rfl : v = .bool false := hv
    simp only [softEnd, Act.put, List.setIfInBounds_toArray, List.set_cons_succ, List.set_cons_zero, List.drop_succ_cons, List.drop_zero]
    have hres := hR9.below
    clear hR9 hb9 hR2 hb2 hR hR0
    go_wp2_with fail
    go_ret
    exact ⟨by rw [HF.out]; simp, hres⟩
  refine g_move (by rfl) (stb_is _) (by exact fun _ _ _ h => h) ?_
  refine g_move (by rfl) (stb_nv (nv n)) (by exact fun w _ hb h => by obtain rfl := h; exact stb_nv _ _ _ _ hb K1) ?_
  refine g_call2 (by rfl) Tryz.func29 (by kernel_rfl) rfl (stb_is _) (by exact fun _ _ _ h => h) (A' := Is (.int .i64 0)) (by exact fun _ _ _ h => h) (call_bit n) ?_
  refine g_bin (r := .bool b3) (by rfl) (by exact fun _ _ _ h => h) (by exact fun _ _ _ h => h) (by rfl) G3.out ?_
  refine g_pick (by rfl) (by exact fun _ _ _ h => h) (stb_is _) (by exact fun _ _ _ h => h) ?_
  cases b3
  · repeat (first | (refine g_dead (dead_of rfl rfl (fun _ _ _ h => h) (by rfl)) ?_) | (refine g_move (by rfl) (stb_is _) (by exact fun _ _ _ h => h) ?_) | (refine g_pick (by rfl) (by exact fun _ _ _ h => h) (stb_is _) (by exact fun _ _ _ h => h) ?_))
    intro w9 hR9 hb9
    iterate 43 (intro v hv)
    obtain rfl : v = .bool false := hv
    simp only [softEnd, Act.put, List.setIfInBounds_toArray, List.set_cons_succ, List.set_cons_zero, List.drop_succ_cons, List.drop_zero]
    have hres := hR9.below
    clear hR9 hb9 hR2 hb2 hR hR0
    go_wp2_with fail
    go_ret
    exact ⟨by rw [HF.out]; simp, hres⟩
  refine g_move (by rfl) (stb_is _) (by exact fun _ _ _ h => h) ?_
  refine g_move (by rfl) (stb_nv (nv e)) (by exact fun w _ hb h => by obtain rfl := h; exact stb_nv _ _ _ _ hb K2) ?_
  refine g_call2 (by rfl) Tryz.func29 (by kernel_rfl) rfl (stb_is _) (by exact fun _ _ _ h => h) (A' := Is (.int .i64 0)) (by exact fun _ _ _ h => h) (call_bit e) ?_
  refine g_bin (r := .bool b4) (by rfl) (by exact fun _ _ _ h => h) (by exact fun _ _ _ h => h) (by rfl) G4.out ?_
  refine g_pick (by rfl) (by exact fun _ _ _ h => h) (stb_is _) (by exact fun _ _ _ h => h) ?_
  cases b4
  · repeat (first | (refine g_dead (dead_of rfl rfl (fun _ _ _ h => h) (by rfl)) ?_) | (refine g_move (by rfl) (stb_is _) (by exact fun _ _ _ h => h) ?_) | (refine g_pick (by rfl) (by exact fun _ _ _ h => h) (stb_is _) (by exact fun _ _ _ h => h) ?_))
    intro w9 hR9 hb9
    iterate 43 (intro v hv)
    obtain rfl : v = .bool false := hv
    simp only [softEnd, Act.put, List.setIfInBounds_toArray, List.set_cons_succ, List.set_cons_zero, List.drop_succ_cons, List.drop_zero]
    have hres := hR9.below
    clear hR9 hb9 hR2 hb2 hR hR0
    go_wp2_with fail
    go_ret
    exact ⟨by rw [HF.out]; simp, hres⟩
  refine g_move (by rfl) (stb_is _) (by exact fun _ _ _ h => h) ?_
  refine g_move (by rfl) (stb_nv (nv n)) (by exact fun w _ hb h => by obtain rfl := h; exact stb_nv _ _ _ _ hb K1) ?_
  refine g_call1 (by rfl) Tryz.func30 (by kernel_rfl) rfl (stb_is _) (by exact fun _ _ _ h => h) (call_bits n hn) ?_
  refine g_bin (r := .bool b5) (by rfl) (by exact fun _ _ _ h => h) (by exact fun _ _ _ h => h) (by rfl) G5.out ?_
  refine g_pick (by rfl) (by exact fun _ _ _ h => h) (stb_is _) (by exact fun _ _ _ h => h) ?_
  cases b5
  · repeat (first | (refine g_dead (dead_of rfl rfl (fun _ _ _ h => h) (by rfl)) ?_) | (refine g_move (by rfl) (stb_is _) (by exact fun _ _ _ h => h) ?_) | (refine g_pick (by rfl) (by exact fun _ _ _ h => h) (stb_is _) (by exact fun _ _ _ h => h) ?_))
    intro w9 hR9 hb9
    iterate 43 (intro v hv)
    obtain rfl : v = .bool false := hv
    simp only [softEnd, Act.put, List.setIfInBounds_toArray, List.set_cons_succ, List.set_cons_zero, List.drop_succ_cons, List.drop_zero]
    have hres := hR9.below
    clear hR9 hb9 hR2 hb2 hR hR0
    go_wp2_with fail
    go_ret
    exact ⟨by rw [HF.out]; simp, hres⟩
  refine g_move (by rfl) (stb_is _) (by exact fun _ _ _ h => h) ?_
  refine g_move (by rfl) (stb_nv (nv n)) (by exact fun w _ hb h => by obtain rfl := h; exact stb_nv _ _ _ _ hb K1) ?_
  refine g_call1 (by rfl) Tryz.func30 (by kernel_rfl) rfl (stb_is _) (by exact fun _ _ _ h => h) (call_bits n hn) ?_
  refine g_bin (r := .bool b6) (by rfl) (by exact fun _ _ _ h => h) (by exact fun _ _ _ h => h) (by rfl) G6.out ?_
  refine g_pick (by rfl) (by exact fun _ _ _ h => h) (stb_is _) (by exact fun _ _ _ h => h) ?_
  cases b6
  · repeat (first | (refine g_dead (dead_of rfl rfl (fun _ _ _ h => h) (by rfl)) ?_) | (refine g_move (by rfl) (stb_is _) (by exact fun _ _ _ h => h) ?_) | (refine g_pick (by rfl) (by exact fun _ _ _ h => h) (stb_is _) (by exact fun _ _ _ h => h) ?_))
    intro w9 hR9 hb9
    iterate 43 (intro v hv)
    obtain rfl : v = .bool false := hv
    simp only [softEnd, Act.put, List.setIfInBounds_toArray, List.set_cons_succ, List.set_cons_zero, List.drop_succ_cons, List.drop_zero]
    have hres := hR9.below
    clear hR9 hb9 hR2 hb2 hR hR0
    go_wp2_with fail
    go_ret
    exact ⟨by rw [HF.out]; simp, hres⟩
  refine g_move (by rfl) (stb_is _) (by exact fun _ _ _ h => h) ?_
  refine g_move (by rfl) (stb_nv (nv e)) (by exact fun w _ hb h => by obtain rfl := h; exact stb_nv _ _ _ _ hb K2) ?_
  refine g_three (by rfl) ?_
  refine g_call2 (by rfl) Tryz.func31 (by kernel_rfl) rfl (stb_is _) (by exact fun _ _ _ h => h) (by exact fun _ _ _ h => h) (call_cmp (nv e) 3) ?_
  refine g_bin (r := .bool b7) (by rfl) (by exact fun _ _ _ h => h) (by exact fun _ _ _ h => h) (by rfl) G7.out ?_
  refine g_pick (by rfl) (by exact fun _ _ _ h => h) (stb_is _) (by exact fun _ _ _ h => h) ?_
  cases b7
  · repeat (first | (refine g_dead (dead_of rfl rfl (fun _ _ _ h => h) (by rfl)) ?_) | (refine g_move (by rfl) (stb_is _) (by exact fun _ _ _ h => h) ?_) | (refine g_pick (by rfl) (by exact fun _ _ _ h => h) (stb_is _) (by exact fun _ _ _ h => h) ?_))
    intro w9 hR9 hb9
    iterate 43 (intro v hv)
    obtain rfl : v = .bool false := hv
    simp only [softEnd, Act.put, List.setIfInBounds_toArray, List.set_cons_succ, List.set_cons_zero, List.drop_succ_cons, List.drop_zero]
    have hres := hR9.below
    clear hR9 hb9 hR2 hb2 hR hR0
    go_wp2_with fail
    go_ret
    exact ⟨by rw [HF.out]; simp, hres⟩
  refine g_move (by rfl) (stb_is _) (by exact fun _ _ _ h => h) ?_
  refine g_move (by rfl) (stb_nv (nv e)) (by exact fun w _ hb h => by obtain rfl := h; exact stb_nv _ _ _ _ hb K2) ?_
  refine g_call1 (by rfl) Tryz.func30 (by kernel_rfl) rfl (stb_is _) (by exact fun _ _ _ h => h) (call_bits e he) ?_
  refine g_bin (r := .bool b8) (by rfl) (by exact fun _ _ _ h => h) (by exact fun _ _ _ h => h) (by rfl) G8.out ?_
  refine g_pick (by rfl) (by exact fun _ _ _ h => h) (stb_is _) (by exact fun _ _ _ h => h) ?_
  cases b8
  · intro w9 hR9 hb9
    iterate 43 (intro v hv)
    obtain rfl : v = .bool false := hv
    simp only [softEnd, Act.put, List.setIfInBounds_toArray, List.set_cons_succ, List.set_cons_zero, List.drop_succ_cons, List.drop_zero]
    have hres := hR9.below
    clear hR9 hb9 hR2 hb2 hR hR0
    go_wp2_with fail
    go_ret
    exact ⟨by rw [HF.out]; simp, hres⟩
  · intro w9 hR9 hb9
    iterate 43 (intro v hv)
    obtain rfl : v = .bool true := hv
    simp only [softEnd, Act.put, List.setIfInBounds_toArray, List.set_cons_succ, List.set_cons_zero, List.drop_succ_cons, List.drop_zero]
    have hres := hR9.below
    clear hR9 hb9 hR2 hb2 hR hR0
    go_wp2_with fail
    go_ret
    exact ⟨by rw [HF.out]; simp, hres⟩
end Go.Proofs.YtjkjlbchbbpmaaaGreatDoor
/- The reference's padded and Open (layer 4): the walks. -/
namespace Go.Proofs.YtjkjlbchbbpmaaaGreatDoor
open Go.RowKit

/-- So many noughts ahead of a number's bytes. -/
def noughts (j v : Nat) : ByteArray := ⟨(List.replicate j 0 ++ fm v).toArray⟩
theorem noughts_succ (j v : Nat) : (⟨#[0]⟩ : ByteArray) ++ noughts j v = noughts (j + 1) v := by
  unfold noughts
  rw [show (⟨#[0]⟩ : ByteArray) = ⟨([0] : List UInt8).toArray⟩ from rfl, str_append]
  rfl
theorem noughts_size (j v : Nat) : (noughts j v).size = j + Dg.len 256 v := by
  unfold noughts
  rw [str_size, List.length_append, List.length_replicate, fm_length]

set_option maxRecDepth 100000 in
theorem padded_any (ao : Option Addr) (n c v many : Nat) (w : World) (ha : RN w ao n c v) (hn : n ≤ 10000) (hm : many ≤ 10000) :
    Calls Tryz.prog 34 #[.slice ao n c, .int .i64 (many : Int)] w fun e w' => e = .returned (.string ⟨(padS v many).toArray⟩) ∧ Below w.heap.size w w' := by
  have hf := rform_any ao n c v w ha (by omega)
  have hlen : Dg.len 256 v ≤ 20000 := by
    obtain ⟨k, hk⟩ : ∃ k, k = 20000 := ⟨_, rfl⟩
    rw [← hk]
    refine (Dg.len_le_iff (by omega) _ _).2 (Nat.lt_of_lt_of_le ha.lt ?_)
    rw [show DB = 256 ^ 2 from rfl, ← Nat.pow_mul]
    exact Nat.pow_le_pow_right (by omega) (by omega)
  have hs0 : (⟨(fm v).toArray⟩ : ByteArray) = noughts 0 v := rfl
  rw [hs0] at hf
  obtain ⟨m, hmm⟩ : ∃ m, m = Dg.len 256 v := ⟨_, rfl⟩
  have hsz : ∀ j, (noughts j v).size = j + m := fun j => by rw [noughts_size, hmm]
  have hres : (⟨(padS v many).toArray⟩ : ByteArray) = noughts (many - m) v := by rw [hmm]; rfl
  rw [hres]
  rw [← hmm] at hlen
  have HF := Lib.hid hf; have HZ := Lib.hid hsz
  clear hf hs0 hres hmm hsz
  go_enter Tryz.func34, Tryz.ntmps34
  go_wp2_with fail
  refine HF.out.mono ?_
  rintro e w1 ⟨rfl, hb1⟩
  go_wp2_with fail
  go_loop [5] (fun sv => ∃ j : Nat, j ≤ many - m ∧ sv = .string (noughts j v)) (fun sv => many - (match sv with | .string s => s.size | _ => 0))
  case atStart => exact ⟨0, Nat.zero_le _, rfl⟩
  case round =>
    obtain ⟨j, hj, rfl⟩ := hrel
    obtain ⟨s, hs⟩ : ∃ s, s = noughts j v := ⟨_, rfl⟩
    have hsz : (s.size : Int) = (j : Int) + (m : Int) := by rw [hs, HZ.out]; omega
    have hcat : ∀ w : World, (Op.stringOp .add ⟨#[0]⟩ s).run Tryz.prog w = .ok (.string (⟨#[0]⟩ ++ s)) w := fun w => run_string_add_sum w _ s (by rw [hs, HZ.out]; show 1 + _ ≤ _; omega)
    have hz2 : s.size = j + m := by rw [hs, HZ.out]
    have hz3 : ((⟨#[0]⟩ : ByteArray) ++ s).size = j + 1 + m := by rw [hs, noughts_succ, HZ.out]
    have hnx : (⟨#[0]⟩ : ByteArray) ++ s = noughts (j + 1) v := by rw [hs, noughts_succ]
    rw [← hs]
    have HS := Lib.hid hs; have HZ2 := Lib.hid hz2; have HZ3 := Lib.hid hz3; have HNX := Lib.hid hnx
    clear hs hz2 hz3 hnx
    by_cases hlt : j + m < many
    · have hlt2 : (j : Int) + (m : Int) < (many : Int) := by omega
      go_wp2_with fail
      go_round
      case rel => exact ⟨j + 1, by omega, by rw [HNX.out]⟩
      case measure =>
        show many - ((⟨#[0]⟩ : ByteArray) ++ s).size < many - s.size
        rw [HZ3.out, HZ2.out]; omega
    · have hge : ¬ (j : Int) + (m : Int) < (many : Int) := by omega
      have hje : j = many - m := by omega
      have HJ := Lib.hid hje
      clear hje
      go_wp2_with fail
      go_ret
      exact ⟨by rw [HS.out, HJ.out]; rfl, hb1⟩

section
variable {B : Nat} {w0 ws : World} {L : List (Nat × Array Value × TypeId)} {a0 : Act} {K : Act → World → Prop} {n : Nat} {l : List Oper} {o : Oper} {Γ : Env}
theorem s_len {x : Operand} {s : ByteArray} {i : Int} (ho : o.op = .call { callee := .builtin .len, args := #[x], argTypes := #[9] }) (hx : Has ws a0 Γ x (Is (.string s))) (hs : (s.size : Int) = i)
    (h : softW Tryz.prog B w0 ws L a0 K n l ((o.dst, Is (.int .i64 i)) :: Γ)) : softW Tryz.prog B w0 ws L a0 K (n + 1) (o :: l) Γ :=
  s_val (x := x) (A := Is (.string s)) (stb_is _) (by rw [ho]; exact Array.mem_singleton_self x) hx (fun w e _ _ he => by
    have he : e x = .string s := he
    refine ⟨_, ?_, rfl⟩
    rw [← hs]
    unfold execOp
    simp only [ho, resolve]
    simp [he, go_sem, invoke]) h
theorem s_call3 {f : FuncId} {x y z : Operand} {ats : Array TypeId} {fn : Func} {c : Code} {A A' A'' R : Prd} (ho : o.op = .call { callee := .value (.func f), args := [x, y, z].toArray, argTypes := ats }) (hf : Tryz.prog.funcs[f]? = some fn) (hname : (fn.name == "runtime.NumGoroutine") = false) (hb : fn.body = some c) (hst : Stb R)
    (hx : Has ws a0 Γ x A) (hy : Has ws a0 Γ y A') (hz : Has ws a0 Γ z A'') (hc : ∀ (w : World) (v u t : Value), A w v → A' w u → A'' w t → Calls Tryz.prog f #[v, u, t] w fun en w' => ∃ u, en = .returned u ∧ R w' u ∧ Below w.heap.size w w')
    (h : softW Tryz.prog B w0 ws L a0 K n l ((o.dst, R) :: Γ)) : softW Tryz.prog B w0 ws L a0 K (n + 1) (o :: l) Γ :=
  s_call ho hf hname hb hst (fun w e hbl hat => hc w (e x) (e y) (e z) (hx w _ hbl (hat x (List.Mem.head _))) (hy w _ hbl (hat y (List.Mem.tail _ (List.Mem.head _)))) (hz w _ hbl (hat z (List.Mem.tail _ (List.Mem.tail _ (List.Mem.head _)))))) h
end
theorem call_pow (a e m : Nat) (w : World) (x y z : Value) (hm0 : 0 < m) (hx : NV a w x) (hy : NV e w y) (hz : NV m w z) (ha : a < 256 ^ (2 * 1000)) (he : e < 256 ^ (2 * 1000)) (hm : m < 256 ^ (2 * 1000)) :
    Calls Tryz.prog 35 #[x, y, z] w fun en w' => ∃ u, en = .returned u ∧ NV (a ^ e % m) w' u ∧ Below w.heap.size w w' := by
  obtain ⟨ao, n, c, rfl, h1⟩ := hx
  obtain ⟨eo, n', c', rfl, h2⟩ := hy
  obtain ⟨mo, k, d, rfl, h3⟩ := hz
  exact (rpow_any ao eo mo n c n' c' k d a e m w h1 h2 h3 hm0 (rn_of_lt h1 ha) (rn_of_lt h2 he) (rn_of_lt h3 hm)).mono fun _ w' ⟨ro, k, cap, he, hr, hb⟩ => ⟨_, he, ⟨ro, k, cap, rfl, hr⟩, hb⟩
theorem call_padded (v many : Nat) (w : World) (x y : Value) (hm : many ≤ 10000) (hv : v < 256 ^ (2 * 1000)) (hx : NV v w x) (hy : Is (.int .i64 (many : Int)) w y) :
    Calls Tryz.prog 34 #[x, y] w fun en w' => ∃ u, en = .returned u ∧ Is (.string ⟨(padS v many).toArray⟩) w' u ∧ Below w.heap.size w w' := by
  obtain ⟨ao, n, c, rfl, h1⟩ := hx
  obtain rfl : y = _ := hy
  exact (padded_any ao n c v many w h1 (Nat.le_trans (rn_of_lt h1 hv) (by omega)) hm).mono fun _ _ ⟨he, hb⟩ => ⟨_, he, rfl, hb⟩

set_option maxRecDepth 100000 in
set_option maxHeartbeats 3200000 in
theorem ropen_any (n e sig : ByteArray) (w : World) (hn : n.size ≤ 10000) (he : e.size ≤ 10000) :
    Calls Tryz.prog 13 #[.agg #[.string n, .string e], .string sig] w fun r w' => r = ret2 (OpenR n e sig).1 (OpenR n e sig).2 ∧ Below w.heap.size w w' := by
  have hck := fun w => rcheck_any n e w hn he
  have hR0 := Rws.start w
  by_cases hk : KeyOk n e
  · have hn2 : n.size ≤ 256 := size_of_bits hk.1 (by have := hk.2.2.2.1; omega)
    have he2 : e.size ≤ 4 := size_of_bits hk.2.1 (by have := hk.2.2.2.2.2; omega)
    have hpos : 0 < nv n := by have := hk.1.2; omega
    have hO : OpenR n e sig = if sig.size ≠ n.size ∨ nv n ≤ nv sig then ([], 41) else (padS (nv sig ^ nv e % nv n) n.size, 0) := by
      unfold OpenR; rw [if_neg (fun h => h hk)]
    rw [decide_eq_true hk] at hck
    clear hk
    have HC := Lib.hid hck; have HO := Lib.hid hO
    clear hck hO
    have hof : ∀ w : World, Calls Tryz.prog 27 #[.string n] w (RetRN w (nv n)) := fun w => of_any n w (by omega)
    have HOF := Lib.hid hof
    clear hof
    by_cases hz : sig.size = n.size
    · obtain ⟨N, hN⟩ : ∃ N, N = n.size := ⟨_, rfl⟩
      have hz2 : (sig.size : Int) = (N : Int) := by omega
      have hz3 : (n.size : Int) = (N : Int) := by omega
      have hofs : ∀ w : World, Calls Tryz.prog 27 #[.string sig] w (RetRN w (nv sig)) := fun w => of_any sig w (by omega)
      have HOS := Lib.hid hofs
      clear hofs
      by_cases hlt : nv sig < nv n
      · have hO2 : OpenR n e sig = (padS (nv sig ^ nv e % nv n) N, 0) := by rw [HO.out, if_neg (by omega), hN]
        have hc : cmpN (nv sig) (nv n) = -1 := cmpN_lt hlt
        obtain ⟨k, hk⟩ : ∃ k, k = 2 * 1000 := ⟨_, rfl⟩
        have hps : nv sig < 256 ^ k := Nat.lt_of_lt_of_le (nv_size sig) (Nat.pow_le_pow_right (by omega) (by omega))
        have hpe : nv e < 256 ^ k := Nat.lt_of_lt_of_le (nv_size e) (Nat.pow_le_pow_right (by omega) (by omega))
        have hpn : nv n < 256 ^ k := Nat.lt_of_lt_of_le (nv_size n) (Nat.pow_le_pow_right (by omega) (by omega))
        rw [hk] at hps hpe hpn
        have hpow := fun w x y z hx hy hz => call_pow (nv sig) (nv e) (nv n) w x y z hpos hx hy hz hps hpe hpn
        have hpad := fun w x y hx hy => call_padded (nv sig ^ nv e % nv n) N w x y (by omega) (Nat.lt_trans (Nat.mod_lt _ hpos) hpn) hx hy
        have HO2 := Lib.hid hO2; have HCM := Lib.hid hc; have HPW := Lib.hid hpow; have HPD := Lib.hid hpad
        have HZ2 := Lib.hid hz2; have HZ3 := Lib.hid hz3
        clear hO2 hc hpow hpad hps hpe hpn HO hlt hN hz hpos
        go_enter Tryz.func13, Tryz.ntmps13
        go_upto_region 1 with (refine wpList_box_rws rfl _ _ (by rfl) (by assumption) _ rfl ?_; intro g w1 hR)
        go_wp2_with (refine wpList_load_rws rfl _ _ (by rfl) (by assumption) _ rfl #[.string n, .string e] _ (by repeat (first | exact List.Mem.head _ | refine List.Mem.tail _ ?_)) _ Tryz.underlying23 rfl (by kernel_rfl) ?_)
        refine (HC.out _).mono ?_
        rintro r w2 ⟨rfl, hb2⟩
        have hR := hR.call hb2
        have c0 : w2.cell? ⟨g, 0, none⟩ = some (.string n) := hR.cellAt (List.Mem.head _) 0 rfl
        clear hb2
        go_wp2_with fail
        refine (HOF.out _).mono ?_
        rintro r w3 ⟨no, nk, nc, rfl, hrn, hb3⟩
        have hR := hR.call hb3
        have c0 : w3.cell? ⟨g, 0, none⟩ = some (.string n) := hR.cellAt (List.Mem.head _) 0 rfl
        clear hb3
        go_wp2_with fail
        refine (HOS.out _).mono ?_
        rintro r w4 ⟨so, sk, sc, rfl, hrs, hb4⟩
        have hR := hR.call hb4
        have hrn4 := hrn.below hb4 (Nat.le_refl _)
        clear hb4 hrn c0
        go_wp2_with fail
        refine (rcmp_any so no sk sc nk nc _ _ _ hrs hrn4).mono ?_
        rintro r w5 ⟨rfl, q, rfl⟩
        have hR := hR.call (below_drewN (Below.refl _ _) q)
        have hrn5 := hrn4.drewN q
        rw [HCM.out]
        clear hrs hrn4
        go_wp2_with fail
        refine wp_region_soft 11 (by kernel_rfl) (by kernel_rfl) (by rfl) hR ?_
        refine s_move (by rfl) (stb_is (.string sig)) (by exact fun _ _ _ h => h) ?_
        refine s_call1 (by rfl) Tryz.func27 (by kernel_rfl) rfl (stb_nv (nv sig)) (A := Is (.string sig)) (by exact fun _ _ _ h => h) (call_of sig (by omega)) ?_
        refine s_fa (by rfl) (by exact fun _ _ _ h => h) Tryz.underlying23 (by rfl) ⟨_, str_info⟩ (by rfl) ?_
        refine s_lds (by rfl) (by exact fun _ _ _ h => h) (by repeat (first | exact List.Mem.head _ | refine List.Mem.tail _ ?_)) (by rfl) ?_
        refine s_call1 (by rfl) Tryz.func27 (by kernel_rfl) rfl (stb_nv (nv e)) (A := Is (.string e)) (by exact fun _ _ _ h => h) (call_of e he) ?_
        refine s_move (by rfl) (stb_nv (nv n)) (by exact fun w _ hb h => by obtain rfl := h; exact ⟨no, nk, nc, rfl, hrn5.below hb (Nat.le_refl _)⟩) ?_
        refine s_call3 (by rfl) Tryz.func35 (by kernel_rfl) rfl (stb_nv (nv sig ^ nv e % nv n)) (by exact fun _ _ _ h => h) (by exact fun _ _ _ h => h) (by exact fun _ _ _ h => h) HPW.out ?_
        refine s_fa (by rfl) (by exact fun _ _ _ h => h) Tryz.underlying23 (by rfl) ⟨_, str_info⟩ (by rfl) ?_
        refine s_lds (by rfl) (by exact fun _ _ _ h => h) (by repeat (first | exact List.Mem.head _ | refine List.Mem.tail _ ?_)) (by rfl) ?_
        refine s_len (by rfl) (by exact fun _ _ _ h => h) HZ3.out ?_
        refine s_call2 (by rfl) Tryz.func34 (by kernel_rfl) rfl (stb_is _) (by exact fun _ _ _ h => h) (by exact fun _ _ _ h => h) HPD.out ?_
        intro w9 hR9 hb9
        iterate 11 (intro v hv)
        obtain rfl : v = _ := hv
        simp only [softEnd, Act.put, List.setIfInBounds_toArray, List.set_cons_succ, List.set_cons_zero, List.drop_succ_cons, List.drop_zero]
        have hres := hR9.below
        clear hR9 hb9 hR hR0
        go_wp2_with fail
        go_ret2
        exact ⟨by rw [HO2.out]; rfl, hres⟩
      · have hge : nv n ≤ nv sig := by omega
        have hO2 : OpenR n e sig = ([], 41) := by rw [HO.out, if_pos (Or.inr hge)]
        have hc : ∃ c : Int, cmpN (nv sig) (nv n) = c ∧ 0 ≤ c ∧ c ≤ 1 := by
          rcases cmpN_three (nv sig) (nv n) with ⟨h, _⟩ | ⟨_, h⟩ | ⟨_, h⟩
          · omega
          · exact ⟨0, h, by omega, by omega⟩
          · exact ⟨1, h, by omega, by omega⟩
        obtain ⟨c, hc, hc0, hc1⟩ := hc
        have HO2 := Lib.hid hO2; have HCM := Lib.hid hc
        clear hO2 hc HO hge hN hz hpos hlt
        go_enter Tryz.func13, Tryz.ntmps13
        go_upto_region 1 with (refine wpList_box_rws rfl _ _ (by rfl) (by assumption) _ rfl ?_; intro g w1 hR)
        go_wp2_with (refine wpList_load_rws rfl _ _ (by rfl) (by assumption) _ rfl #[.string n, .string e] _ (by repeat (first | exact List.Mem.head _ | refine List.Mem.tail _ ?_)) _ Tryz.underlying23 rfl (by kernel_rfl) ?_)
        refine (HC.out _).mono ?_
        rintro r w2 ⟨rfl, hb2⟩
        have hR := hR.call hb2
        have c0 : w2.cell? ⟨g, 0, none⟩ = some (.string n) := hR.cellAt (List.Mem.head _) 0 rfl
        clear hb2
        go_wp2_with fail
        refine (HOF.out _).mono ?_
        rintro r w3 ⟨no, nk, nc, rfl, hrn, hb3⟩
        have hR := hR.call hb3
        have c0 : w3.cell? ⟨g, 0, none⟩ = some (.string n) := hR.cellAt (List.Mem.head _) 0 rfl
        clear hb3
        go_wp2_with fail
        refine (HOS.out _).mono ?_
        rintro r w4 ⟨so, sk, sc, rfl, hrs, hb4⟩
        have hR := hR.call hb4
        have hrn4 := hrn.below hb4 (Nat.le_refl _)
        clear hb4 hrn c0
        go_wp2_with fail
        refine (rcmp_any so no sk sc nk nc _ _ _ hrs hrn4).mono ?_
        rintro r w5 ⟨rfl, q, rfl⟩
        have hres := (hR.call (below_drewN (Below.refl _ _) q)).below
        rw [HCM.out]
        clear hrs hrn4 hR hR0
        go_wp2_with fail
        go_ret2
        exact ⟨by rw [HO2.out]; rfl, hres⟩
    · have hO2 : OpenR n e sig = ([], 41) := by rw [HO.out, if_pos (Or.inl hz)]
      have HO2 := Lib.hid hO2
      have hz2 : ((sig.size : Int) != (n.size : Int)) = true := by rw [bne_iff_ne]; omega
      clear HO hO2 hz
      go_enter Tryz.func13, Tryz.ntmps13
      go_upto_region 1 with (refine wpList_box_rws rfl _ _ (by rfl) (by assumption) _ rfl ?_; intro g w1 hR)
      go_wp2_with (refine wpList_load_rws rfl _ _ (by rfl) (by assumption) _ rfl #[.string n, .string e] _ (by repeat (first | exact List.Mem.head _ | refine List.Mem.tail _ ?_)) _ Tryz.underlying23 rfl (by kernel_rfl) ?_)
      refine (HC.out _).mono ?_
      rintro r w2 ⟨rfl, hb2⟩
      have hR := hR.call hb2
      have c0 : w2.cell? ⟨g, 0, none⟩ = some (.string n) := hR.cellAt (List.Mem.head _) 0 rfl
      clear hb2
      go_wp2_with fail
      refine (HOF.out _).mono ?_
      rintro r w3 ⟨no, nk, nc, rfl, hrn, hb3⟩
      have hR := hR.call hb3
      have c0 : w3.cell? ⟨g, 0, none⟩ = some (.string n) := hR.cellAt (List.Mem.head _) 0 rfl
      clear hb3
      go_wp2_with fail
      have hres := hR.below
      go_ret2
      exact ⟨by rw [HO2.out]; rfl, hres⟩
  · have hO2 : OpenR n e sig = ([], 40) := if_pos hk
    rw [decide_eq_false hk] at hck
    have HC := Lib.hid hck; have HO2 := Lib.hid hO2
    clear hck hO2 hk
    go_enter Tryz.func13, Tryz.ntmps13
    go_upto_region 1 with (refine wpList_box_rws rfl _ _ (by rfl) (by assumption) _ rfl ?_; intro g w1 hR)
    go_wp2_with (refine wpList_load_rws rfl _ _ (by rfl) (by assumption) _ rfl #[.string n, .string e] _ (by repeat (first | exact List.Mem.head _ | refine List.Mem.tail _ ?_)) _ Tryz.underlying23 rfl (by kernel_rfl) ?_)
    refine (HC.out _).mono ?_
    rintro r w2 ⟨rfl, hb2⟩
    have hR := hR.call hb2
    have c0 : w2.cell? ⟨g, 0, none⟩ = some (.string n) := hR.cellAt (List.Mem.head _) 0 rfl
    clear hb2
    go_wp2_with fail
    have hres := hR.below
    go_ret2
    exact ⟨by rw [HO2.out]; rfl, hres⟩
end Go.Proofs.YtjkjlbchbbpmaaaGreatDoor
