/- Field3 Field4 Wide Times Pw EInv Point0, in one text. -/
import Derived.Test.YtaggpodckafbgaaGreatDoorZB
import Derived.Test.YtaggpodckafbgaaGreatDoorZM
import Derived.Laws.StructEq
import Derived.Test.YtaggpodckafbgaaGreatDoorZD
import Derived.Test.YtaggpodckafbgaaGreatDoorZA0
/- The field's functions: modulus, plus, neg, minus, one. -/
namespace Go.Proofs.YtaggpodckafbgaaGreatDoor
open Go.RowKit
def pp (m : Int) : Nat := if m = 0 then Ec.P else Ec.N
theorem pp_big (m : Int) : Big (pp m) := by
  unfold pp Big; split
  · exact ⟨by decide, by decide⟩
  · exact ⟨by decide, by decide⟩
theorem nmc_P : nmc Ec.P = #[.int .u64 18446744073709551615, .int .u64 4294967295, .int .u64 0, .int .u64 18446744069414584321] := rfl
theorem nmc_N : nmc Ec.N = #[.int .u64 17562291160714782033, .int .u64 13611842547513532036, .int .u64 18446744073709551615, .int .u64 18446744069414584320] := rfl
set_option maxRecDepth 100000 in
theorem modulus_any (m : Int) (w : World) :
    Calls Tryz.prog 49 #[.int .i64 m] w fun e w' => e = .returned (nm (pp m)) ∧ Below w.heap.size w w' := by
  have hR0 := Rws.start w
  unfold nm
  by_cases hm : m = 0
  · have e : pp m = Ec.P := if_pos hm
    rw [e, nmc_P]
    go_enter Tryz.func49, Tryz.ntmps49
    go_wp2_with (first | (refine wN_box rfl (by rfl) (by assumption) rfl ?_; intro g w1 hR) | (refine wN_alloc rfl (by rfl) (by assumption) ?_; intro g w1 hR) | (refine wN_load rfl (by rfl) (by assumption) rfl (by repeat (first | exact pzH | refine pzM ?_)) rfl ?_) | (refine wN_store rfl (by rfl) (by assumption) rfl rfl (by repeat (first | exact Pick.here | apply Pick.there)) rfl rfl (by first | exact nmc_cells _ | simp [Value.oneCell']) ?_; intro w1 hR))
    exact wN_end Tryz.results49 (by assumption) rfl (List.Mem.head _) rfl rfl fun hb => ⟨rfl, hb⟩
  · have e : pp m = Ec.N := if_neg hm
    rw [e, nmc_N]
    go_enter Tryz.func49, Tryz.ntmps49
    go_wp2_with (first | (refine wN_box rfl (by rfl) (by assumption) rfl ?_; intro g w1 hR) | (refine wN_alloc rfl (by rfl) (by assumption) ?_; intro g w1 hR) | (refine wN_load rfl (by rfl) (by assumption) rfl (by repeat (first | exact pzH | refine pzM ?_)) rfl ?_) | (refine wN_store rfl (by rfl) (by assumption) rfl rfl (by repeat (first | exact Pick.here | apply Pick.there)) rfl rfl (by first | exact nmc_cells _ | simp [Value.oneCell']) ?_; intro w1 hR))
    exact wN_end Tryz.results49 (by assumption) rfl (List.Mem.head _) rfl rfl fun hb => ⟨rfl, hb⟩
set_option maxRecDepth 100000 in
theorem plus_any (m : Int) (a b : Nat) (w : World) (ha : a < 115792089237316195423570985008687907853269984665640564039457584007913129639936) (hb : b < 115792089237316195423570985008687907853269984665640564039457584007913129639936) :
    Calls Tryz.prog 119 #[.int .i64 m, nm a, nm b] w fun e w' => e = .returned (nm ((a + b) % pp m)) ∧ Below w.heap.size w w' := by
  obtain ⟨p, hp⟩ : ∃ p, p = pp m := ⟨_, rfl⟩
  have hbig : Big p := by rw [hp]; exact pp_big m
  have hm : ∀ w : World, Calls Tryz.prog 49 #[.int .i64 m] w fun e w' => e = .returned (nm p) ∧ Below w.heap.size w w' := fun w => by rw [hp]; exact modulus_any m w
  have hp0 : 0 < p := by have := hbig.2; omega
  have h1 : ∀ w : World, Calls Tryz.prog 48 #[nm a, nm p] w fun e w' => e = .returned (nm (a % p)) ∧ Below w.heap.size w w' := fun w => below_any a p w ha hbig
  have h2 : ∀ w : World, Calls Tryz.prog 48 #[nm b, nm p] w fun e w' => e = .returned (nm (b % p)) ∧ Below w.heap.size w w' := fun w => below_any b p w hb hbig
  have h3 : ∀ w : World, Calls Tryz.prog 144 #[nm (a % p), nm (b % p), nm p] w fun e w' => e = .returned (nm ((a + b) % p)) ∧ Below w.heap.size w w' := fun w => by
    have h := sum_any (a % p) (b % p) p w (Nat.mod_lt _ hp0) (Nat.mod_lt _ hp0) hbig
    rwa [← Nat.add_mod] at h
  rw [← hp]
  obtain ⟨a', ha'⟩ : ∃ x, x = a % p := ⟨_, rfl⟩
  obtain ⟨b', hb'⟩ : ∃ x, x = b % p := ⟨_, rfl⟩
  obtain ⟨r, hr⟩ : ∃ x, x = (a + b) % p := ⟨_, rfl⟩
  rw [← ha'] at h1 h3; rw [← hb'] at h2 h3; rw [← hr] at h3 ⊢
  unfold nm at hm h1 h2 h3 ⊢
  have HM := Lib.hid hm; have H1 := Lib.hid h1; have H2 := Lib.hid h2; have H3 := Lib.hid h3
  clear hm h1 h2 h3 ha' hb' hr hp hbig hp0 ha hb
  have hR0 := Rws.start w
  go_enter Tryz.func119, Tryz.ntmps119
  go_upto_region 2 with (first
    | (refine wN_box rfl (by rfl) (by assumption) rfl ?_; intro g w1 hR) | (refine wN_alloc rfl (by rfl) (by assumption) ?_; intro g w1 hR) | (refine wN_load rfl (by rfl) (by assumption) rfl (by repeat (first | exact pzH | refine pzM ?_)) rfl ?_) | (refine wN_store rfl (by rfl) (by assumption) rfl rfl (by repeat (first | exact Pick.here | apply Pick.there)) rfl rfl (by first | exact nmc_cells _ | simp [Value.oneCell']) ?_; intro w1 hR)
    | (go_at_call 49; refine (HM.out _).mono ?_; rintro e w1 ⟨rfl, hb1⟩; have hR := Rws.call (by assumption) hb1))
  refine wp_region_calm 8 (by kernel_rfl) (by kernel_rfl) (by assumption) ?_
  repeat (first | (refine lexC_alloc (by rfl) ?_; simp only [Act.put, pzT, pzA, pzB]) | (refine cN_load (by rfl) rfl (by repeat (first | exact pzH | refine pzM ?_)) rfl ?_; simp only [Act.put, pzT, pzA, pzB]) | (refine lexC_move (by rfl) rfl ?_; simp only [Act.put, pzT, pzA, pzB]) | (refine lexC_assign (by rfl) rfl ?_; simp only [Act.put, pzT, pzA, pzB]))
  refine lexC_call rfl Tryz.func48 (by kernel_rfl) rfl rfl (fun w _ => H1.out w) ?_
  simp only [Act.put, pzT, pzA, pzB]
  repeat (first | (refine lexC_alloc (by rfl) ?_; simp only [Act.put, pzT, pzA, pzB]) | (refine cN_load (by rfl) rfl (by repeat (first | exact pzH | refine pzM ?_)) rfl ?_; simp only [Act.put, pzT, pzA, pzB]) | (refine lexC_move (by rfl) rfl ?_; simp only [Act.put, pzT, pzA, pzB]) | (refine lexC_assign (by rfl) rfl ?_; simp only [Act.put, pzT, pzA, pzB]))
  refine lexC_call rfl Tryz.func48 (by kernel_rfl) rfl rfl (fun w _ => H2.out w) ?_
  simp only [Act.put, pzT, pzA, pzB]
  repeat (first | (refine lexC_alloc (by rfl) ?_; simp only [Act.put, pzT, pzA, pzB]) | (refine cN_load (by rfl) rfl (by repeat (first | exact pzH | refine pzM ?_)) rfl ?_; simp only [Act.put, pzT, pzA, pzB]) | (refine lexC_move (by rfl) rfl ?_; simp only [Act.put, pzT, pzA, pzB]) | (refine lexC_assign (by rfl) rfl ?_; simp only [Act.put, pzT, pzA, pzB]))
  refine lexC_call rfl Tryz.func144 (by kernel_rfl) rfl rfl (fun w _ => H3.out w) ?_
  simp only [Act.put, pzT, pzA, pzB]
  refine lexC_zero ?_; simp only [pzC, pzD, pzE, pzF]; (repeat (first | (refine aN_cons (by rfl) ?_; intro g; simp only [Act.put, pzT, pzA, pzB]) | (refine afterAl_skip (by rfl) ?_))); refine afterAl_nil ?_; intro w1 hR
  go_wp2_with (first | (refine wN_box rfl (by rfl) (by assumption) rfl ?_; intro g w1 hR) | (refine wN_alloc rfl (by rfl) (by assumption) ?_; intro g w1 hR) | (refine wN_load rfl (by rfl) (by assumption) rfl (by repeat (first | exact pzH | refine pzM ?_)) rfl ?_) | (refine wN_store rfl (by rfl) (by assumption) rfl rfl (by repeat (first | exact Pick.here | apply Pick.there)) rfl rfl (by first | exact nmc_cells _ | simp [Value.oneCell']) ?_; intro w1 hR))
  exact wN_end Tryz.results119 (by assumption) rfl (List.Mem.head _) rfl rfl fun hb => ⟨rfl, hb⟩
end Go.Proofs.YtaggpodckafbgaaGreatDoor
/- The field's functions: whether two numbers are one; neg, minus, one. -/
namespace Go.Proofs.YtaggpodckafbgaaGreatDoor
open Go.RowKit
theorem eq_cells (a b c d a' b' c' d' : Int) (w : World) : (Op.equalIn 10000 53 (.agg #[.int .u64 a, .int .u64 b, .int .u64 c, .int .u64 d]) (.agg #[.int .u64 a', .int .u64 b', .int .u64 c', .int .u64 d'])).run Tryz.prog w =
    .ok (a == a' && (b == b' && (c == c' && d == d'))) w := by
  have u3 := Tryz.underlying51
  have a3 := Tryz.isAgg51
  have z3 := Tryz.sizeOf51
  rw [show (10000 : Nat) = 9999 + 1 from rfl, Op.equalIn]
  simp only [Sem.run_bind, run_underlying Tryz.underlying53, Result.andThen_ok]
  simp only [Std.Legacy.Range.forIn_eq_forIn_range', Std.Legacy.Range.size, Nat.sub_zero, Nat.add_sub_cancel, Nat.div_one, List.range'_succ, List.range'_zero, List.forIn_cons, List.forIn_nil]
  go_simp
  by_cases h1 : a = a' <;> by_cases h2 : b = b' <;> by_cases h3 : c = c' <;> by_cases h4 : d = d' <;> simp [h1, h2, h3, h4]
theorem eq_num (x y : Nat) (hx : x < 115792089237316195423570985008687907853269984665640564039457584007913129639936) (hy : y < 115792089237316195423570985008687907853269984665640564039457584007913129639936) (w : World) : (Op.equalIn 10000 53 (.agg (nmc x)) (.agg (nmc y))).run Tryz.prog w = .ok (decide (x = y)) w := by
  obtain ⟨a0, a1, a2, a3, ea, va, ha0, ha1, ha2, ha3⟩ := nm_words x hx
  obtain ⟨b0, b1, b2, b3, eb, vb, hb0, hb1, hb2, hb3⟩ := nm_words y hy
  have ea' : nmc x = nmc4 a0 a1 a2 a3 := Value.agg.inj ea
  have eb' : nmc y = nmc4 b0 b1 b2 b3 := Value.agg.inj eb
  rw [ea', eb']
  unfold nmc4
  rw [eq_cells]
  congr 1
  rw [va, vb]
  unfold n4
  by_cases h : a0 = b0 ∧ a1 = b1 ∧ a2 = b2 ∧ a3 = b3
  · obtain ⟨rfl, rfl, rfl, rfl⟩ := h
    simp
  · rw [decide_eq_false (by omega)]
    refine Bool.eq_false_iff.2 fun hh => h ?_
    simp only [Bool.and_eq_true, beq_iff_eq] at hh
    omega
theorem nmc_zero : nmc 0 = #[.int .u64 0, .int .u64 0, .int .u64 0, .int .u64 0] := rfl
set_option maxRecDepth 100000 in
theorem one_any (p : Nat) (w : World) (hp : p < 115792089237316195423570985008687907853269984665640564039457584007913129639936) (h0 : 0 < p) :
    Calls Tryz.prog 86 #[nm p] w fun e w' => e = .returned (nm (115792089237316195423570985008687907853269984665640564039457584007913129639936 - p)) ∧ Below w.heap.size w w' := by
  have hl : ∀ w : World, ∃ b, Calls Tryz.prog 122 #[nm 0, nm p] w fun e w' => e = .returned (.tuple #[nm (115792089237316195423570985008687907853269984665640564039457584007913129639936 - p), .bool b]) ∧ Below w.heap.size w w' := fun w => ⟨_, by
    have h := less_any 0 p w (by decide) hp
    unfold lsD at h
    rw [if_pos h0, Nat.zero_add] at h
    exact h⟩
  unfold nm at hl ⊢
  rw [nmc_zero] at hl
  have HL := Lib.hid hl
  clear hl
  have hR0 := Rws.start w
  go_enter Tryz.func86, Tryz.ntmps86
  go_wp2_with (first
    | (refine wN_box rfl (by rfl) (by assumption) rfl ?_; intro g w1 hR) | (refine wN_alloc rfl (by rfl) (by assumption) ?_; intro g w1 hR) | (refine wN_load rfl (by rfl) (by assumption) rfl (by repeat (first | exact pzH | refine pzM ?_)) rfl ?_) | (refine wN_store rfl (by rfl) (by assumption) rfl rfl (by repeat (first | exact Pick.here | apply Pick.there)) rfl rfl (by first | exact nmc_cells _ | simp [Value.oneCell']) ?_; intro w1 hR)
    | (go_at_call 122; obtain ⟨b, hb⟩ := HL.out _; refine hb.mono ?_; rintro e w1 ⟨rfl, hb1⟩; have hR := Rws.call (by assumption) hb1))
  exact wN_end Tryz.results86 (by assumption) rfl (List.Mem.head _) rfl rfl fun hb => ⟨rfl, hb⟩
set_option maxRecDepth 100000 in
theorem neg_any (m : Int) (a : Nat) (w : World) (ha : a < 115792089237316195423570985008687907853269984665640564039457584007913129639936) :
    Calls Tryz.prog 145 #[.int .i64 m, nm a] w fun e w' => e = .returned (nm ((pp m - a % pp m) % pp m)) ∧ Below w.heap.size w w' := by
  obtain ⟨p, hp⟩ : ∃ p, p = pp m := ⟨_, rfl⟩
  have hbig : Big p := by rw [hp]; exact pp_big m
  have hm : ∀ w : World, Calls Tryz.prog 49 #[.int .i64 m] w fun e w' => e = .returned (nm p) ∧ Below w.heap.size w w' := fun w => by rw [hp]; exact modulus_any m w
  rw [← hp]
  have hp0 : 0 < p := by have := hbig.2; omega
  have hlt := Nat.mod_lt a hp0
  have hp1 := hbig.1
  have h1 : ∀ w : World, Calls Tryz.prog 48 #[nm a, nm p] w fun e w' => e = .returned (nm (a % p)) ∧ Below w.heap.size w w' := fun w => below_any a p w ha hbig
  have h2 : ∀ w : World, ∃ b, Calls Tryz.prog 122 #[nm p, nm (a % p)] w fun e w' => e = .returned (.tuple #[nm (p - a % p), .bool b]) ∧ Below w.heap.size w w' := fun w => ⟨_, by
    have h := less_any p (a % p) w hp1 (by omega)
    unfold lsD at h
    rw [if_neg (by omega)] at h
    exact h⟩
  obtain ⟨x, hx⟩ : ∃ x, x = a % p := ⟨_, rfl⟩
  rw [← hx] at h1 h2 hlt ⊢
  have hq : ∀ w : World, (Op.equalIn 10000 53 (.agg (nmc x)) (.agg (nmc 0))).run Tryz.prog w = .ok (decide (x = 0)) w := fun w => eq_num x 0 (by omega) (by decide) w
  rw [nmc_zero] at hq
  unfold nm at hm h1 h2 ⊢
  have hR0 := Rws.start w
  by_cases h0 : x = 0
  · rw [decide_eq_true h0] at hq
    have e : (p - x) % p = x := by rw [h0, Nat.sub_zero, Nat.mod_self]
    rw [e]
    have HM := Lib.hid hm; have H1 := Lib.hid h1
    clear hm h1 h2 h0 hx e hlt hp1 hp0 hbig hp ha
    go_enter Tryz.func145, Tryz.ntmps145
    go_wp2_with (first
      | (refine wN_box rfl (by rfl) (by assumption) rfl ?_; intro g w1 hR) | (refine wN_alloc rfl (by rfl) (by assumption) ?_; intro g w1 hR) | (refine wN_load rfl (by rfl) (by assumption) rfl (by repeat (first | exact pzH | refine pzM ?_)) rfl ?_) | (refine wN_store rfl (by rfl) (by assumption) rfl rfl (by repeat (first | exact Pick.here | apply Pick.there)) rfl rfl (by first | exact nmc_cells _ | simp [Value.oneCell']) ?_; intro w1 hR)
      | (go_at_call 49; refine (HM.out _).mono ?_; rintro e w1 ⟨rfl, hb1⟩; have hR := Rws.call (by assumption) hb1)
      | (go_at_call 48; refine (H1.out _).mono ?_; rintro e w1 ⟨rfl, hb1⟩; have hR := Rws.call (by assumption) hb1))
    exact wN_end Tryz.results145 (by assumption) rfl (List.Mem.head _) rfl rfl fun hb => ⟨rfl, hb⟩
  · rw [decide_eq_false h0] at hq
    have e : (p - x) % p = p - x := Nat.mod_eq_of_lt (by omega)
    rw [e]
    obtain ⟨r, hr⟩ : ∃ r, r = p - x := ⟨_, rfl⟩
    rw [← hr] at h2 ⊢
    have HM := Lib.hid hm; have H1 := Lib.hid h1; have H2 := Lib.hid h2
    clear hm h1 h2 h0 hx e hlt hp1 hp0 hbig hp ha hr
    go_enter Tryz.func145, Tryz.ntmps145
    go_wp2_with (first
      | (refine wN_box rfl (by rfl) (by assumption) rfl ?_; intro g w1 hR) | (refine wN_alloc rfl (by rfl) (by assumption) ?_; intro g w1 hR) | (refine wN_load rfl (by rfl) (by assumption) rfl (by repeat (first | exact pzH | refine pzM ?_)) rfl ?_) | (refine wN_store rfl (by rfl) (by assumption) rfl rfl (by repeat (first | exact Pick.here | apply Pick.there)) rfl rfl (by first | exact nmc_cells _ | simp [Value.oneCell']) ?_; intro w1 hR)
      | (go_at_call 49; refine (HM.out _).mono ?_; rintro e w1 ⟨rfl, hb1⟩; have hR := Rws.call (by assumption) hb1)
      | (go_at_call 48; refine (H1.out _).mono ?_; rintro e w1 ⟨rfl, hb1⟩; have hR := Rws.call (by assumption) hb1)
      | (go_at_call 122; obtain ⟨b, hb⟩ := H2.out _; refine hb.mono ?_; rintro e w1 ⟨rfl, hb1⟩; have hR := Rws.call (by assumption) hb1))
    exact wN_end Tryz.results145 (by assumption) rfl (List.Mem.head _) rfl rfl fun hb => ⟨rfl, hb⟩
set_option maxRecDepth 100000 in
theorem minus_any (m : Int) (a b : Nat) (w : World) (ha : a < 115792089237316195423570985008687907853269984665640564039457584007913129639936) (hb : b < 115792089237316195423570985008687907853269984665640564039457584007913129639936) :
    Calls Tryz.prog 120 #[.int .i64 m, nm a, nm b] w fun e w' => e = .returned (nm ((a + (pp m - b % pp m) % pp m) % pp m)) ∧ Below w.heap.size w w' := by
  obtain ⟨x, hx⟩ : ∃ x, x = (pp m - b % pp m) % pp m := ⟨_, rfl⟩
  have hxl : x < 115792089237316195423570985008687907853269984665640564039457584007913129639936 := by
    rw [hx]
    exact Nat.lt_trans (Nat.mod_lt _ (by have := (pp_big m).2; omega)) (pp_big m).1
  have h1 : ∀ w : World, Calls Tryz.prog 145 #[.int .i64 m, nm b] w fun e w' => e = .returned (nm x) ∧ Below w.heap.size w w' := fun w => by rw [hx]; exact neg_any m b w hb
  have h2 : ∀ w : World, Calls Tryz.prog 119 #[.int .i64 m, nm a, nm x] w fun e w' => e = .returned (nm ((a + x) % pp m)) ∧ Below w.heap.size w w' := fun w => plus_any m a x w ha hxl
  rw [← hx]
  obtain ⟨r, hr⟩ : ∃ r, r = (a + x) % pp m := ⟨_, rfl⟩
  rw [← hr] at h2 ⊢
  unfold nm at h1 h2 ⊢
  have H1 := Lib.hid h1; have H2 := Lib.hid h2
  clear h1 h2 hr hx hxl ha hb
  have hR0 := Rws.start w
  go_enter Tryz.func120, Tryz.ntmps120
  go_upto_region 1 with (first | (refine wN_box rfl (by rfl) (by assumption) rfl ?_; intro g w1 hR) | (refine wN_alloc rfl (by rfl) (by assumption) ?_; intro g w1 hR) | (refine wN_load rfl (by rfl) (by assumption) rfl (by repeat (first | exact pzH | refine pzM ?_)) rfl ?_) | (refine wN_store rfl (by rfl) (by assumption) rfl rfl (by repeat (first | exact Pick.here | apply Pick.there)) rfl rfl (by first | exact nmc_cells _ | simp [Value.oneCell']) ?_; intro w1 hR))
  refine wp_region_calm 6 (by kernel_rfl) (by kernel_rfl) (by assumption) ?_
  repeat (first | (refine lexC_alloc (by rfl) ?_; simp only [Act.put, pzT, pzA, pzB]) | (refine cN_load (by rfl) rfl (by repeat (first | exact pzH | refine pzM ?_)) rfl ?_; simp only [Act.put, pzT, pzA, pzB]) | (refine lexC_move (by rfl) rfl ?_; simp only [Act.put, pzT, pzA, pzB]) | (refine lexC_assign (by rfl) rfl ?_; simp only [Act.put, pzT, pzA, pzB]))
  refine lexC_call rfl Tryz.func145 (by kernel_rfl) rfl rfl (fun w _ => H1.out w) ?_
  simp only [Act.put, pzT, pzA, pzB]
  repeat (first | (refine lexC_alloc (by rfl) ?_; simp only [Act.put, pzT, pzA, pzB]) | (refine cN_load (by rfl) rfl (by repeat (first | exact pzH | refine pzM ?_)) rfl ?_; simp only [Act.put, pzT, pzA, pzB]) | (refine lexC_move (by rfl) rfl ?_; simp only [Act.put, pzT, pzA, pzB]) | (refine lexC_assign (by rfl) rfl ?_; simp only [Act.put, pzT, pzA, pzB]))
  refine lexC_call rfl Tryz.func119 (by kernel_rfl) rfl rfl (fun w _ => H2.out w) ?_
  simp only [Act.put, pzT, pzA, pzB]
  refine lexC_zero ?_; simp only [pzC, pzD, pzE, pzF]; (repeat (first | (refine aN_cons (by rfl) ?_; intro g; simp only [Act.put, pzT, pzA, pzB]) | (refine afterAl_skip (by rfl) ?_))); refine afterAl_nil ?_; intro w1 hR
  go_wp2_with (first | (refine wN_box rfl (by rfl) (by assumption) rfl ?_; intro g w1 hR) | (refine wN_alloc rfl (by rfl) (by assumption) ?_; intro g w1 hR) | (refine wN_load rfl (by rfl) (by assumption) rfl (by repeat (first | exact pzH | refine pzM ?_)) rfl ?_) | (refine wN_store rfl (by rfl) (by assumption) rfl rfl (by repeat (first | exact Pick.here | apply Pick.there)) rfl rfl (by first | exact nmc_cells _ | simp [Value.oneCell']) ?_; intro w1 hR))
  exact wN_end Tryz.results120 (by assumption) rfl (List.Mem.head _) rfl rfl fun hb => ⟨rfl, hb⟩
end Go.Proofs.YtaggpodckafbgaaGreatDoor
/- wide: the product of two numbers, in eight words. -/
namespace Go.Proofs.YtaggpodckafbgaaGreatDoor
open Go.RowKit
def WD : Nat := 18446744073709551616
theorem WD_eq : WD = 18446744073709551616 := rfl
theorem WD0 : 0 < WD := by rw [WD_eq]; omega
theorem WD_4 : WD ^ 4 = 115792089237316195423570985008687907853269984665640564039457584007913129639936 := by decide +kernel
theorem WD_8 : WD ^ 8 = 13407807929942597099574024998205846127479365820592393377723561443721764030073546976801874298166903427690031858186486050853753882811946569946433649006084096 := by decide +kernel
theorem nmc_dg (v : Nat) (hv : v < 115792089237316195423570985008687907853269984665640564039457584007913129639936) : ∀ j, j < 4 → (nmc v)[j]? = some (.int .u64 ((Dg.dg WD v j : Nat) : Int)) := by
  intro j hj
  have e : ∀ i, Dg.dg WD v i = v / WD ^ i % WD := fun _ => rfl
  rcases (by omega : j = 0 ∨ j = 1 ∨ j = 2 ∨ j = 3) with rfl | rfl | rfl | rfl
  · show some (Value.int .u64 ((v % 18446744073709551616 : Nat) : Int)) = _
    rw [e, Nat.pow_zero, Nat.div_one, WD_eq]
  · show some (Value.int .u64 ((v / 18446744073709551616 % 18446744073709551616 : Nat) : Int)) = _
    rw [e, Nat.pow_one, WD_eq]
  · show some (Value.int .u64 ((v / 340282366920938463463374607431768211456 % 18446744073709551616 : Nat) : Int)) = _
    rw [e, show WD ^ 2 = 340282366920938463463374607431768211456 by decide +kernel, WD_eq]
  · show some (Value.int .u64 ((v / 6277101735386680763835789423207666416102355444464034512896 : Nat) : Int)) = _
    rw [e, show WD ^ 3 = 6277101735386680763835789423207666416102355444464034512896 by decide +kernel, WD_eq, Nat.mod_eq_of_lt (by omega : v / 6277101735386680763835789423207666416102355444464034512896 < 18446744073709551616)]
def wdc (v : Nat) : Array Value := #[.int .u64 ((Dg.dg WD v 0 : Nat) : Int), .int .u64 ((Dg.dg WD v 1 : Nat) : Int), .int .u64 ((Dg.dg WD v 2 : Nat) : Int), .int .u64 ((Dg.dg WD v 3 : Nat) : Int), .int .u64 ((Dg.dg WD v 4 : Nat) : Int), .int .u64 ((Dg.dg WD v 5 : Nat) : Int), .int .u64 ((Dg.dg WD v 6 : Nat) : Int), .int .u64 ((Dg.dg WD v 7 : Nat) : Int)]
theorem wdc_size (v : Nat) : (wdc v).size = 8 := rfl
theorem wdc_cells (v : Nat) : (wdc v).all (·.oneCell') = true := by simp [wdc, Value.oneCell']
theorem wdc_dg (v : Nat) : ∀ j, j < 8 → (wdc v)[j]? = some (.int .u64 ((Dg.dg WD v j : Nat) : Int)) := by
  intro j hj
  rcases (by omega : j = 0 ∨ j = 1 ∨ j = 2 ∨ j = 3 ∨ j = 4 ∨ j = 5 ∨ j = 6 ∨ j = 7) with rfl | rfl | rfl | rfl | rfl | rfl | rfl | rfl <;> rfl
def z8 : Array Value := #[.int .u64 0, .int .u64 0, .int .u64 0, .int .u64 0, .int .u64 0, .int .u64 0, .int .u64 0, .int .u64 0]
theorem zero_wide : ∀ w : World, (zeroValue 108).run Tryz.prog w = .ok (.agg z8) w := Tryz.zeroValue108
theorem wide_info {cs : Array Value} (h : cs.size = 8) : (Tryz.prog.info? 108).map (·.size) = some cs.size := by rw [h]; kernel_rfl
theorem wmul_step {X S S' i cr x y nw : Nat} (hS' : S' = S + x * y * WD ^ i) (hcr : S / WD ^ i = X / WD ^ i + cr) (hnw : nw = cr + (x * y + Dg.dg WD X i)) :
    nw % WD = Dg.dg WD S' i ∧ S' / WD ^ (i + 1) = X / WD ^ (i + 1) + nw / WD ∧ ∀ j, j < i → Dg.dg WD S' j = Dg.dg WD S j := by
  have hB : 0 < WD := WD0
  have hp : 0 < WD ^ i := Nat.pow_pos hB
  have e1 : S' / WD ^ i = X / WD ^ i + cr + x * y := by
    rw [hS', Nat.mul_comm (x * y), Nat.add_mul_div_left _ _ hp, hcr]
  have e2 : X / WD ^ i = WD * (X / WD ^ (i + 1)) + Dg.dg WD X i := by
    unfold Dg.dg
    rw [Nat.pow_succ, ← Nat.div_div_eq_div_mul]
    exact (Nat.div_add_mod _ _).symm
  have e3 : S' / WD ^ i = nw + WD * (X / WD ^ (i + 1)) := by rw [e1, hnw]; omega
  refine ⟨?_, ?_, fun j hj => ?_⟩
  · show _ = S' / WD ^ i % WD
    rw [e3, Nat.add_mul_mod_self_left]
  · have e5 : S' / WD ^ (i + 1) = S' / WD ^ i / WD := by rw [Nat.pow_succ, Nat.div_div_eq_div_mul]
    rw [e5, e3, Nat.add_mul_div_left _ _ hB]; omega
  · rw [hS']
    unfold Dg.dg
    obtain ⟨d, rfl⟩ : ∃ d, i = j + 1 + d := ⟨i - (j + 1), by omega⟩
    have e4 : x * y * WD ^ (j + 1 + d) = WD ^ j * (WD * (x * y * WD ^ d)) := by
      rw [Nat.pow_add, Nat.pow_succ]
      simp only [Nat.mul_comm, Nat.mul_left_comm, Nat.mul_assoc]
    rw [e4, Nat.add_mul_div_left _ _ (Nat.pow_pos hB), Nat.add_mul_mod_self_left]
theorem wrap64 (n : Int) : IntKind.u64.wrap n = n % 18446744073709551616 := by simp [IntKind.wrap, IntKind.bits, IntKind.signed]
theorem wround_ex (x y cr z : Nat) (hx : x < 18446744073709551616) (hy : y < 18446744073709551616) (hc : cr < 18446744073709551616) (hz : z < 18446744073709551616) :
    ∃ hi lo lo1 c1 h1 o c2 k : Nat,
      (∀ w : World, Calls Tryz.prog 123 #[.int .u64 (x : Int), .int .u64 (y : Int)] w fun e w' => e = .returned (.tuple #[.int .u64 (hi : Int), .int .u64 (lo : Int)]) ∧ w = w') ∧
      (∀ w : World, (callFunc 87 #[.int .u64 (lo : Int), .int .u64 (cr : Int), .int .u64 0]).run Tryz.prog w = .ok (.value (.tuple #[.int .u64 (lo1 : Int), .int .u64 (c1 : Int)])) w) ∧
      IntKind.u64.wrap ((hi : Int) + (c1 : Int)) = (h1 : Int) ∧
      (∀ w : World, (callFunc 87 #[.int .u64 (z : Int), .int .u64 (lo1 : Int), .int .u64 0]).run Tryz.prog w = .ok (.value (.tuple #[.int .u64 (o : Int), .int .u64 (c2 : Int)])) w) ∧
      IntKind.u64.wrap ((h1 : Int) + (c2 : Int)) = (k : Int) ∧ k < 18446744073709551616 ∧ o < 18446744073709551616 ∧ cr + (x * y + z) = o + 18446744073709551616 * k := by
  obtain ⟨lo1, c1, hc1, hl1, hk1, q1⟩ := add64_ex0 (x * y % 18446744073709551616) cr (Nat.mod_lt _ (by decide)) hc
  obtain ⟨o, c2, hc2, hl2, hk2, q2⟩ := add64_ex0 z lo1 hz hl1
  have hxy : x * y ≤ 18446744073709551615 * 18446744073709551615 := Nat.mul_le_mul (by omega) (by omega)
  refine ⟨x * y / 18446744073709551616, x * y % 18446744073709551616, lo1, c1, x * y / 18446744073709551616 + c1, o, c2, x * y / 18446744073709551616 + c1 + c2, fun w => (Tryz.bits_Mul64 x y hx hy w).mono fun e w' ⟨h1, h2⟩ => ⟨h1, h2.symm⟩, hc1, ?_, hc2, ?_, ?_, hl2, ?_⟩
  · rw [wrap64]; omega
  · rw [wrap64]; omega
  · omega
  · omega
theorem run_index_num (v i : Nat) (hv : v < 115792089237316195423570985008687907853269984665640564039457584007913129639936) (hi : i < 4) (w : World) : (Instr.index 53 (.agg (nmc v)) (.int .i64 (i : Int))).run Tryz.prog w = .ok (.int .u64 ((Dg.dg WD v i : Nat) : Int)) w := by
  have u3 := Tryz.underlying51
  have a3 := Tryz.isAgg51
  have z3 := Tryz.sizeOf51
  have hc := nmc_dg v hv i hi
  unfold Instr.index
  simp only [asIntOf, Sem.run_bind, Sem.run_pure, Result.andThen_ok, run_underlying Tryz.underlying53]
  rw [if_pos (by omega)]
  simp [part, Sem.run_bind, a3, z3, hc]
theorem own_put_int {wr : World} {kd : IntKind} {e g n k s : Nat} {v : Int} {f h : Nat → Nat} (hown : Own wr kd e g n f) (hv : v = (s : Nat)) (hs : s = h k) (he : ∀ j, j < n → j ≠ k → f j = h j) :
    Own (wr.setCell ⟨g, k, none⟩ (.int kd v)) kd e g n h := by
  rw [hv]
  refine (hown.set k s).congr fun j hj => ?_
  by_cases h1 : j = k
  · subst h1; simp [hs]
  · simp [h1, he j hj h1]
section
variable {B : Nat} {w0 w : World} {L : List (Nat × Array Value × TypeId)}
theorem Rws.cell (h : Rws B w0 w L) {g : Nat} (hg : B ≤ g) (hn : ∀ x, x ∈ L → x.1 ≠ g) (j : Nat) (v : Value) : Rws B w0 (w.setCell ⟨g, j, none⟩ v) L :=
  ⟨h.below.setCell hg v, by rw [World.size_setCell]; exact h.len, fun x hx => ⟨(h.row x hx).1, (heap_setCell_other w ⟨g, j, none⟩ x.1 v (hn x hx)).trans (h.row x hx).2⟩, h.nd⟩
theorem Rws.own (h : Rws B w0 w L) {g n : Nat} {cs : Array Value} {t : TypeId} {k : IntKind} {f : Nat → Nat} (hm : (g, cs, t) ∈ L) (hs : cs.size = n) (hn : n ≤ 9223372036854775807) (hc : ∀ j, j < n → cs[j]? = some (.int k ((f j : Nat) : Int))) : Own w k t g n f :=
  ⟨cs, (h.row _ hm).2, hs, hn, hc⟩
theorem Rws.ofOwn (h : Rws B w0 w L) {g n : Nat} {cs : Array Value} {t : TypeId} {k : IntKind} {f : Nat → Nat} (ho : Own w k t g n f) (hg : B ≤ g) (hn : ∀ x, x ∈ L → x.1 ≠ g) (hs : cs.size = n) (hc : ∀ j, j < n → cs[j]? = some (.int k ((f j : Nat) : Int))) : Rws B w0 w ((g, cs, t) :: L) := by
  obtain ⟨cur, hh, hcs, _, hcc⟩ := ho
  have e : cur = cs := by
    apply Array.ext_getElem?
    intro j
    by_cases hj : j < n
    · rw [hcc j hj, hc j hj]
    · rw [Array.getElem?_eq_none (by omega), Array.getElem?_eq_none (by omega)]
  subst e
  exact h.add hg hh hn
end
set_option maxRecDepth 100000 in
set_option maxHeartbeats 800000 in
theorem wide_any (a b : Nat) (w : World) (ha : a < 115792089237316195423570985008687907853269984665640564039457584007913129639936) (hb : b < 115792089237316195423570985008687907853269984665640564039457584007913129639936) :
    Calls Tryz.prog 85 #[nm a, nm b] w fun e w' => e = .returned (.agg (wdc (a * b))) ∧ Below w.heap.size w w' := by
  have hia : ∀ (i : Nat), i < 4 → ∀ w : World, (Instr.index 53 (.agg (nmc a)) (.int .i64 (i : Int))).run Tryz.prog w = .ok (.int .u64 ((Dg.dg WD a i : Nat) : Int)) w := fun i hi w => run_index_num a i ha hi w
  have hib : ∀ (i : Nat), i < 4 → ∀ w : World, (Instr.index 53 (.agg (nmc b)) (.int .i64 (i : Int))).run Tryz.prog w = .ok (.int .u64 ((Dg.dg WD b i : Nat) : Int)) w := fun i hi w => run_index_num b i hb hi w
  have HIA := Lib.hid hia; have HIB := Lib.hid hib
  have ha0 : a < WD ^ 4 := by rw [WD_4]; exact ha
  have hb0 : b < WD ^ 4 := by rw [WD_4]; exact hb
  have HA0 := Lib.hid ha0; have HB0 := Lib.hid hb0; have HB := Lib.hid WD0
  clear hia hib ha0 hb0 ha hb
  unfold nm
  have hR0 := Rws.start w
  go_enter Tryz.func85, Tryz.ntmps85
  go_upto_region 2 with (first
    | (refine wN_box rfl (by rfl) (by assumption) rfl ?_; intro g w1 hR) | (refine wN_alloc rfl (by rfl) (by assumption) ?_; intro g w1 hR) | (refine wN_load rfl (by rfl) (by assumption) rfl (by repeat (first | exact pzH | refine pzM ?_)) rfl ?_) | (refine wN_store rfl (by rfl) (by assumption) rfl rfl (by repeat (first | exact Pick.here | apply Pick.there)) rfl rfl (by first | exact nmc_cells _ | simp [Value.oneCell']) ?_; intro w1 hR)
    | (refine wpList_alloc_rws rfl 108 (by rfl) (by assumption) z8 zero_wide ?_; intro g w1 hR))
  rename_i ga _ _ gb _ _ gr _ _ _ _ _ _
  have hown : Own w1 .u64 108 g 8 (Dg.dg WD (a % WD ^ 0 * b)) := hR.own (List.Mem.head _) rfl (by omega) (fun j hj => by
    rw [Nat.pow_zero, Nat.mod_one, Nat.zero_mul, Dg.dg_zero]
    rcases (by omega : j = 0 ∨ j = 1 ∨ j = 2 ∨ j = 3 ∨ j = 4 ∨ j = 5 ∨ j = 6 ∨ j = 7) with rfl | rfl | rfl | rfl | rfl | rfl | rfl | rfl <;> rfl)
  have hne : ∀ x, x ∈ [(gr, z8, 108), (gb, nmc b, 53), (ga, nmc a, 53)] → x.1 ≠ g := fun x hx e => (List.pairwise_cons.1 hR.nd).1 x hx e.symm
  have hg : w.heap.size ≤ g := (hR.row _ (List.Mem.head _)).1
  have hR3 : Rws w.heap.size w w1 [(gr, z8, 108), (gb, nmc b, 53), (ga, nmc a, 53)] := hR.sub (List.sublist_cons_self _ _)
  have HNE := Lib.hid hne; have HG := Lib.hid hg
  clear hne hg hR
  go_wp2_with (first | (refine wN_box rfl (by rfl) (by assumption) rfl ?_; intro g w1 hR) | (refine wN_alloc rfl (by rfl) (by assumption) ?_; intro g w1 hR) | (refine wN_load rfl (by rfl) (by assumption) rfl (by repeat (first | exact pzH | refine pzM ?_)) rfl ?_) | (refine wN_store rfl (by rfl) (by assumption) rfl rfl (by repeat (first | exact Pick.here | apply Pick.there)) rfl rfl (by first | exact nmc_cells _ | simp [Value.oneCell']) ?_; intro w1 hR))
  go_loopw [15] (fun i wr => ∃ k : Nat, k ≤ 4 ∧ i = .int .i64 k ∧ Own wr .u64 108 g 8 (Dg.dg WD (a % WD ^ k * b)) ∧ Rws w.heap.size w wr [(gr, z8, 108), (gb, nmc b, 53), (ga, nmc a, 53)]) (fun i _ => 4 - (intOf i).toNat)
  case atStart => exact ⟨0, Nat.zero_le _, rfl, hown, hR3⟩
  case round =>
    clear hown hR3
    obtain ⟨i, hi, rfl, hown, hR⟩ := hrel
    by_cases hin : i < 4
    · have hix := HIA.out i hin
      obtain ⟨x, hx⟩ : ∃ x, x = Dg.dg WD a i := ⟨_, rfl⟩
      rw [← hx] at hix
      have hxl : x < 18446744073709551616 := by rw [hx]; exact Dg.dg_lt HB.out a i
      have HX := Lib.hid hx; clear hx
      obtain ⟨X, hX⟩ : ∃ X, X = a % WD ^ i * b := ⟨_, rfl⟩
      rw [← hX] at hown
      have HXX := Lib.hid hX; clear hX
      go_wp2_with (refine wN_load rfl (by rfl) (by assumption) rfl (by repeat (first | exact pzH | refine pzM ?_)) rfl ?_)
      obtain ⟨wo, rfl⟩ : ∃ wo : World, wo = wr := ⟨_, rfl⟩
      go_loopw [8, 20] (fun cv i2 wr => ∃ k cr : Nat, k ≤ 4 ∧ i2 = .int .i64 k ∧ cv = .int .u64 cr ∧ cr < 18446744073709551616 ∧ Hid ((X + x * (b % WD ^ k) * WD ^ i) / WD ^ (i + k) = X / WD ^ (i + k) + cr) ∧ Own wr .u64 108 g 8 (fun j => if j < i + k then Dg.dg WD (X + x * (b % WD ^ k) * WD ^ i) j else Dg.dg WD X j) ∧ Rws w.heap.size w wr [(gr, z8, 108), (gb, nmc b, 53), (ga, nmc a, 53)]) (fun _ i2 _ => 4 - (intOf i2).toNat)
      case atStart => exact ⟨0, 0, Nat.zero_le _, rfl, rfl, by omega, by simp [Nat.mod_one, Hid], hown.congr fun j _ => by simp [Nat.mod_one], hR⟩
      case round =>
        clear hown hR
        obtain ⟨k, cr, hk, rfl, rfl, hcr, hcq, hown, hR⟩ := hrel
        by_cases hkm : k < 4
        · have hiy := HIB.out k hkm
          obtain ⟨y, hy⟩ : ∃ y, y = Dg.dg WD b k := ⟨_, rfl⟩
          rw [← hy] at hiy
          have hyl : y < 18446744073709551616 := by rw [hy]; exact Dg.dg_lt HB.out b k
          have HY := Lib.hid hy; clear hy
          have hco : wr.cell? ⟨g, i + k, none⟩ = some (.int .u64 (Dg.dg WD X (i + k) : Nat)) := by simpa using hown.cell (i + k) (by omega)
          obtain ⟨z, hz⟩ : ∃ z, z = Dg.dg WD X (i + k) := ⟨_, rfl⟩
          rw [← hz] at hco
          have hzl : z < 18446744073709551616 := by rw [hz]; exact Dg.dg_lt HB.out X _
          have HZ := Lib.hid hz; clear hz
          have hfr := hown.frozen (i + k)
          obtain ⟨hi', lo, lo1, c1, h1, o, c2, cr', hM, hA1, hw1, hA2, hw2, hcl, hol, hq⟩ := wround_ex x y cr z hxl hyl hcr hzl
          have HM := Lib.hid hM; have HQ := Lib.hid hq
          clear hM hq
          have HW1 := Lib.hid hw1; have HW2 := Lib.hid hw2
          clear hw1 hw2
          go_wp2_with (go_at_call 123; refine (HM.out _).mono ?_; rintro e w' ⟨rfl, rfl⟩)
          have hS' : X + x * (b % WD ^ (k + 1)) * WD ^ i = X + x * (b % WD ^ k) * WD ^ i + x * y * WD ^ (i + k) := by
            rw [Dg.mod_succ, ← HY.out, Nat.mul_add, Nat.add_mul, Nat.pow_add]
            have : x * (WD ^ k * y) * WD ^ i = x * y * (WD ^ i * WD ^ k) := by simp only [Nat.mul_comm, Nat.mul_left_comm, Nat.mul_assoc]
            omega
          have R := wmul_step (i := i + k) (nw := o + 18446744073709551616 * cr') hS' hcq.out (by rw [← HZ.out]; exact HQ.out.symm)
          have r1 : (o + 18446744073709551616 * cr') % WD = o := by rw [WD_eq]; omega
          have r2 : (o + 18446744073709551616 * cr') / WD = cr' := by rw [WD_eq]; omega
          rw [r1, r2] at R
          go_roundw
          case rel => exact ⟨k + 1, cr', by omega, by go_num, by rw [HW1.out, HW2.out], hcl, R.2.1, own_put_int hown (s := o) rfl (by rw [if_pos (by omega)]; exact R.1) (fun j hj hne => by
            by_cases h1 : j < i + k
            · rw [if_pos h1, if_pos (by omega)]; exact (R.2.2 j h1).symm
            · rw [if_neg h1, if_neg (by omega)]), hR.cell HG.out HNE.out _ _⟩
          case measure => simp [intOf]; omega
        · obtain rfl : k = 4 := by omega
          have hS : X + x * (b % WD ^ 4) * WD ^ i = a % WD ^ (i + 1) * b := by
            rw [Nat.mod_eq_of_lt HB0.out, Dg.mod_succ, ← HX.out, Nat.add_mul, ← HXX.out]
            have : x * b * WD ^ i = WD ^ i * x * b := by simp only [Nat.mul_comm, Nat.mul_assoc]
            omega
          have hXlt : X < WD ^ (i + 4) := by
            rw [HXX.out, Nat.pow_add]
            exact Nat.mul_lt_mul'' (Nat.mod_lt _ (Nat.pow_pos HB.out)) HB0.out
          have hSlt : a % WD ^ (i + 1) * b < WD ^ (i + 1 + 4) := by
            rw [Nat.pow_add WD (i + 1) 4]
            exact Nat.mul_lt_mul'' (Nat.mod_lt _ (Nat.pow_pos HB.out)) HB0.out
          have hcrd : cr = Dg.dg WD (a % WD ^ (i + 1) * b) (i + 4) := by
            have h1 := hcq.out
            rw [hS, Nat.div_eq_of_lt hXlt, Nat.zero_add] at h1
            unfold Dg.dg
            rw [h1, Nat.mod_eq_of_lt (by rw [WD_eq]; exact hcr)]
          have hco : wr.cell? ⟨g, i + 4, none⟩ = some (.int .u64 (Dg.dg WD X (i + 4) : Nat)) := by simpa using hown.cell (i + 4) (by omega)
          have hfr := hown.frozen (i + 4)
          have HS := Lib.hid hS; have HXL := Lib.hid hXlt; have HSL := Lib.hid hSlt; have HCR := Lib.hid hcrd
          clear hS hXlt hSlt hcrd
          go_wp2_with fail
          go_roundw
          case rel => exact ⟨i + 1, by omega, by go_num, own_put_int hown (s := cr) rfl HCR.out (fun j hj hne => by
            rw [HS.out]
            by_cases h1 : j < i + 4
            · rw [if_pos h1]
            · rw [if_neg h1, Dg.dg_of_lt_le HB.out HXL.out (by omega), Dg.dg_of_lt_le HB.out HSL.out (by omega)]), hR.cell HG.out HNE.out _ _⟩
          case measure => simp [intOf]; omega
    · obtain rfl : i = 4 := by omega
      rw [Nat.mod_eq_of_lt HA0.out] at hown
      have hR4 := hR.ofOwn hown HG.out HNE.out (wdc_size (a * b)) (wdc_dg (a * b))
      clear hown hR
      go_wp2_with (first
        | (refine wpList_load_rws rfl 108 _ (by rfl) (by assumption) _ rfl _ 108 (by repeat (first | exact pzH | refine pzM ?_)) _ Tryz.underlying108 rfl (by exact wide_info (wdc_size _)) ?_)
        | (refine wpList_store_rws rfl 108 _ _ (by rfl) (by assumption) _ rfl _ rfl _ 108 _ (by repeat (first | exact Pick.here | apply Pick.there)) (by exact wide_info (wdc_size _)) (by rfl) (by exact wdc_cells _) ?_; intro w1 hR))
      exact bodyPost_rws Tryz.results85 (by assumption) _ rfl _ _ (List.Mem.head _) _ Tryz.underlying108 rfl (wide_info (wdc_size _)) rfl fun hb => ⟨rfl, hb⟩
end Go.Proofs.YtaggpodckafbgaaGreatDoor
/- times: the product modulo the modulus. -/
namespace Go.Proofs.YtaggpodckafbgaaGreatDoor
open Go.RowKit
def rowVal (w : World) (g : Nat) : Nat := Dg.vf WD (fun j => match w.cell? ⟨g, j, none⟩ with | some v => (intOf v).toNat | none => 0) 8
theorem rowVal_own {w : World} {e g v : Nat} (h : Own w .u64 e g 8 (Dg.dg WD v)) (hv : v < WD ^ 8) : rowVal w g = v := by
  unfold rowVal
  rw [← Dg.vf_dg_of_lt hv]
  refine Dg.vf_congr fun j hj => ?_
  rw [h.cell j hj]
  show Int.toNat ((Dg.dg WD v j : Nat) : Int) = _
  rw [Int.toNat_natCast]
theorem fold_step {W p hi lo : Nat} (hW : W < 13407807929942597099574024998205846127479365820592393377723561443721764030073546976801874298166903427690031858186486050853753882811946569946433649006084096) (hp : Big p) (hh : hi = W / 115792089237316195423570985008687907853269984665640564039457584007913129639936) (hl : lo = W % 115792089237316195423570985008687907853269984665640564039457584007913129639936) (h0 : 0 < hi) :
    hi * (115792089237316195423570985008687907853269984665640564039457584007913129639936 - p) + lo < W ∧ (hi * (115792089237316195423570985008687907853269984665640564039457584007913129639936 - p) + lo) % p = W % p ∧ hi < 115792089237316195423570985008687907853269984665640564039457584007913129639936 := by
  have hp1 := hp.1
  have hp2 := hp.2
  have e : W = hi * 115792089237316195423570985008687907853269984665640564039457584007913129639936 + lo := by rw [hh, hl]; omega
  have e2 : hi * (115792089237316195423570985008687907853269984665640564039457584007913129639936 - p) + hi * p = hi * 115792089237316195423570985008687907853269984665640564039457584007913129639936 := by rw [← Nat.mul_add]; congr 1; omega
  have e3 : 0 < hi * p := Nat.mul_pos h0 (by omega)
  refine ⟨by omega, ?_, by omega⟩
  have e4 : W = hi * (115792089237316195423570985008687907853269984665640564039457584007913129639936 - p) + lo + p * hi := by rw [Nat.mul_comm p hi]; omega
  rw [e4, Nat.add_mul_mod_self_left]
theorem or_words (a b c d : Nat) (ha : a < 18446744073709551616) (hb : b < 18446744073709551616) (hc : c < 18446744073709551616) (hd : d < 18446744073709551616) : ∃ q : Nat, bits .or .u64 (bits .or .u64 (bits .or .u64 (a : Int) (b : Int)) (c : Int)) (d : Int) = (q : Int) ∧ (q = 0 ↔ a = 0 ∧ b = 0 ∧ c = 0 ∧ d = 0) := by
  have h1 : a ||| b < 2 ^ 64 := Nat.or_lt_two_pow (by omega) (by omega)
  have h2 : a ||| b ||| c < 2 ^ 64 := Nat.or_lt_two_pow h1 (by omega)
  refine ⟨a ||| b ||| c ||| d, ?_, ?_⟩
  · rw [u64_or_nat _ _ ha hb, u64_or_nat _ _ (by omega) hc, u64_or_nat _ _ (by omega) hd]
  · rw [Nat.or_eq_zero_iff, Nat.or_eq_zero_iff, Nat.or_eq_zero_iff, and_assoc, and_assoc]
theorem top_words {W : Nat} (hW : W < 13407807929942597099574024998205846127479365820592393377723561443721764030073546976801874298166903427690031858186486050853753882811946569946433649006084096) : W / 115792089237316195423570985008687907853269984665640564039457584007913129639936 = Dg.dg WD W 4 + 18446744073709551616 * Dg.dg WD W 5 + 340282366920938463463374607431768211456 * Dg.dg WD W 6 + 6277101735386680763835789423207666416102355444464034512896 * Dg.dg WD W 7 ∧ nmc (W / 115792089237316195423570985008687907853269984665640564039457584007913129639936) = #[.int .u64 ((Dg.dg WD W 4 : Nat) : Int), .int .u64 ((Dg.dg WD W 5 : Nat) : Int), .int .u64 ((Dg.dg WD W 6 : Nat) : Int), .int .u64 ((Dg.dg WD W 7 : Nat) : Int)] := by
  have e : ∀ j, Dg.dg WD W (4 + j) = Dg.dg WD (W / 115792089237316195423570985008687907853269984665640564039457584007913129639936) j := fun j => by rw [← Dg.dg_div, WD_4]
  have hlt : W / 115792089237316195423570985008687907853269984665640564039457584007913129639936 < WD ^ 4 := by rw [WD_4]; omega
  have h := Dg.vf_dg_of_lt hlt
  refine ⟨?_, ?_⟩
  · rw [show Dg.dg WD W 4 = _ from e 0, show Dg.dg WD W 5 = _ from e 1, show Dg.dg WD W 6 = _ from e 2, show Dg.dg WD W 7 = _ from e 3]
    have e0 : ∀ i, Dg.dg WD (W / 115792089237316195423570985008687907853269984665640564039457584007913129639936) i = W / 115792089237316195423570985008687907853269984665640564039457584007913129639936 / WD ^ i % WD := fun _ => rfl
    rw [e0, e0, e0, e0, Nat.pow_zero, Nat.div_one, Nat.pow_one, show WD ^ 2 = 340282366920938463463374607431768211456 by decide +kernel, show WD ^ 3 = 6277101735386680763835789423207666416102355444464034512896 by decide +kernel, WD_eq]
    omega
  · rw [show Dg.dg WD W 4 = _ from e 0, show Dg.dg WD W 5 = _ from e 1, show Dg.dg WD W 6 = _ from e 2, show Dg.dg WD W 7 = _ from e 3]
    have hc := nmc_dg (W / 115792089237316195423570985008687907853269984665640564039457584007913129639936) (by omega)
    apply Array.ext_getElem?
    intro j
    by_cases hj : j < 4
    · rw [hc j hj]
      rcases (by omega : j = 0 ∨ j = 1 ∨ j = 2 ∨ j = 3) with rfl | rfl | rfl | rfl <;> rfl
    · rw [Array.getElem?_eq_none (by rw [nmc_size]; omega), Array.getElem?_eq_none (by simp; omega)]
theorem low_words {W : Nat} (hW : W < 115792089237316195423570985008687907853269984665640564039457584007913129639936) : nmc W = #[.int .u64 ((Dg.dg WD W 0 : Nat) : Int), .int .u64 ((Dg.dg WD W 1 : Nat) : Int), .int .u64 ((Dg.dg WD W 2 : Nat) : Int), .int .u64 ((Dg.dg WD W 3 : Nat) : Int)] := by
  have hc := nmc_dg W hW
  apply Array.ext_getElem?
  intro j
  by_cases hj : j < 4
  · rw [hc j hj]
    rcases (by omega : j = 0 ∨ j = 1 ∨ j = 2 ∨ j = 3) with rfl | rfl | rfl | rfl <;> rfl
  · rw [Array.getElem?_eq_none (by rw [nmc_size]; omega), Array.getElem?_eq_none (by simp; omega)]
theorem isAgg_word : ∀ w : World, (isAgg 51).run Tryz.prog w = .ok false w := Tryz.isAgg51
theorem word_info : (Tryz.prog.info? 51).map (·.size) = some 1 := by kernel_rfl
set_option maxRecDepth 100000 in
set_option maxHeartbeats 1600000 in
theorem times_any (m : Int) (a b : Nat) (w : World) (ha : a < 115792089237316195423570985008687907853269984665640564039457584007913129639936) (hb : b < 115792089237316195423570985008687907853269984665640564039457584007913129639936) :
    Calls Tryz.prog 50 #[.int .i64 m, nm a, nm b] w fun e w' => e = .returned (nm (a * b % pp m)) ∧ Below w.heap.size w w' := by
  obtain ⟨p, hp⟩ : ∃ p, p = pp m := ⟨_, rfl⟩
  have hbig : Big p := by rw [hp]; exact pp_big m
  have hm : ∀ w : World, Calls Tryz.prog 49 #[.int .i64 m] w fun e w' => e = .returned (nm p) ∧ Below w.heap.size w w' := fun w => by rw [hp]; exact modulus_any m w
  have hw : ∀ w : World, Calls Tryz.prog 85 #[nm a, nm b] w fun e w' => e = .returned (.agg (wdc (a * b))) ∧ Below w.heap.size w w' := fun w => wide_any a b w ha hb
  have h1 : ∀ w : World, Calls Tryz.prog 86 #[nm p] w fun e w' => e = .returned (nm (115792089237316195423570985008687907853269984665640564039457584007913129639936 - p)) ∧ Below w.heap.size w w' := fun w => one_any p w hbig.1 (by have := hbig.2; omega)
  have hab : a * b < 13407807929942597099574024998205846127479365820592393377723561443721764030073546976801874298166903427690031858186486050853753882811946569946433649006084096 := by
    have := Nat.mul_lt_mul'' ha hb
    omega
  rw [← hp]
  obtain ⟨ab, hab'⟩ : ∃ x, x = a * b := ⟨_, rfl⟩
  rw [← hab'] at hw hab ⊢
  obtain ⟨q, hq⟩ : ∃ x, x = 115792089237316195423570985008687907853269984665640564039457584007913129639936 - p := ⟨_, rfl⟩
  rw [← hq] at h1
  unfold nm at hm hw h1 ⊢
  have HM := Lib.hid hm; have HW := Lib.hid hw; have H1 := Lib.hid h1; have HBIG := Lib.hid hbig; have HAB := Lib.hid hab; have HQ := Lib.hid hq; have HB := Lib.hid WD0
  clear hm hw h1 hbig hab hp hab' hq ha hb
  have hR0 := Rws.start w
  go_enter Tryz.func50, Tryz.ntmps50
  go_upto_region 1 with (first
    | (refine wN_box rfl (by rfl) (by assumption) rfl ?_; intro ga w1 hR)
    | (refine wN_alloc rfl (by rfl) (by assumption) ?_; intro gr w1 hR))
  go_upto_region 2 with (first
    | (refine wN_alloc rfl (by rfl) (by assumption) ?_; intro gp w1 hR)
    | (refine wN_store rfl (by rfl) (by assumption) rfl rfl (by repeat (first | exact Pick.here | apply Pick.there)) rfl rfl (by exact nmc_cells _) ?_; intro w1 hR)
    | (go_at_call 49; refine (HM.out _).mono ?_; rintro e w1 ⟨rfl, hb1⟩; have hR := Rws.call (by assumption) hb1))
  go_wp2_with (first
    | (refine wN_load rfl (by rfl) (by assumption) rfl (by repeat (first | exact pzH | refine pzM ?_)) rfl ?_)
    | (refine wpList_alloc_rws rfl 108 (by rfl) (by assumption) z8 zero_wide ?_; intro g w1 hR)
    | (refine wpList_store_rws rfl 108 _ _ (by rfl) (by assumption) _ rfl _ rfl _ 108 _ (by repeat (first | exact Pick.here | apply Pick.there)) (by exact wide_info (wdc_size _)) (by rfl) (by exact wdc_cells _) ?_; intro w1 hR)
    | (go_at_call 85; refine (HW.out _).mono ?_; rintro e w1 ⟨rfl, hb1⟩; have hR := Rws.call (by assumption) hb1))
  have hR3 : Rws w.heap.size w w1 [(g, wdc ab, 108), (gp, nmc p, 53), (gr, z4, 53)] := hR.sub (.cons_cons _ (.cons_cons _ (.cons_cons _ (List.nil_sublist _))))
  clear hR
  simp only [Act.put, pzT, pzA, pzB]
  go_loopw [10] (fun _ wr => ∃ X : Nat, X < 13407807929942597099574024998205846127479365820592393377723561443721764030073546976801874298166903427690031858186486050853753882811946569946433649006084096 ∧ Hid (X % p = ab % p) ∧ Rws w.heap.size w wr [(g, wdc X, 108), (gp, nmc p, 53), (gr, z4, 53)]) (fun _ wr => rowVal wr g)
  case atStart => exact ⟨ab, HAB.out, rfl, hR3⟩
  case round =>
    clear hR3
    obtain ⟨X, hX, hXp, hR⟩ := hrel
    have hown : Own wr .u64 108 g 8 (Dg.dg WD X) := hR.own (List.Mem.head _) rfl (by omega) (wdc_dg X)
    have hmeas : rowVal wr g = X := rowVal_own hown (by rw [WD_8]; exact hX)
    have hd : ∀ j, Dg.dg WD X j < 18446744073709551616 := fun j => Dg.dg_lt HB.out X j
    have c4 : wr.cell? ⟨g, 4, none⟩ = some (.int .u64 (Dg.dg WD X 4 : Nat)) := hown.cell 4 (by omega)
    have c5 : wr.cell? ⟨g, 5, none⟩ = some (.int .u64 (Dg.dg WD X 5 : Nat)) := hown.cell 5 (by omega)
    have c6 : wr.cell? ⟨g, 6, none⟩ = some (.int .u64 (Dg.dg WD X 6 : Nat)) := hown.cell 6 (by omega)
    have c7 : wr.cell? ⟨g, 7, none⟩ = some (.int .u64 (Dg.dg WD X 7 : Nat)) := hown.cell 7 (by omega)
    obtain ⟨q7, hor, hq7⟩ := or_words _ _ _ _ (hd 4) (hd 5) (hd 6) (hd 7)
    have htop := top_words hX
    have hq7' : q7 = 0 ↔ X / 115792089237316195423570985008687907853269984665640564039457584007913129639936 = 0 := by
      rw [hq7, htop.1]; omega
    obtain ⟨d4, h4⟩ : ∃ x, x = Dg.dg WD X 4 := ⟨_, rfl⟩
    obtain ⟨d5, h5⟩ : ∃ x, x = Dg.dg WD X 5 := ⟨_, rfl⟩
    obtain ⟨d6, h6⟩ : ∃ x, x = Dg.dg WD X 6 := ⟨_, rfl⟩
    obtain ⟨d7, h7⟩ : ∃ x, x = Dg.dg WD X 7 := ⟨_, rfl⟩
    rw [← h4] at c4 hor; rw [← h5] at c5 hor; rw [← h6] at c6 hor; rw [← h7] at c7 hor
    have HT := Lib.hid htop; have HD := Lib.hid hd; have HME := Lib.hid hmeas; have HX := Lib.hid hX
    have H4 := Lib.hid h4; have H5 := Lib.hid h5; have H6 := Lib.hid h6; have H7 := Lib.hid h7
    clear htop hd hmeas hX hq7 hown h4 h5 h6 h7
    by_cases h0 : q7 = 0
    · have hlow : X < 115792089237316195423570985008687907853269984665640564039457584007913129639936 := by have := hq7'.1 h0; omega
      subst h0
      clear hq7'
      have hb : ∀ w : World, Calls Tryz.prog 48 #[.agg (nmc X), .agg (nmc p)] w fun e w' => e = .returned (.agg (nmc (X % p))) ∧ Below w.heap.size w w' := fun w => below_any X p w hlow HBIG.out
      rw [hXp.out, low_words hlow] at hb
      have c0 : wr.cell? ⟨g, 0, none⟩ = some (.int .u64 (Dg.dg WD X 0 : Nat)) := (cell_of_row wr g 0 _ _ _ (hR.row _ (List.Mem.head _)).2).trans (wdc_dg X 0 (by omega))
      have c1 : wr.cell? ⟨g, 1, none⟩ = some (.int .u64 (Dg.dg WD X 1 : Nat)) := (cell_of_row wr g 1 _ _ _ (hR.row _ (List.Mem.head _)).2).trans (wdc_dg X 1 (by omega))
      have c2 : wr.cell? ⟨g, 2, none⟩ = some (.int .u64 (Dg.dg WD X 2 : Nat)) := (cell_of_row wr g 2 _ _ _ (hR.row _ (List.Mem.head _)).2).trans (wdc_dg X 2 (by omega))
      have c3 : wr.cell? ⟨g, 3, none⟩ = some (.int .u64 (Dg.dg WD X 3 : Nat)) := (cell_of_row wr g 3 _ _ _ (hR.row _ (List.Mem.head _)).2).trans (wdc_dg X 3 (by omega))
      obtain ⟨d0, h0⟩ : ∃ x, x = Dg.dg WD X 0 := ⟨_, rfl⟩
      obtain ⟨d1, h1⟩ : ∃ x, x = Dg.dg WD X 1 := ⟨_, rfl⟩
      obtain ⟨d2, h2⟩ : ∃ x, x = Dg.dg WD X 2 := ⟨_, rfl⟩
      obtain ⟨d3, h3⟩ : ∃ x, x = Dg.dg WD X 3 := ⟨_, rfl⟩
      rw [← h0] at c0 hb; rw [← h1] at c1 hb; rw [← h2] at c2 hb; rw [← h3] at c3 hb
      have HBL := Lib.hid hb
      clear hb h0 h1 h2 h3 hlow
      go_wp2_with (first
        | (refine wN_load rfl (by rfl) (by assumption) rfl (by repeat (first | exact pzH | refine pzM ?_)) rfl ?_)
        | (refine wN_store rfl (by rfl) (by assumption) rfl rfl (by repeat (first | exact Pick.here | apply Pick.there)) rfl rfl (by exact nmc_cells _) ?_; intro w1 hR)
        | (go_at_call 48; refine (HBL.out _).mono ?_; rintro e w1 ⟨rfl, hb1⟩; have hR := Rws.call (by assumption) hb1))
      exact wN_end Tryz.results50 (by assumption) rfl (List.Mem.head _) rfl rfl fun hb => ⟨rfl, hb⟩
    · have h00 : ¬ (q7 : Int) = 0 := by omega
      have hhi : 0 < X / 115792089237316195423570985008687907853269984665640564039457584007913129639936 := Nat.pos_of_ne_zero (fun e => h0 (hq7'.2 e))
      have hfold := fold_step HX.out HBIG.out rfl rfl hhi
      rw [← HQ.out] at hfold
      obtain ⟨Y, hY⟩ : ∃ Y, Y = X / 115792089237316195423570985008687907853269984665640564039457584007913129639936 * q := ⟨_, rfl⟩
      obtain ⟨lo, hlo⟩ : ∃ lo, lo = X % 115792089237316195423570985008687907853269984665640564039457584007913129639936 := ⟨_, rfl⟩
      rw [← hY, ← hlo] at hfold
      have hw2 : ∀ w : World, Calls Tryz.prog 85 #[.agg (nmc (X / 115792089237316195423570985008687907853269984665640564039457584007913129639936)), .agg (nmc q)] w fun e w' => e = .returned (.agg (wdc Y)) ∧ Below w.heap.size w w' := fun w => by
        have h := wide_any (X / 115792089237316195423570985008687907853269984665640564039457584007913129639936) q w hfold.2.2 (by rw [HQ.out]; have := HBIG.out.2; omega)
        rw [← hY] at h
        exact h
      have HW2 := Lib.hid hw2; have HF := Lib.hid hfold; have HLO := Lib.hid hlo
      clear hhi hq7' h0 hfold hw2 hY hlo
      go_wp2_with fail
      refine wp_region_calm 13 (by kernel_rfl) (by kernel_rfl) (by assumption) ?_
      refine lexC_ix (k := 4) rfl rfl rfl Tryz.underlying108 word_info (by decide) ?_
      simp only [Act.put, pzT, pzA, pzB]
      refine lexC_word (v := .int .u64 ((Dg.dg WD X 4 : Nat) : Int)) rfl rfl (by repeat (first | exact pzH | refine pzM ?_)) rfl isAgg_word ?_
      simp only [Act.put, pzT, pzA, pzB]
      refine lexC_ix (k := 5) rfl rfl rfl Tryz.underlying108 word_info (by decide) ?_
      simp only [Act.put, pzT, pzA, pzB]
      refine lexC_word (v := .int .u64 ((Dg.dg WD X 5 : Nat) : Int)) rfl rfl (by repeat (first | exact pzH | refine pzM ?_)) rfl isAgg_word ?_
      simp only [Act.put, pzT, pzA, pzB]
      refine lexC_ix (k := 6) rfl rfl rfl Tryz.underlying108 word_info (by decide) ?_
      simp only [Act.put, pzT, pzA, pzB]
      refine lexC_word (v := .int .u64 ((Dg.dg WD X 6 : Nat) : Int)) rfl rfl (by repeat (first | exact pzH | refine pzM ?_)) rfl isAgg_word ?_
      simp only [Act.put, pzT, pzA, pzB]
      refine lexC_ix (k := 7) rfl rfl rfl Tryz.underlying108 word_info (by decide) ?_
      simp only [Act.put, pzT, pzA, pzB]
      refine lexC_word (v := .int .u64 ((Dg.dg WD X 7 : Nat) : Int)) rfl rfl (by repeat (first | exact pzH | refine pzM ?_)) rfl isAgg_word ?_
      simp only [Act.put, pzT, pzA, pzB]
      refine lexC_build (cs := nmc (X / 115792089237316195423570985008687907853269984665640564039457584007913129639936)) rfl (by rw [HT.out.2]; kernel_rfl) ?_
      simp only [Act.put, pzT, pzA, pzB]
      repeat (first | (refine lexC_alloc (by rfl) ?_; simp only [Act.put, pzT, pzA, pzB]) | (refine cN_load (by rfl) rfl (by repeat (first | exact pzH | refine pzM ?_)) rfl ?_; simp only [Act.put, pzT, pzA, pzB]) | (refine lexC_move (by rfl) rfl ?_; simp only [Act.put, pzT, pzA, pzB]) | (refine lexC_assign (by rfl) rfl ?_; simp only [Act.put, pzT, pzA, pzB]))
      refine lexC_call rfl Tryz.func86 (by kernel_rfl) rfl rfl (fun w _ => H1.out w) ?_
      simp only [Act.put, pzT, pzA, pzB]
      repeat (first | (refine lexC_alloc (by rfl) ?_; simp only [Act.put, pzT, pzA, pzB]) | (refine cN_load (by rfl) rfl (by repeat (first | exact pzH | refine pzM ?_)) rfl ?_; simp only [Act.put, pzT, pzA, pzB]) | (refine lexC_move (by rfl) rfl ?_; simp only [Act.put, pzT, pzA, pzB]) | (refine lexC_assign (by rfl) rfl ?_; simp only [Act.put, pzT, pzA, pzB]))
      refine lexC_call rfl Tryz.func85 (by kernel_rfl) rfl rfl (fun w _ => HW2.out w) ?_
      simp only [Act.put, pzT, pzA, pzB]
      refine lexC_alloc rfl ?_
      refine lexC_zero ?_
      simp only [pzC, pzD, pzE, pzF]
      repeat (refine afterAl_skip (by rfl) ?_)
      refine afterAl_cons (by rfl) zero_wide rfl ?_
      intro gx
      simp only [Act.put, pzT, pzA, pzB]
      refine afterAl_nil ?_
      intro w2 hR2
      go_wp2_with (refine wpList_store_rws rfl 108 _ _ (by rfl) (by assumption) _ rfl _ rfl _ 108 _ (by repeat (first | exact Pick.here | apply Pick.there)) (by exact wide_info (wdc_size _)) (by rfl) (by exact wdc_cells _) ?_; intro w3 hR3)
      have hR5 : Rws w.heap.size w w3 [(gx, wdc Y, 108), (gp, nmc p, 53), (gr, z4, 53)] := hR3.sub (.cons_cons _ (List.sublist_cons_self _ _))
      have hown3 : Own w3 .u64 108 g 8 (fun j => if j < 0 then Dg.dg WD (Y + lo) j else Dg.dg WD X j) := (hR3.own (n := 8) (List.Mem.tail _ (List.Mem.head _)) (wdc_size X) (by omega) (wdc_dg X)).congr fun j _ => by simp
      have hg : w.heap.size ≤ g := (hR3.row _ (List.Mem.tail _ (List.Mem.head _))).1
      have hne : ∀ x, x ∈ [(gx, wdc Y, 108), (gp, nmc p, 53), (gr, z4, 53)] → x.1 ≠ g := fun x hx e => by
        have h1 := List.pairwise_cons.1 hR3.nd
        have h2 := List.pairwise_cons.1 h1.2
        rcases List.mem_cons.1 hx with rfl | hx
        · exact h1.1 _ (List.Mem.head _) e
        · exact h2.1 x hx e.symm
      have HNE := Lib.hid hne; have HG := Lib.hid hg
      clear hR3 hne hg hR2 hR c4 c5 c6 c7 hor h00
      try simp only [Act.put, pzT, pzA, pzB]
      go_loopw [10, 42] (fun cv i wr => ∃ k cr : Nat, k ≤ 8 ∧ i = .int .i64 k ∧ cv = .int .u64 cr ∧ Hid (cr = Dg.cy WD Y lo k) ∧ Own wr .u64 108 g 8 (fun j => if j < k then Dg.dg WD (Y + lo) j else Dg.dg WD X j) ∧ Rws w.heap.size w wr [(gx, wdc Y, 108), (gp, nmc p, 53), (gr, z4, 53)]) (fun _ i _ => 8 - (intOf i).toNat)
      case atStart => exact ⟨0, 0, Nat.zero_le _, rfl, rfl, (Dg.cy_zero _ _ _).symm, hown3, hR5⟩
      case round =>
        clear hown3 hR5
        obtain ⟨k, cr, hk, rfl, rfl, hcr, hown, hR⟩ := hrel
        have hcr1 : cr ≤ 1 := by rw [hcr.out]; exact Dg.cy_le HB.out _ _ _
        by_cases hk8 : k < 8
        · have hcx : wr.cell? ⟨gx, k, none⟩ = some (.int .u64 (Dg.dg WD Y k : Nat)) := (cell_of_row wr gx k _ _ _ (hR.row _ (List.Mem.head _)).2).trans (wdc_dg Y k hk8)
          obtain ⟨y, hy⟩ : ∃ y, y = Dg.dg WD Y k := ⟨_, rfl⟩
          rw [← hy] at hcx
          have hyl : y < 18446744073709551616 := by rw [hy]; exact Dg.dg_lt HB.out Y k
          have hco : wr.cell? ⟨g, k, none⟩ = some (.int .u64 (Dg.dg WD X k : Nat)) := by simpa using hown.cell k hk8
          obtain ⟨x, hx⟩ : ∃ x, x = Dg.dg WD X k := ⟨_, rfl⟩
          rw [← hx] at hco
          have hxl : x < 18446744073709551616 := by rw [hx]; exact Dg.dg_lt HB.out X k
          have hfr := hown.frozen k
          have step : ∀ lw : Nat, lw = Dg.dg WD lo k → ∀ s k' : Nat, s < 18446744073709551616 → y + lw + cr = s + 18446744073709551616 * k' → s = Dg.dg WD (Y + lo) k ∧ Hid (k' = Dg.cy WD Y lo (k + 1)) := fun lw hlw s k' hs hq => by
            have h := Dg.cy_step WD Y lo k HB.out
            rw [← hy, ← hlw, ← hcr.out, hq, WD_eq] at h
            refine ⟨?_, ?_⟩
            · rw [WD_eq, h.1]; omega
            · show k' = _
              rw [WD_eq, h.2]; omega
          by_cases hk4 : k < 4
          · have hlw : x = Dg.dg WD lo k := by rw [hx, HLO.out, ← WD_4, Dg.dg_mod hk4]
            obtain ⟨s, k', hA, hsl, hk1, hq⟩ := add64_ex y x cr hyl hxl hcr1
            have R := step x hlw s k' hsl hq
            have RR := Lib.hid R
            clear R step hq hlw hx hy
            go_wp2_with fail
            go_roundw
            case rel => exact ⟨k + 1, k', by omega, by go_num, rfl, RR.out.2, own_put_int hown (s := s) rfl (by rw [if_pos (by omega)]; exact RR.out.1) (fun j hj hne => by
              by_cases h1 : j < k
              · rw [if_pos h1, if_pos (by omega)]
              · rw [if_neg h1, if_neg (by omega)]), hR.cell HG.out HNE.out _ _⟩
            case measure => simp [intOf]; omega
          · have hlw : 0 = Dg.dg WD lo k := by rw [HLO.out, ← WD_4]; exact (Dg.dg_of_lt_le HB.out (Nat.mod_lt _ (Nat.pow_pos HB.out)) (by omega)).symm
            obtain ⟨s, k', hA, hsl, hk1, hq⟩ := add64_ex y 0 cr hyl (by omega) hcr1
            have R := step 0 hlw s k' hsl hq
            have RR := Lib.hid R
            rw [Int.natCast_zero] at hA
            clear R step hq hlw hx hy
            go_wp2_with fail
            go_roundw
            case rel => exact ⟨k + 1, k', by omega, by go_num, rfl, RR.out.2, own_put_int hown (s := s) rfl (by rw [if_pos (by omega)]; exact RR.out.1) (fun j hj hne => by
              by_cases h1 : j < k
              · rw [if_pos h1, if_pos (by omega)]
              · rw [if_neg h1, if_neg (by omega)]), hR.cell HG.out HNE.out _ _⟩
            case measure => simp [intOf]; omega
        · obtain rfl : k = 8 := by omega
          have hown8 : Own wr .u64 108 g 8 (Dg.dg WD (Y + lo)) := hown.congr fun j hj => by simp [hj]
          have hlt : Y + lo < 13407807929942597099574024998205846127479365820592393377723561443721764030073546976801874298166903427690031858186486050853753882811946569946433649006084096 := Nat.lt_trans HF.out.1 HX.out
          have hv : rowVal wr g = Y + lo := rowVal_own hown8 (by rw [WD_8]; exact hlt)
          have hR9 := (hR.sub (List.sublist_cons_self _ _)).ofOwn hown8 HG.out (fun x hx => HNE.out x (List.mem_cons_of_mem _ hx)) (wdc_size (Y + lo)) (wdc_dg (Y + lo))
          have HV := Lib.hid hv; have HLT := Lib.hid hlt
          clear hv hlt hown hown8 hR
          go_wp2_with fail
          go_roundw
          case rel => exact ⟨Y + lo, HLT.out, by show (Y + lo) % p = ab % p; rw [HF.out.2.1]; exact hXp.out, hR9⟩
          case measure => rw [HV.out, HME.out]; exact HF.out.1
end Go.Proofs.YtaggpodckafbgaaGreatDoor
/- pow, inv. -/
namespace Go.Proofs.YtaggpodckafbgaaGreatDoor
open Go.RowKit
theorem mul_cN (m : Int) (a b : Nat) (ha : a < 115792089237316195423570985008687907853269984665640564039457584007913129639936) (hb : b < 115792089237316195423570985008687907853269984665640564039457584007913129639936) : ∀ w : World, Calls Tryz.prog 50 #[.int .i64 m, .agg (nmc a), .agg (nmc b)] w fun e w' => e = .returned (.agg (nmc (a * b % pp m))) ∧ Below w.heap.size w w' := fun w => times_any m a b w ha hb
def pwv (p a e t : Nat) : Nat := a ^ (e / 2 ^ t) % p
theorem pwv_step (p a e t : Nat) : pwv p a e t = if e / 2 ^ t % 2 = 1 then pwv p a e (t + 1) * pwv p a e (t + 1) % p * a % p else pwv p a e (t + 1) * pwv p a e (t + 1) % p := by
  unfold pwv
  obtain ⟨x, hx⟩ : ∃ x, x = e / 2 ^ t := ⟨_, rfl⟩
  have e1 : e / 2 ^ (t + 1) = x / 2 := by rw [hx, Nat.pow_succ, Nat.div_div_eq_div_mul]
  rw [e1, ← hx, ← Nat.mul_mod, ← Nat.pow_add]
  split
  · rename_i h
    rw [Nat.mod_mul_mod, ← Nat.pow_succ]
    congr 2; omega
  · congr 2; omega
theorem bit_word (v s : Nat) : bits .and .u64 (((Dg.dg WD v (s / 64) : Nat) : Int) / 2 ^ (s % 64)) 1 = ((v / 2 ^ s % 2 : Nat) : Int) := by
  have e1 : (((Dg.dg WD v (s / 64) : Nat) : Int) / 2 ^ (s % 64)) = ((Dg.dg WD v (s / 64) / 2 ^ (s % 64) : Nat) : Int) := by
    rw [Int.natCast_ediv]; simp
  have hl : Dg.dg WD v (s / 64) / 2 ^ (s % 64) < 18446744073709551616 := Nat.lt_of_le_of_lt (Nat.div_le_self _ _) (Dg.dg_lt WD0 _ _)
  have h := u64_and_nat (Dg.dg WD v (s / 64) / 2 ^ (s % 64)) 1 hl (by omega)
  rw [e1, show (1 : Int) = ((1 : Nat) : Int) from rfl, h, Nat.and_one_is_mod]
  congr 1
  have h1 : Nat.testBit (Dg.dg WD v (s / 64)) (s % 64) = Nat.testBit v s := by
    show Nat.testBit (v / WD ^ (s / 64) % WD) (s % 64) = _
    rw [show WD = 2 ^ 64 from rfl, Nat.testBit_mod_two_pow, ← Nat.pow_mul, Nat.testBit_div_two_pow]
    rw [decide_eq_true (Nat.mod_lt s (by omega)), Bool.true_and]
    congr 1
    omega
  rw [Nat.testBit_eq_decide_div_mod_eq, Nat.testBit_eq_decide_div_mod_eq] at h1
  have h2 := Nat.mod_two_eq_zero_or_one (Dg.dg WD v (s / 64) / 2 ^ (s % 64))
  have h3 := Nat.mod_two_eq_zero_or_one (v / 2 ^ s)
  rw [decide_eq_decide] at h1
  omega
set_option maxRecDepth 100000 in
theorem pow_any (m : Int) (a e : Nat) (w : World) (ha : a < 115792089237316195423570985008687907853269984665640564039457584007913129639936) (he : e < 115792089237316195423570985008687907853269984665640564039457584007913129639936) :
    Calls Tryz.prog 83 #[.int .i64 m, nm a, nm e] w fun x w' => x = .returned (nm (a ^ e % pp m)) ∧ Below w.heap.size w w' := by
  obtain ⟨p, hp⟩ : ∃ p, p = pp m := ⟨_, rfl⟩
  have hbig : Big p := by rw [hp]; exact pp_big m
  have hp1 : 1 < p := by have := hbig.2; omega
  have hm : ∀ x y : Nat, x < 115792089237316195423570985008687907853269984665640564039457584007913129639936 → y < 115792089237316195423570985008687907853269984665640564039457584007913129639936 → ∀ w : World, Calls Tryz.prog 50 #[.int .i64 m, .agg (nmc x), .agg (nmc y)] w fun e w' => e = .returned (.agg (nmc (x * y % p))) ∧ Below w.heap.size w w' := fun x y hx hy w => by rw [hp]; exact mul_cN m x y hx hy w
  have hml : ∀ x, x % p < 115792089237316195423570985008687907853269984665640564039457584007913129639936 := fun x => Nat.lt_trans (Nat.mod_lt _ (by omega)) hbig.1
  have h256 : pwv p a e 256 = 1 := by
    unfold pwv
    rw [Nat.div_eq_of_lt (by rw [show (2 : Nat) ^ 256 = 115792089237316195423570985008687907853269984665640564039457584007913129639936 by decide +kernel]; exact he), Nat.pow_zero, Nat.mod_eq_of_lt hp1]
  rw [← hp]
  have HM := Lib.hid hm; have HA := Lib.hid ha; have HE := Lib.hid he; have HML := Lib.hid hml; have H256 := Lib.hid h256; have HP := Lib.hid hp
  clear hm ha he hml h256 hp hp1 hbig
  unfold nm
  have hR0 := Rws.start w
  go_enter Tryz.func83, Tryz.ntmps83
  go_upto_region 1 with (first
    | (refine wN_box (x := .tmp 1) rfl (by rfl) (by assumption) rfl ?_; intro ga w1 hR)
    | (refine wN_box (x := .tmp 2) rfl (by rfl) (by assumption) rfl ?_; intro ge w1 hR)
    | (refine wN_alloc rfl (by rfl) (by assumption) ?_; intro gr w1 hR))
  go_upto_region 2 with (first
    | (refine wN_alloc rfl (by rfl) (by assumption) ?_; intro go w1 hR)
    | (refine wN_store rfl (by rfl) (by assumption) rfl rfl (by repeat (first | exact Pick.here | apply Pick.there)) rfl rfl (by simp [Value.oneCell']) ?_; intro w1 hR))
  have hR3 : Rws w.heap.size w w1 [(go, nmc (pwv p a e 256), 53), (gr, z4, 53), (ge, nmc e, 53), (ga, nmc a, 53)] := by rw [H256.out]; exact hR
  clear hR
  go_wp2_with fail
  go_loopw [8] (fun i wr => ∃ t : Nat, t ≤ 256 ∧ i = .int .i64 ((t : Int) - 1) ∧ Rws w.heap.size w wr [(go, nmc (pwv p a e t), 53), (gr, z4, 53), (ge, nmc e, 53), (ga, nmc a, 53)]) (fun i _ => (intOf i + 1).toNat)
  case atStart => exact ⟨256, Nat.le_refl _, rfl, hR3⟩
  case round =>
    clear hR3
    obtain ⟨t, ht, rfl, hR⟩ := hrel
    by_cases h0 : t = 0
    · subst h0
      go_wp2_with (first
        | (refine wN_load rfl (by rfl) (by assumption) rfl (by repeat (first | exact pzH | refine pzM ?_)) rfl ?_)
        | (refine wN_store rfl (by rfl) (by assumption) rfl rfl (by repeat (first | exact Pick.here | apply Pick.there)) rfl rfl (by exact nmc_cells _) ?_; intro w1 hR))
      refine wN_end Tryz.results83 (by assumption) rfl (List.Mem.head _) rfl rfl fun hb => ⟨?_, hb⟩
      unfold pwv
      rw [Nat.pow_zero, Nat.div_one]
    · obtain ⟨s, rfl⟩ : ∃ s, t = s + 1 := ⟨t - 1, by omega⟩
      have es : ((s + 1 : Nat) : Int) - 1 = (s : Int) := by omega
      rw [es]
      obtain ⟨v, hv⟩ : ∃ v, v = pwv p a e (s + 1) := ⟨_, rfl⟩
      have hvl : v < 115792089237316195423570985008687907853269984665640564039457584007913129639936 := by rw [hv]; exact HML.out _
      have h1 := HM.out v v hvl hvl
      have h2 := HM.out (v * v % p) a (HML.out _) HA.out
      rw [← hv] at hR
      obtain ⟨u, hu⟩ : ∃ u, u = v * v % p := ⟨_, rfl⟩
      obtain ⟨x, hx⟩ : ∃ x, x = u * a % p := ⟨_, rfl⟩
      rw [← hu] at h1 h2; rw [← hx] at h2
      have hst := pwv_step p a e s
      rw [← hv, ← hu, ← hx] at hst
      have hidx : s / 64 < 4 := by omega
      obtain ⟨d, hd⟩ : ∃ d, d = Dg.dg WD e (s / 64) := ⟨_, rfl⟩
      have hce : ∀ (w1 : World) (v' : Nat), Rws w.heap.size w w1 [(go, nmc v', 53), (gr, z4, 53), (ge, nmc e, 53), (ga, nmc a, 53)] → w1.cell? ⟨ge, s / 64, none⟩ = some (.int .u64 (d : Nat)) := fun w1 v' h => by
        rw [hd]
        exact (cell_of_row w1 ge (s / 64) _ _ _ (h.row _ (List.Mem.tail _ (List.Mem.tail _ (List.Mem.head _)))).2).trans (nmc_dg e HE.out _ hidx)
      have HCE := Lib.hid hce
      have hbit := bit_word e s
      rw [← hd] at hbit
      have HD := Lib.hid hd
      clear hd
      have H1 := Lib.hid h1; have H2 := Lib.hid h2; have HST := Lib.hid hst
      clear h1 h2 hst hu hx hv es hce
      go_upto_region 6 with (first
        | (refine wN_load rfl (by rfl) (by assumption) rfl (by repeat (first | exact pzH | refine pzM ?_)) rfl ?_)
        | (refine wN_store rfl (by rfl) (by assumption) rfl rfl (by repeat (first | exact Pick.here | apply Pick.there)) rfl rfl (by exact nmc_cells _) ?_; intro w1 hR; have hce := HCE.out _ _ hR)
        | (go_at_call 50; refine (H1.out _).mono ?_; rintro e w1 ⟨rfl, hb1⟩; have hR := Rws.call (by assumption) hb1))
      rcases Nat.mod_two_eq_zero_or_one (e / 2 ^ s) with h0 | h0
      · rw [h0, Int.natCast_zero] at hbit
        have hx : u = pwv p a e s := by rw [HST.out, if_neg (by omega)]
        have HX := Lib.hid hx
        clear h0 hx
        go_wp2_with fail
        go_roundw
        case rel => exact ⟨s, by omega, rfl, by rw [← HX.out]; assumption⟩
        case measure => simp [intOf]
      · rw [h0] at hbit
        have hbit1 : bits .and .u64 ((d : Int) / 2 ^ (s % 64)) 1 = 1 := hbit
        have hx : x = pwv p a e s := by rw [HST.out, if_pos h0]
        have HX := Lib.hid hx
        clear h0 hx hbit
        go_wp2_with (first
          | (refine wN_load rfl (by rfl) (by assumption) rfl (by repeat (first | exact pzH | refine pzM ?_)) rfl ?_)
          | (refine wN_store rfl (by rfl) (by assumption) rfl rfl (by repeat (first | exact Pick.here | apply Pick.there)) rfl rfl (by exact nmc_cells _) ?_; intro w1 hR)
          | (go_at_call 50; refine (H2.out _).mono ?_; rintro e w1 ⟨rfl, hb1⟩; have hR := Rws.call (by assumption) hb1))
        go_roundw
        case rel => exact ⟨s, by omega, rfl, by rw [← HX.out]; assumption⟩
        case measure => simp [intOf]
end Go.Proofs.YtaggpodckafbgaaGreatDoor
/- inv, mul, add, sub. -/
namespace Go.Proofs.YtaggpodckafbgaaGreatDoor
open Go.RowKit
theorem nmc_less2 (m : Int) : (nmc (pp m)).setIfInBounds 0 (.int .u64 (((pp m : Nat) : Int) % 18446744073709551616 - 2)) = nmc (pp m - 2) := by
  unfold pp; split <;> rfl
theorem pp_low (m : Int) : 2 ≤ ((pp m : Nat) : Int) % 18446744073709551616 := by
  unfold pp; split <;> decide
set_option maxRecDepth 100000 in
theorem einv_any (m : Int) (a : Nat) (w : World) (ha : a < 115792089237316195423570985008687907853269984665640564039457584007913129639936) :
    Calls Tryz.prog 47 #[.int .i64 m, nm a] w fun x w' => x = .returned (.tuple #[nm (if a % pp m = 0 then 0 else a ^ (pp m - 2) % pp m), .bool (decide (a % pp m ≠ 0))]) ∧ Below w.heap.size w w' := by
  obtain ⟨p, hp⟩ : ∃ p, p = pp m := ⟨_, rfl⟩
  have hbig : Big p := by rw [hp]; exact pp_big m
  have hm : ∀ w : World, Calls Tryz.prog 49 #[.int .i64 m] w fun e w' => e = .returned (nm p) ∧ Below w.heap.size w w' := fun w => by rw [hp]; exact modulus_any m w
  have h1 : ∀ w : World, Calls Tryz.prog 48 #[nm a, nm p] w fun e w' => e = .returned (nm (a % p)) ∧ Below w.heap.size w w' := fun w => below_any a p w ha hbig
  have h2 : ∀ w : World, Calls Tryz.prog 83 #[.int .i64 m, nm a, nm (p - 2)] w fun e w' => e = .returned (nm (a ^ (p - 2) % p)) ∧ Below w.heap.size w w' := fun w => by
    have h := pow_any m a (p - 2) w ha (by have := hbig.1; omega)
    rwa [← hp] at h
  have hset := nmc_less2 m
  have hlow := pp_low m
  rw [← hp] at hset hlow ⊢
  have hq : ∀ w : World, (Op.equalIn 10000 53 (.agg (nmc (a % p))) (.agg (nmc 0))).run Tryz.prog w = .ok (decide (a % p = 0)) w := fun w => eq_num _ 0 (Nat.lt_trans (Nat.mod_lt _ (by have := hbig.2; omega)) hbig.1) (by decide) w
  rw [nmc_zero] at hq
  obtain ⟨x, hx⟩ : ∃ x, x = a % p := ⟨_, rfl⟩
  obtain ⟨r, hr⟩ : ∃ r, r = a ^ (p - 2) % p := ⟨_, rfl⟩
  rw [← hx] at h1 hq ⊢; rw [← hr] at h2 ⊢
  obtain ⟨d, hd⟩ : ∃ d : Nat, d = p % 18446744073709551616 := ⟨_, rfl⟩
  have hdi : ((p : Nat) : Int) % 18446744073709551616 = (d : Int) := by rw [hd]; omega
  rw [hdi] at hset hlow
  have hd2 : 2 ≤ d := by omega
  have hdl : d < 18446744073709551616 := by rw [hd]; exact Nat.mod_lt _ (by omega)
  have hc0 : (nmc p)[0]? = some (.int .u64 (d : Int)) := by rw [hd]; rfl
  have hR0 := Rws.start w
  have H1 := Lib.hid h1; have H2 := Lib.hid h2; have HM := Lib.hid hm; have HS := Lib.hid hset; have HC := Lib.hid hc0
  clear hx hr hp hm h1 h2 ha hbig hset hc0 hd hdi hlow
  unfold nm at *
  by_cases h0 : x = 0
  · rw [if_pos h0, decide_eq_false (by simpa using h0)]
    rw [decide_eq_true h0] at hq
    clear h0
    go_enter Tryz.func47, Tryz.ntmps47
    go_wp2_with (first
      | (refine wN_box rfl (by rfl) (by assumption) rfl ?_; intro g w1 hR) | (refine wN_alloc rfl (by rfl) (by assumption) ?_; intro g w1 hR) | (refine wN_load rfl (by rfl) (by assumption) rfl (by repeat (first | exact pzH | refine pzM ?_)) rfl ?_) | (refine wN_store rfl (by rfl) (by assumption) rfl rfl (by repeat (first | exact Pick.here | apply Pick.there)) rfl rfl (by first | exact nmc_cells _ | simp [Value.oneCell']) ?_; intro w1 hR)
      | (go_at_call 49; refine (HM.out _).mono ?_; rintro e w1 ⟨rfl, hb1⟩; have hR := Rws.call (by assumption) hb1)
      | (go_at_call 48; refine (H1.out _).mono ?_; rintro e w1 ⟨rfl, hb1⟩; have hR := Rws.call (by assumption) hb1))
    exact bodyPost_rws2 Tryz.results47 (by assumption) _ rfl _ _ (List.Mem.head _) _ Tryz.underlying53 rfl (size_info rfl) _ rfl rfl fun hb => ⟨rfl, hb⟩
  · rw [if_neg h0, decide_eq_true h0]
    rw [decide_eq_false h0] at hq
    clear h0
    go_enter Tryz.func47, Tryz.ntmps47
    go_upto_region 4 with (first
      | (refine wN_box rfl (by rfl) (by assumption) rfl ?_; intro g w1 hR) | (refine wN_alloc rfl (by rfl) (by assumption) ?_; intro g w1 hR) | (refine wN_load rfl (by rfl) (by assumption) rfl (by repeat (first | exact pzH | refine pzM ?_)) rfl ?_) | (refine wN_store rfl (by rfl) (by assumption) rfl rfl (by repeat (first | exact Pick.here | apply Pick.there)) rfl rfl (by first | exact nmc_cells _ | simp [Value.oneCell']) ?_; intro w1 hR)
      | (go_at_call 49; refine (HM.out _).mono ?_; rintro e w1 ⟨rfl, hb1⟩; have hR := Rws.call (by assumption) hb1)
      | (go_at_call 48; refine (H1.out _).mono ?_; rintro e w1 ⟨rfl, hb1⟩; have hR := Rws.call (by assumption) hb1))
    have hcell := (cell_of_row w1 g 0 _ _ _ (hR.row _ (List.Mem.head _)).2).trans HC.out
    have hfr := frozen_of_row w1 g 0 _ _ (hR.row _ (List.Mem.head _)).2
    have hR' := hR.setc 0 (.int .u64 ((d : Int) - 2))
    rw [HS.out] at hR'
    have hwr : IntKind.u64.wrap ((d : Int) - 2) = (d : Int) - 2 := by rw [wrap64]; omega
    have HR' := Lib.hid hR'
    clear hR' hR hq
    go_upto_region 5 with (fail)
    have hR := HR'.out
    clear hcell hfr hwr
    go_wp2_with (first
      | (refine wN_load rfl (by rfl) (by assumption) rfl (by repeat (first | exact pzH | refine pzM ?_)) rfl ?_)
      | (refine wN_store rfl (by rfl) (by assumption) rfl rfl (by repeat (first | exact Pick.here | apply Pick.there)) rfl rfl (by exact nmc_cells _) ?_; intro w1 hR)
      | (go_at_call 83; refine (H2.out _).mono ?_; rintro e w1 ⟨rfl, hb1⟩; have hR := Rws.call (by assumption) hb1))
    exact bodyPost_rws2 Tryz.results47 (by assumption) _ rfl _ _ (List.Mem.head _) _ Tryz.underlying53 rfl (size_info rfl) _ rfl rfl fun hb => ⟨rfl, hb⟩
set_option maxRecDepth 100000 in
theorem emul_any (a b : Nat) (ha : a < 115792089237316195423570985008687907853269984665640564039457584007913129639936) (hb : b < 115792089237316195423570985008687907853269984665640564039457584007913129639936) (w : World) :
    Calls Tryz.prog 72 #[.agg (nmc a), .agg (nmc b)] w fun x w' => x = .returned (.agg (nmc (a * b % Ec.P))) ∧ Below w.heap.size w w' := by
  have h1 : ∀ w : World, Calls Tryz.prog 50 #[.int .i64 0, .agg (nmc a), .agg (nmc b)] w fun e w' => e = .returned (.agg (nmc (a * b % Ec.P))) ∧ Below w.heap.size w w' := fun w => times_any 0 a b w ha hb
  obtain ⟨r, hr⟩ : ∃ r, r = a * b % Ec.P := ⟨_, rfl⟩
  rw [← hr] at h1 ⊢
  have H1 := Lib.hid h1
  clear h1 hr ha hb
  have hR0 := Rws.start w
  go_enter Tryz.func72, Tryz.ntmps72
  go_wp2_with (first
    | (refine wN_box rfl (by rfl) (by assumption) rfl ?_; intro g w1 hR) | (refine wN_alloc rfl (by rfl) (by assumption) ?_; intro g w1 hR) | (refine wN_load rfl (by rfl) (by assumption) rfl (by repeat (first | exact pzH | refine pzM ?_)) rfl ?_) | (refine wN_store rfl (by rfl) (by assumption) rfl rfl (by repeat (first | exact Pick.here | apply Pick.there)) rfl rfl (by first | exact nmc_cells _ | simp [Value.oneCell']) ?_; intro w1 hR)
    | (go_at_call 50; refine (H1.out _).mono ?_; rintro e w1 ⟨rfl, hb1⟩; have hR := Rws.call (by assumption) hb1))
  exact wN_end Tryz.results72 (by assumption) rfl (List.Mem.head _) rfl rfl fun hb => ⟨rfl, hb⟩
set_option maxRecDepth 100000 in
theorem eadd_any (a b : Nat) (ha : a < 115792089237316195423570985008687907853269984665640564039457584007913129639936) (hb : b < 115792089237316195423570985008687907853269984665640564039457584007913129639936) (w : World) :
    Calls Tryz.prog 70 #[.agg (nmc a), .agg (nmc b)] w fun x w' => x = .returned (.agg (nmc ((a + b) % Ec.P))) ∧ Below w.heap.size w w' := by
  have h1 : ∀ w : World, Calls Tryz.prog 119 #[.int .i64 0, .agg (nmc a), .agg (nmc b)] w fun e w' => e = .returned (.agg (nmc ((a + b) % Ec.P))) ∧ Below w.heap.size w w' := fun w => plus_any 0 a b w ha hb
  obtain ⟨r, hr⟩ : ∃ r, r = (a + b) % Ec.P := ⟨_, rfl⟩
  rw [← hr] at h1 ⊢
  have H1 := Lib.hid h1
  clear h1 hr ha hb
  have hR0 := Rws.start w
  go_enter Tryz.func70, Tryz.ntmps70
  go_wp2_with (first
    | (refine wN_box rfl (by rfl) (by assumption) rfl ?_; intro g w1 hR) | (refine wN_alloc rfl (by rfl) (by assumption) ?_; intro g w1 hR) | (refine wN_load rfl (by rfl) (by assumption) rfl (by repeat (first | exact pzH | refine pzM ?_)) rfl ?_) | (refine wN_store rfl (by rfl) (by assumption) rfl rfl (by repeat (first | exact Pick.here | apply Pick.there)) rfl rfl (by first | exact nmc_cells _ | simp [Value.oneCell']) ?_; intro w1 hR)
    | (go_at_call 119; refine (H1.out _).mono ?_; rintro e w1 ⟨rfl, hb1⟩; have hR := Rws.call (by assumption) hb1))
  exact wN_end Tryz.results70 (by assumption) rfl (List.Mem.head _) rfl rfl fun hb => ⟨rfl, hb⟩
set_option maxRecDepth 100000 in
theorem esub_any (a b : Nat) (ha : a < 115792089237316195423570985008687907853269984665640564039457584007913129639936) (hb : b < 115792089237316195423570985008687907853269984665640564039457584007913129639936) (w : World) :
    Calls Tryz.prog 71 #[.agg (nmc a), .agg (nmc b)] w fun x w' => x = .returned (.agg (nmc ((a + (Ec.P - b % Ec.P) % Ec.P) % Ec.P))) ∧ Below w.heap.size w w' := by
  have h1 : ∀ w : World, Calls Tryz.prog 120 #[.int .i64 0, .agg (nmc a), .agg (nmc b)] w fun e w' => e = .returned (.agg (nmc ((a + (Ec.P - b % Ec.P) % Ec.P) % Ec.P))) ∧ Below w.heap.size w w' := fun w => minus_any 0 a b w ha hb
  obtain ⟨r, hr⟩ : ∃ r, r = (a + (Ec.P - b % Ec.P) % Ec.P) % Ec.P := ⟨_, rfl⟩
  rw [← hr] at h1 ⊢
  have H1 := Lib.hid h1
  clear h1 hr ha hb
  have hR0 := Rws.start w
  go_enter Tryz.func71, Tryz.ntmps71
  go_wp2_with (first
    | (refine wN_box rfl (by rfl) (by assumption) rfl ?_; intro g w1 hR) | (refine wN_alloc rfl (by rfl) (by assumption) ?_; intro g w1 hR) | (refine wN_load rfl (by rfl) (by assumption) rfl (by repeat (first | exact pzH | refine pzM ?_)) rfl ?_) | (refine wN_store rfl (by rfl) (by assumption) rfl rfl (by repeat (first | exact Pick.here | apply Pick.there)) rfl rfl (by first | exact nmc_cells _ | simp [Value.oneCell']) ?_; intro w1 hR)
    | (go_at_call 120; refine (H1.out _).mono ?_; rintro e w1 ⟨rfl, hb1⟩; have hR := Rws.call (by assumption) hb1))
  exact wN_end Tryz.results71 (by assumption) rfl (List.Mem.head _) rfl rfl fun hb => ⟨rfl, hb⟩
/-! ### the same over the field -/
def fv (a : Ec.F) : Array Value := nmc a.val
theorem F_lt (a : Ec.F) : a.val < 115792089237316195423570985008687907853269984665640564039457584007913129639936 := Nat.lt_trans a.isLt (by decide)
theorem fmul (a b : Ec.F) (w : World) : Calls Tryz.prog 72 #[.agg (fv a), .agg (fv b)] w fun x w' => x = .returned (.agg (fv (a * b))) ∧ Below w.heap.size w w' :=
  emul_any a.val b.val (F_lt a) (F_lt b) w
theorem fadd (a b : Ec.F) (w : World) : Calls Tryz.prog 70 #[.agg (fv a), .agg (fv b)] w fun x w' => x = .returned (.agg (fv (a + b))) ∧ Below w.heap.size w w' :=
  eadd_any a.val b.val (F_lt a) (F_lt b) w
theorem fsub (a b : Ec.F) (w : World) : Calls Tryz.prog 71 #[.agg (fv a), .agg (fv b)] w fun x w' => x = .returned (.agg (fv (a - b))) ∧ Below w.heap.size w w' := by
  have h := esub_any a.val b.val (F_lt a) (F_lt b) w
  have e : (a.val + (Ec.P - b.val % Ec.P) % Ec.P) % Ec.P = (a - b).val := by
    rw [Fin.sub_def, Nat.mod_eq_of_lt b.isLt, Nat.add_mod_mod, Nat.add_comm]
  rw [e] at h
  exact h
end Go.Proofs.YtaggpodckafbgaaGreatDoor
/- Points under way: twice. -/
namespace Go.Proofs.YtaggpodckafbgaaGreatDoor
open Go.RowKit
def jv (j : Ec.Jac Ec.P) : Array Value := fv j.x ++ fv j.y ++ fv j.z
theorem fv_size (a : Ec.F) : (fv a).size = 4 := rfl
theorem fv_cells (a : Ec.F) : (fv a).all (·.oneCell') = true := nmc_cells _
theorem jv_size (j : Ec.Jac Ec.P) : (jv j).size = 12 := by simp [jv, fv_size]
theorem jv_cells (j : Ec.Jac Ec.P) : (jv j).all (·.oneCell') = true := by simp only [jv, Array.all_append, fv_cells, Bool.and_self]
theorem jv_x (j : Ec.Jac Ec.P) : ∀ i, i < (fv j.x).size → (jv j)[0 + i]? = (fv j.x)[i]? := fun i hi => by
  rw [fv_size] at hi
  rw [Nat.zero_add, jv, Array.getElem?_append_left (by rw [Array.size_append, fv_size, fv_size]; omega), Array.getElem?_append_left (by rw [fv_size]; omega)]
theorem jv_y (j : Ec.Jac Ec.P) : ∀ i, i < (fv j.y).size → (jv j)[4 + i]? = (fv j.y)[i]? := fun i hi => by
  rw [fv_size] at hi
  rw [jv, Array.getElem?_append_left (by rw [Array.size_append, fv_size, fv_size]; omega), Array.getElem?_append_right (by rw [fv_size]; omega), fv_size, Nat.add_sub_cancel_left]
theorem jv_z (j : Ec.Jac Ec.P) : ∀ i, i < (fv j.z).size → (jv j)[8 + i]? = (fv j.z)[i]? := fun i hi => by
  rw [fv_size] at hi
  rw [jv, Array.getElem?_append_right (by rw [Array.size_append, fv_size, fv_size]; omega), Array.size_append, fv_size, fv_size, show 8 + i - (4 + 4) = i by omega]
theorem point_info {cs : Array Value} (h : cs.size = 12) : (Tryz.prog.info? 55).map (·.size) = some cs.size := by rw [h]; kernel_rfl
def z12 : Array Value := #[.int .u64 0, .int .u64 0, .int .u64 0, .int .u64 0, .int .u64 0, .int .u64 0, .int .u64 0, .int .u64 0, .int .u64 0, .int .u64 0, .int .u64 0, .int .u64 0]
theorem zero_point : ∀ w : World, (zeroValue 55).run Tryz.prog w = .ok (.agg z12) w := Tryz.zeroValue55
section
variable {B : Nat} {w0 w : World} {L : List (Nat × Array Value × TypeId)} {ops : Array Oper} {rest : List Oper} {a : Act} {Q : Exit → Act → World → Prop} {o : Oper}
theorem wP_load {x : Operand} {g k : Nat} {cs vs : Array Value} (hgd : o.guard = none) (ho : o.op = .load 53 x) (h : Rws B w0 w L) (hx : a.eval x = .pointer (some ⟨g, k, none⟩)) (hm : (g, cs, 55) ∈ L) (hs : vs.size = 4) (hv : ∀ i, i < vs.size → cs[k + i]? = vs[i]?)
    (hK : wpList Tryz.prog ops Q rest (a.put o.dst (.agg vs)) w) : wpList Tryz.prog ops Q (o :: rest) a w :=
  wpList_plain hgd fun K hKK => by
    have h1 := run_load_part (P := Tryz.prog) (w := w) (k := k) (vs := vs) (h.row _ hm).2 Tryz.underlying53 rfl (size_info hs) hv
    unfold Oper.wp execOp
    simp only [ho, hx]
    rw [Sem.run_bind, h1]
    exact hKK _ _ hK
theorem wP_loadAll {x : Operand} {g : Nat} {cs : Array Value} (hgd : o.guard = none) (ho : o.op = .load 55 x) (h : Rws B w0 w L) (hx : a.eval x = .pointer (some ⟨g, 0, none⟩)) (hm : (g, cs, 55) ∈ L) (hs : cs.size = 12)
    (hK : wpList Tryz.prog ops Q rest (a.put o.dst (.agg cs)) w) : wpList Tryz.prog ops Q (o :: rest) a w :=
  wpList_load_rws hgd _ x ho h g hx cs _ hm _ Tryz.underlying55 rfl (point_info hs) hK
theorem wP_store {x y : Operand} {g : Nat} {cs new : Array Value} {L' : List (Nat × Array Value × TypeId)} (hgd : o.guard = none) (ho : o.op = .store 55 x y) (h : Rws B w0 w L) (hx : a.eval x = .pointer (some ⟨g, 0, none⟩)) (hy : a.eval y = .agg new) (hm : Pick L (g, cs, 55) L') (hs : cs.size = 12) (hn : new.size = 12) (h1 : new.all (·.oneCell') = true)
    (hK : ∀ w', Rws B w0 w' ((g, new, 55) :: L') → wpList Tryz.prog ops Q rest (a.put o.dst undef) w') : wpList Tryz.prog ops Q (o :: rest) a w :=
  wpList_store_rws hgd _ x y ho h g hx new hy cs _ L' hm (point_info hn) (hs.trans hn.symm) h1 hK
theorem wP_box {x : Operand} {cs : Array Value} (hgd : o.guard = none) (ho : o.op = .box 55 x) (h : Rws B w0 w L) (hx : a.eval x = .agg cs)
    (hK : ∀ g w', Rws B w0 w' ((g, cs, 55) :: L) → wpList Tryz.prog ops Q rest (a.put o.dst (.pointer (some ⟨g, 0, none⟩))) w') : wpList Tryz.prog ops Q (o :: rest) a w :=
  wpList_box_rws hgd _ x ho h cs hx hK
theorem wP_alloc (hgd : o.guard = none) (ho : o.op = .alloc 55) (h : Rws B w0 w L)
    (hK : ∀ g w', Rws B w0 w' ((g, z12, 55) :: L) → wpList Tryz.prog ops Q rest (a.put o.dst (.pointer (some ⟨g, 0, none⟩))) w') : wpList Tryz.prog ops Q (o :: rest) a w :=
  wpList_alloc_rws hgd _ ho h z12 zero_point hK
theorem wP_end {fn : Func} {R : Ending → World → Prop} {p : Tmp} {g : Nat} {cs : Array Value} (hf : fn.results = #[.cell p 55]) (h : Rws B w0 w L) (hp : a.tmps.getD p undef = .pointer (some ⟨g, 0, none⟩)) (hm : (g, cs, 55) ∈ L) (hs : cs.size = 12)
    (hdef : a.defers = []) (hR : Below B w0 w → R (.returned (.agg cs)) w) : bodyPost Tryz.prog fn R .ret a w :=
  bodyPost_rws hf h g hp cs _ hm _ Tryz.underlying55 rfl (point_info hs) hdef hR
theorem wB_build {t : TypeId} {xs : List (Nat × Operand)} {cs : Array Value} (hgd : o.guard = none) (ho : o.op = .build t xs.toArray) (hb : Tryz.prog.built t (xs.map fun p => (p.1, a.eval p.2)) = some cs)
    (hK : wpList Tryz.prog ops Q rest (a.put o.dst (.agg cs)) w) : wpList Tryz.prog ops Q (o :: rest) a w :=
  wpList_plain hgd fun K hKK => by
    have h1 : (Instr.build t (xs.toArray.map fun p => (p.1, a.eval p.2))).run Tryz.prog w = .ok (.agg cs) w := run_build w t _ cs (by simpa using hb)
    unfold Oper.wp execOp
    simp only [ho]
    rw [Sem.run_bind, h1]
    exact hKK _ _ hK
variable {S : StRow} {l : List Oper} {n : Nat} {Q' : Act → Prop}
theorem cP_load {x : Operand} {g k : Nat} {cs vs : Array Value} (ho : o.op = .load 53 x) (hx : a.eval x = .pointer (some ⟨g, k, none⟩)) (hm : (g, cs, 55) ∈ L) (hs : vs.size = 4) (hv : ∀ i, i < vs.size → cs[k + i]? = vs[i]?)
    (h : lexC Tryz.prog B w0 L S ops Q' n l (a.put o.dst (.agg vs))) (hwt : Region.wanted o (yielded ops a.tmps) = true := by rfl) : lexC Tryz.prog B w0 L S ops Q' (n + 1) (o :: l) a :=
  lexC_load ho hx hm Tryz.underlying53 rfl (size_info hs) hv h hwt
theorem cP_loadAll {x : Operand} {g : Nat} {cs : Array Value} (ho : o.op = .load 55 x) (hx : a.eval x = .pointer (some ⟨g, 0, none⟩)) (hm : (g, cs, 55) ∈ L) (hs : cs.size = 12)
    (h : lexC Tryz.prog B w0 L S ops Q' n l (a.put o.dst (.agg cs))) (hwt : Region.wanted o (yielded ops a.tmps) = true := by rfl) : lexC Tryz.prog B w0 L S ops Q' (n + 1) (o :: l) a :=
  lexC_load0 ho hx hm Tryz.underlying55 rfl (point_info hs) h hwt
theorem cP_fx {x : Operand} {g : Nat} (ho : o.op = .fieldAddr 55 x 0) (hx : a.eval x = .pointer (some ⟨g, 0, none⟩)) (h : lexC Tryz.prog B w0 L S ops Q' n l (a.put o.dst (.pointer (some ⟨g, 0, none⟩)))) (hwt : Region.wanted o (yielded ops a.tmps) = true := by rfl) : lexC Tryz.prog B w0 L S ops Q' (n + 1) (o :: l) a :=
  lexC_field ho hx Tryz.underlying55 rfl ⟨3, num_info⟩ rfl h hwt
theorem cP_fy {x : Operand} {g : Nat} (ho : o.op = .fieldAddr 55 x 1) (hx : a.eval x = .pointer (some ⟨g, 0, none⟩)) (h : lexC Tryz.prog B w0 L S ops Q' n l (a.put o.dst (.pointer (some ⟨g, 4, none⟩)))) (hwt : Region.wanted o (yielded ops a.tmps) = true := by rfl) : lexC Tryz.prog B w0 L S ops Q' (n + 1) (o :: l) a :=
  lexC_field ho hx Tryz.underlying55 rfl ⟨3, num_info⟩ rfl h hwt
theorem cP_fz {x : Operand} {g : Nat} (ho : o.op = .fieldAddr 55 x 2) (hx : a.eval x = .pointer (some ⟨g, 0, none⟩)) (h : lexC Tryz.prog B w0 L S ops Q' n l (a.put o.dst (.pointer (some ⟨g, 8, none⟩)))) (hwt : Region.wanted o (yielded ops a.tmps) = true := by rfl) : lexC Tryz.prog B w0 L S ops Q' (n + 1) (o :: l) a :=
  lexC_field ho hx Tryz.underlying55 rfl ⟨3, num_info⟩ rfl h hwt
theorem cP_lx {x : Operand} {g : Nat} {j : Ec.Jac Ec.P} (ho : o.op = .load 53 x) (hx : a.eval x = .pointer (some ⟨g, 0, none⟩)) (hm : (g, jv j, 55) ∈ L) (h : lexC Tryz.prog B w0 L S ops Q' n l (a.put o.dst (.agg (fv j.x)))) (hwt : Region.wanted o (yielded ops a.tmps) = true := by rfl) : lexC Tryz.prog B w0 L S ops Q' (n + 1) (o :: l) a :=
  cP_load ho hx hm (fv_size _) (jv_x j) h hwt
theorem wP_lx {x : Operand} {g : Nat} {j : Ec.Jac Ec.P} (hgd : o.guard = none) (ho : o.op = .load 53 x) (h : Rws B w0 w L) (hx : a.eval x = .pointer (some ⟨g, 0, none⟩)) (hm : (g, jv j, 55) ∈ L) (hK : wpList Tryz.prog ops Q rest (a.put o.dst (.agg (fv j.x))) w) : wpList Tryz.prog ops Q (o :: rest) a w :=
  wP_load hgd ho h hx hm (fv_size _) (jv_x j) hK
theorem cP_ly {x : Operand} {g : Nat} {j : Ec.Jac Ec.P} (ho : o.op = .load 53 x) (hx : a.eval x = .pointer (some ⟨g, 4, none⟩)) (hm : (g, jv j, 55) ∈ L) (h : lexC Tryz.prog B w0 L S ops Q' n l (a.put o.dst (.agg (fv j.y)))) (hwt : Region.wanted o (yielded ops a.tmps) = true := by rfl) : lexC Tryz.prog B w0 L S ops Q' (n + 1) (o :: l) a :=
  cP_load ho hx hm (fv_size _) (jv_y j) h hwt
theorem cP_lz {x : Operand} {g : Nat} {j : Ec.Jac Ec.P} (ho : o.op = .load 53 x) (hx : a.eval x = .pointer (some ⟨g, 8, none⟩)) (hm : (g, jv j, 55) ∈ L) (h : lexC Tryz.prog B w0 L S ops Q' n l (a.put o.dst (.agg (fv j.z)))) (hwt : Region.wanted o (yielded ops a.tmps) = true := by rfl) : lexC Tryz.prog B w0 L S ops Q' (n + 1) (o :: l) a :=
  cP_load ho hx hm (fv_size _) (jv_z j) h hwt
theorem wP_lz {x : Operand} {g : Nat} {j : Ec.Jac Ec.P} (hgd : o.guard = none) (ho : o.op = .load 53 x) (h : Rws B w0 w L) (hx : a.eval x = .pointer (some ⟨g, 8, none⟩)) (hm : (g, jv j, 55) ∈ L) (hK : wpList Tryz.prog ops Q rest (a.put o.dst (.agg (fv j.z))) w) : wpList Tryz.prog ops Q (o :: rest) a w :=
  wP_load hgd ho h hx hm (fv_size _) (jv_z j) hK
end
end Go.Proofs.YtaggpodckafbgaaGreatDoor
