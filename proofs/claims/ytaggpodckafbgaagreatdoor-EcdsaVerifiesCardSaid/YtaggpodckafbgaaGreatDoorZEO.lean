/- EOf0 EOfX EOfY EOfC EOf, in one text. -/
import Derived.Test.YtaggpodckafbgaaGreatDoorZP0
import Derived.Test.YtaggpodckafbgaaGreatDoorZA0
/- of: the point of a key. -/
namespace Go.Proofs.YtaggpodckafbgaaGreatDoor
open Go.RowKit
def OfPost (kx ky : ByteArray) (w : World) (e : Ending) (w' : World) : Prop :=
  ∃ pv : Array Value, pv.size = 12 ∧ pv.all (·.oneCell') = true ∧ e = .returned (.tuple #[.agg pv, .bool (inK kx ky).isSome]) ∧ (∀ A, inK kx ky = some A → pv = jv (Ec.Jac.of A)) ∧ Below w.heap.size w w'
set_option maxRecDepth 100000 in
theorem of_far (kx ky : ByteArray) (w : World) (h0 : kx.size = 0 ∧ ky.size = 0) : Calls Tryz.prog 31 #[.agg (kvc kx ky)] w (OfPost kx ky w) := by
  have hin : inK kx ky = some .inf := if_pos h0
  have hq : ∀ w : World, (Op.equalIn 10000 23 (.agg (kvc kx ky)) (.agg zkey)).run Tryz.prog w = .ok true w := fun w => by rw [eq_key0, decide_eq_true h0.1, decide_eq_true h0.2]; rfl
  unfold OfPost
  rw [hin]
  clear h0 hin
  have hR0 := Rws.start w
  go_enter Tryz.func31, Tryz.ntmps31
  go_wp2_with (first
    | (refine wK_box rfl (by rfl) (by assumption) rfl ?_; intro gk w1 hR)
    | (refine wP_alloc rfl (by rfl) (by assumption) ?_; intro gr w1 hR)
    | (refine wK_load rfl (by rfl) (by assumption) rfl (by repeat (first | exact pzH | refine pzM ?_)) rfl ?_)
    | (refine wB_build (xs := []) (cs := zkey) rfl (by rfl) (by exact built_key0) ?_)
    | (refine wB_build (xs := []) (cs := jv ⟨0, 0, 0⟩) rfl (by rfl) (by exact built_zero) ?_)
    | (refine wP_store rfl (by rfl) (by assumption) rfl rfl (by repeat (first | exact Pick.here | apply Pick.there)) (by rfl) (by exact jv_size _) (by exact jv_cells _) ?_; intro w1 hR))
  exact bodyPost_rws2 Tryz.results31 (by assumption) _ rfl _ _ (List.Mem.head _) _ Tryz.underlying55 rfl (point_info (jv_size _)) _ rfl rfl fun hb => ⟨_, jv_size _, jv_cells _, rfl, fun A hA => by rw [← Option.some.inj hA]; rfl, hb⟩
set_option maxRecDepth 100000 in
set_option maxHeartbeats 1600000 in
theorem of_len (kx ky : ByteArray) (w : World) (h0 : ¬ (kx.size = 0 ∧ ky.size = 0)) (h1 : ¬ (kx.size = 32 ∧ ky.size = 32)) : Calls Tryz.prog 31 #[.agg (kvc kx ky)] w (OfPost kx ky w) := by
  have hin : inK kx ky = none := by unfold inK; rw [if_neg h0, if_neg (fun h => h1 ⟨h.1, h.2.1⟩)]
  have hq : ∀ w : World, (Op.equalIn 10000 23 (.agg (kvc kx ky)) (.agg zkey)).run Tryz.prog w = .ok false w := fun w => by
    rw [eq_key0]
    congr 1
    by_cases h : kx.size = 0
    · rw [decide_eq_true h, Bool.true_and, decide_eq_false (fun h' => h0 ⟨h, h'⟩)]
    · rw [decide_eq_false h, Bool.false_and]
  unfold OfPost
  rw [hin]
  clear h0 hin
  have hR0 := Rws.start w
  by_cases hx : kx.size = 32
  · have hy : ¬ (ky.size : Int) = 32 := fun h => h1 ⟨hx, by omega⟩
    clear h1
    go_enter Tryz.func31, Tryz.ntmps31
    go_upto_region 3 with (first
      | (refine wK_box rfl (by rfl) (by assumption) rfl ?_; intro gk w1 hR)
      | (refine wP_alloc rfl (by rfl) (by assumption) ?_; intro gr w1 hR)
      | (refine wK_load rfl (by rfl) (by assumption) rfl (by repeat (first | exact pzH | refine pzM ?_)) rfl ?_)
      | (refine wB_build (xs := []) (cs := zkey) rfl (by rfl) (by exact built_key0) ?_))
    have c0 : w1.cell? ⟨gk, 0, none⟩ = some (.string kx) := cell_of_row w1 gk 0 _ _ _ (hR.row _ (List.Mem.tail _ (List.Mem.head _))).2
    have c1 : w1.cell? ⟨gk, 1, none⟩ = some (.string ky) := cell_of_row w1 gk 1 _ _ _ (hR.row _ (List.Mem.tail _ (List.Mem.head _))).2
    go_wp2_with (first
      | (refine wB_build (xs := []) (cs := jv ⟨0, 0, 0⟩) rfl (by rfl) (by exact built_zero) ?_)
      | (refine wP_store rfl (by rfl) (by assumption) rfl rfl (by repeat (first | exact Pick.here | apply Pick.there)) (by rfl) (by exact jv_size _) (by exact jv_cells _) ?_; intro w1 hR))
    exact bodyPost_rws2 Tryz.results31 (by assumption) _ rfl _ _ (List.Mem.head _) _ Tryz.underlying55 rfl (point_info (jv_size _)) _ rfl rfl fun hb => ⟨_, jv_size _, jv_cells _, rfl, (fun A hA => by cases hA), hb⟩
  · have hx : ¬ (kx.size : Int) = 32 := by omega
    clear h1
    go_enter Tryz.func31, Tryz.ntmps31
    go_upto_region 3 with (first
      | (refine wK_box rfl (by rfl) (by assumption) rfl ?_; intro gk w1 hR)
      | (refine wP_alloc rfl (by rfl) (by assumption) ?_; intro gr w1 hR)
      | (refine wK_load rfl (by rfl) (by assumption) rfl (by repeat (first | exact pzH | refine pzM ?_)) rfl ?_)
      | (refine wB_build (xs := []) (cs := zkey) rfl (by rfl) (by exact built_key0) ?_))
    have c0 : w1.cell? ⟨gk, 0, none⟩ = some (.string kx) := cell_of_row w1 gk 0 _ _ _ (hR.row _ (List.Mem.tail _ (List.Mem.head _))).2
    have c1 : w1.cell? ⟨gk, 1, none⟩ = some (.string ky) := cell_of_row w1 gk 1 _ _ _ (hR.row _ (List.Mem.tail _ (List.Mem.head _))).2
    go_wp2_with (first
      | (refine wB_build (xs := []) (cs := jv ⟨0, 0, 0⟩) rfl (by rfl) (by exact built_zero) ?_)
      | (refine wP_store rfl (by rfl) (by assumption) rfl rfl (by repeat (first | exact Pick.here | apply Pick.there)) (by rfl) (by exact jv_size _) (by exact jv_cells _) ?_; intro w1 hR))
    exact bodyPost_rws2 Tryz.results31 (by assumption) _ rfl _ _ (List.Mem.head _) _ Tryz.underlying55 rfl (point_info (jv_size _)) _ rfl rfl fun hb => ⟨_, jv_size _, jv_cells _, rfl, (fun A hA => by cases hA), hb⟩
def pvn (x y : Nat) : Array Value := nmc x ++ nmc y ++ fv 1
theorem pvn_size (x y : Nat) : (pvn x y).size = 12 := by simp [pvn, nmc_size, fv_size]
theorem pvn_cells (x y : Nat) : (pvn x y).all (·.oneCell') = true := by simp only [pvn, Array.all_append, nmc_cells, fv_cells, Bool.and_self]
end Go.Proofs.YtaggpodckafbgaaGreatDoor
/- of: the point of a key, part. -/
namespace Go.Proofs.YtaggpodckafbgaaGreatDoor
open Go.RowKit
set_option maxRecDepth 100000 in
set_option maxHeartbeats 3200000 in
theorem of_x (kx ky : ByteArray) (w : World) (hx : kx.size = 32) (hy : ky.size = 32) (h1 : ¬ nv kx < Ec.P) : Calls Tryz.prog 31 #[.agg (kvc kx ky)] w (fun e w' => e = .returned (.tuple #[.agg (pvn (nv kx) (nv ky)), .bool false]) ∧ Below w.heap.size w w') := by
  have hq : ∀ w : World, (Op.equalIn 10000 23 (.agg (kvc kx ky)) (.agg zkey)).run Tryz.prog w = .ok false w := fun w => by
    rw [eq_key0, decide_eq_false (by omega), Bool.false_and]
  have hn1 : ∀ w : World, Calls Tryz.prog 45 #[.string kx] w fun e w' => e = .returned (.agg (nmc (nv kx))) ∧ Below w.heap.size w w' := fun w => number_any kx hx w
  have hn2 : ∀ w : World, Calls Tryz.prog 45 #[.string ky] w fun e w' => e = .returned (.agg (nmc (nv ky))) ∧ Below w.heap.size w w' := fun w => number_any ky hy w
  have hlt : ∀ k : ByteArray, k.size = 32 → nv k < 115792089237316195423570985008687907853269984665640564039457584007913129639936 := fun k hk => by
    have := bv_lt k.data.toList
    rw [show k.data.toList.length = 32 by simpa using hk] at this
    exact this
  have hxl := hlt kx hx
  have hyl := hlt ky hy
  generalize hxe : nv kx = x at *
  generalize hye : nv ky = y at *
  clear hxe hye hlt
  obtain ⟨X, hX⟩ : ∃ X, X = toF x := ⟨_, rfl⟩
  obtain ⟨Y, hY⟩ : ∃ Y, Y = toF y := ⟨_, rfl⟩
  obtain ⟨xx, exx⟩ : ∃ v, v = X * X := ⟨_, rfl⟩
  obtain ⟨x3, ex3⟩ : ∃ v, v = X * xx := ⟨_, rfl⟩
  obtain ⟨t3, et3⟩ : ∃ v, v = 3 * X := ⟨_, rfl⟩
  obtain ⟨df, edf⟩ : ∃ v, v = x3 - t3 := ⟨_, rfl⟩
  obtain ⟨rt, ert⟩ : ∃ v, v = df + Ec.cb := ⟨_, rfl⟩
  obtain ⟨yy, eyy⟩ : ∃ v, v = Y * Y := ⟨_, rfl⟩
  have HN1 := Lib.hid hn1; have HN2 := Lib.hid hn2
  have Hxx := Lib.hid (show ∀ w : World, Calls Tryz.prog 72 #[.agg (nmc x), .agg (nmc x)] w fun e w' => e = .returned (.agg (fv xx)) ∧ Below w.heap.size w w' from fun w => by rw [exx, hX]; exact gmul x x hxl hxl w)
  have Hx3 := Lib.hid (show ∀ w : World, Calls Tryz.prog 72 #[.agg (nmc x), .agg (fv xx)] w fun e w' => e = .returned (.agg (fv x3)) ∧ Below w.heap.size w w' from fun w => by
    have h := gmul x xx.val hxl (F_lt xx) w
    rw [toF_of, ← hX, ← ex3] at h
    exact h)
  have Ht3 := Lib.hid (show ∀ w : World, Calls Tryz.prog 72 #[.agg (fv 3), .agg (nmc x)] w fun e w' => e = .returned (.agg (fv t3)) ∧ Below w.heap.size w w' from fun w => by
    have h := gmul (3 : Ec.F).val x (F_lt 3) hxl w
    rw [toF_of, ← hX, ← et3] at h
    exact h)
  have Hdf := Lib.hid (show ∀ w : World, Calls Tryz.prog 71 #[.agg (fv x3), .agg (fv t3)] w fun e w' => e = .returned (.agg (fv df)) ∧ Below w.heap.size w w' from fun w => by rw [edf]; exact fsub _ _ w)
  have Hrt := Lib.hid (show ∀ w : World, Calls Tryz.prog 70 #[.agg (fv df), .agg (fv Ec.cb)] w fun e w' => e = .returned (.agg (fv rt)) ∧ Below w.heap.size w w' from fun w => by rw [ert]; exact fadd _ _ w)
  have Hyy := Lib.hid (show ∀ w : World, Calls Tryz.prog 72 #[.agg (nmc y), .agg (nmc y)] w fun e w' => e = .returned (.agg (fv yy)) ∧ Below w.heap.size w w' from fun w => by rw [eyy, hY]; exact gmul y y hyl hyl w)
  have hP : Big Ec.P := pp_big 0
  have hP0 : 0 < Ec.P := by have := hP.2; omega
  have Hm := Lib.hid (show ∀ w : World, Calls Tryz.prog 49 #[.int .i64 0] w fun e w' => e = .returned (.agg (nmc Ec.P)) ∧ Below w.heap.size w w' from fun w => modulus_any 0 w)
  have Hbx := Lib.hid (show ∀ w : World, Calls Tryz.prog 48 #[.agg (nmc x), .agg (nmc Ec.P)] w fun e w' => e = .returned (.agg (nmc (x % Ec.P))) ∧ Below w.heap.size w w' from fun w => below_any x Ec.P w hxl hP)
  have Hby := Lib.hid (show ∀ w : World, Calls Tryz.prog 48 #[.agg (nmc y), .agg (nmc Ec.P)] w fun e w' => e = .returned (.agg (nmc (y % Ec.P))) ∧ Below w.heap.size w w' from fun w => below_any y Ec.P w hyl hP)
  have HXL := Lib.hid hxl; have HYL := Lib.hid hyl
  have HX1 := Lib.hid (Nat.lt_trans (Nat.mod_lt x hP0) hP.1); have HY1 := Lib.hid (Nat.lt_trans (Nat.mod_lt y hP0) hP.1)
  have hxi : (kx.size : Int) = 32 := by omega
  have hyi : (ky.size : Int) = 32 := by omega
  have hxm : x % Ec.P < Ec.P := Nat.mod_lt _ hP0
  generalize x % Ec.P = xm at *
  generalize y % Ec.P = ym at *
  have hb1 : decide (xm = x) = false := decide_eq_false (fun e => h1 (e ▸ hxm))
  clear h1 hxm
  clear hn1 hn2 hxl hyl hP hP0 hX hY exx ex3 et3 edf ert eyy hx hy
  have hR0 := Rws.start w
  go_enter Tryz.func31, Tryz.ntmps31
  go_upto_region 3 with (first
    | (refine wK_box rfl (by rfl) (by assumption) rfl ?_; intro gk w1 hR)
    | (refine wP_alloc rfl (by rfl) (by assumption) ?_; intro gr w1 hR)
    | (refine wK_load rfl (by rfl) (by assumption) rfl (by repeat (first | exact pzH | refine pzM ?_)) rfl ?_)
    | (refine wB_build (xs := []) (cs := zkey) rfl (by rfl) (by exact built_key0) ?_))
  have c0 : w1.cell? ⟨gk, 0, none⟩ = some (.string kx) := cell_of_row w1 gk 0 _ _ _ (hR.row _ (List.Mem.tail _ (List.Mem.head _))).2
  have c1 : w1.cell? ⟨gk, 1, none⟩ = some (.string ky) := cell_of_row w1 gk 1 _ _ _ (hR.row _ (List.Mem.tail _ (List.Mem.head _))).2
  go_upto_region 5 with (fail)
  clear c0 c1 hq hxi hyi
  refine wp_region_calm 8 (by kernel_rfl) (by kernel_rfl) (by assumption) ?_
  refine cK_f0 (by rfl) rfl ?_
  simp only [Act.put, pzT, pzA, pzB]
  refine cK_s0 (by rfl) rfl (by repeat (first | exact pzH | refine pzM ?_)) ?_
  simp only [Act.put, pzT, pzA, pzB]
  refine lexC_call rfl Tryz.func45 (by kernel_rfl) rfl rfl (fun w _ => HN1.out w) ?_
  simp only [Act.put, pzT, pzA, pzB]
  refine cK_f1 (by rfl) rfl ?_
  simp only [Act.put, pzT, pzA, pzB]
  refine cK_s1 (by rfl) rfl (by repeat (first | exact pzH | refine pzM ?_)) ?_
  simp only [Act.put, pzT, pzA, pzB]
  refine lexC_call rfl Tryz.func45 (by kernel_rfl) rfl rfl (fun w _ => HN2.out w) ?_
  simp only [Act.put, pzT, pzA, pzB]
  repeat (first | (refine lexC_alloc (by rfl) ?_; simp only [Act.put, pzT, pzA, pzB]) | (refine cN_load (by rfl) rfl (by repeat (first | exact pzH | refine pzM ?_)) rfl ?_; simp only [Act.put, pzT, pzA, pzB]) | (refine lexC_move (by rfl) rfl ?_; simp only [Act.put, pzT, pzA, pzB]) | (refine lexC_assign (by rfl) rfl ?_; simp only [Act.put, pzT, pzA, pzB]))
  refine lexC_zero ?_; simp only [pzC, pzD, pzE, pzF]; (repeat (first | (refine aN_cons (by rfl) ?_; intro g; simp only [Act.put, pzT, pzA, pzB]) | (refine afterAl_skip (by rfl) ?_))); refine afterAl_nil ?_; intro w1 hR
  go_upto_region 6 with (first | (refine wN_box rfl (by rfl) (by assumption) rfl ?_; intro g w1 hR) | (refine wN_alloc rfl (by rfl) (by assumption) ?_; intro g w1 hR) | (refine wN_load rfl (by rfl) (by assumption) rfl (by repeat (first | exact pzH | refine pzM ?_)) rfl ?_) | (refine wN_store rfl (by rfl) (by assumption) rfl rfl (by repeat (first | exact Pick.here | apply Pick.there)) rfl rfl (by first | exact nmc_cells _ | simp [Value.oneCell']) ?_; intro w1 hR))
  go_upto_region 7 with (first | (refine wB_build (cs := fv Ec.cb) rfl (by rfl) (by kernel_rfl) ?_) | (refine wN_box rfl (by rfl) (by assumption) rfl ?_; intro g w1 hR) | (refine wN_alloc rfl (by rfl) (by assumption) ?_; intro g w1 hR) | (refine wN_load rfl (by rfl) (by assumption) rfl (by repeat (first | exact pzH | refine pzM ?_)) rfl ?_) | (refine wN_store rfl (by rfl) (by assumption) rfl rfl (by repeat (first | exact Pick.here | apply Pick.there)) rfl rfl (by first | exact nmc_cells _ | simp [Value.oneCell']) ?_; intro w1 hR))
  refine wp_region_calm 12 (by kernel_rfl) (by kernel_rfl) (by assumption) ?_
  repeat (first | (refine lexC_alloc (by rfl) ?_; simp only [Act.put, pzT, pzA, pzB]) | (refine cN_load (by rfl) rfl (by repeat (first | exact pzH | refine pzM ?_)) rfl ?_; simp only [Act.put, pzT, pzA, pzB]) | (refine lexC_move (by rfl) rfl ?_; simp only [Act.put, pzT, pzA, pzB]) | (refine lexC_assign (by rfl) rfl ?_; simp only [Act.put, pzT, pzA, pzB]))
  refine lexC_call rfl Tryz.func72 (by kernel_rfl) rfl rfl (fun w _ => Hxx.out w) ?_
  simp only [Act.put, pzT, pzA, pzB]
  repeat (first | (refine lexC_alloc (by rfl) ?_; simp only [Act.put, pzT, pzA, pzB]) | (refine cN_load (by rfl) rfl (by repeat (first | exact pzH | refine pzM ?_)) rfl ?_; simp only [Act.put, pzT, pzA, pzB]) | (refine lexC_move (by rfl) rfl ?_; simp only [Act.put, pzT, pzA, pzB]) | (refine lexC_assign (by rfl) rfl ?_; simp only [Act.put, pzT, pzA, pzB]))
  refine lexC_call rfl Tryz.func72 (by kernel_rfl) rfl rfl (fun w _ => Hx3.out w) ?_
  simp only [Act.put, pzT, pzA, pzB]
  refine lexC_build (cs := fv 3) (by rfl) (by kernel_rfl) ?_
  simp only [Act.put, pzT, pzA, pzB]
  repeat (first | (refine lexC_alloc (by rfl) ?_; simp only [Act.put, pzT, pzA, pzB]) | (refine cN_load (by rfl) rfl (by repeat (first | exact pzH | refine pzM ?_)) rfl ?_; simp only [Act.put, pzT, pzA, pzB]) | (refine lexC_move (by rfl) rfl ?_; simp only [Act.put, pzT, pzA, pzB]) | (refine lexC_assign (by rfl) rfl ?_; simp only [Act.put, pzT, pzA, pzB]))
  refine lexC_call rfl Tryz.func72 (by kernel_rfl) rfl rfl (fun w _ => Ht3.out w) ?_
  simp only [Act.put, pzT, pzA, pzB]
  repeat (first | (refine lexC_alloc (by rfl) ?_; simp only [Act.put, pzT, pzA, pzB]) | (refine cN_load (by rfl) rfl (by repeat (first | exact pzH | refine pzM ?_)) rfl ?_; simp only [Act.put, pzT, pzA, pzB]) | (refine lexC_move (by rfl) rfl ?_; simp only [Act.put, pzT, pzA, pzB]) | (refine lexC_assign (by rfl) rfl ?_; simp only [Act.put, pzT, pzA, pzB]))
  refine lexC_call rfl Tryz.func71 (by kernel_rfl) rfl rfl (fun w _ => Hdf.out w) ?_
  simp only [Act.put, pzT, pzA, pzB]
  repeat (first | (refine lexC_alloc (by rfl) ?_; simp only [Act.put, pzT, pzA, pzB]) | (refine cN_load (by rfl) rfl (by repeat (first | exact pzH | refine pzM ?_)) rfl ?_; simp only [Act.put, pzT, pzA, pzB]) | (refine lexC_move (by rfl) rfl ?_; simp only [Act.put, pzT, pzA, pzB]) | (refine lexC_assign (by rfl) rfl ?_; simp only [Act.put, pzT, pzA, pzB]))
  refine lexC_call rfl Tryz.func70 (by kernel_rfl) rfl rfl (fun w _ => Hrt.out w) ?_
  simp only [Act.put, pzT, pzA, pzB]
  repeat (first | (refine lexC_alloc (by rfl) ?_; simp only [Act.put, pzT, pzA, pzB]) | (refine cN_load (by rfl) rfl (by repeat (first | exact pzH | refine pzM ?_)) rfl ?_; simp only [Act.put, pzT, pzA, pzB]) | (refine lexC_move (by rfl) rfl ?_; simp only [Act.put, pzT, pzA, pzB]) | (refine lexC_assign (by rfl) rfl ?_; simp only [Act.put, pzT, pzA, pzB]))
  refine lexC_zero ?_; simp only [pzC, pzD, pzE, pzF]; (repeat (first | (refine aN_cons (by rfl) ?_; intro g; simp only [Act.put, pzT, pzA, pzB]) | (refine afterAl_skip (by rfl) ?_))); refine afterAl_nil ?_; intro w1 hR
  go_upto_region 8 with (first | (refine wN_box rfl (by rfl) (by assumption) rfl ?_; intro g w1 hR) | (refine wN_alloc rfl (by rfl) (by assumption) ?_; intro g w1 hR) | (refine wN_load rfl (by rfl) (by assumption) rfl (by repeat (first | exact pzH | refine pzM ?_)) rfl ?_) | (refine wN_store rfl (by rfl) (by assumption) rfl rfl (by repeat (first | exact Pick.here | apply Pick.there)) rfl rfl (by first | exact nmc_cells _ | simp [Value.oneCell']) ?_; intro w1 hR))
  refine wp_region_calmS 24 ⟨gr, z12, pvn x y, 55⟩ (by kernel_rfl) (by kernel_rfl) (by assumption) (by repeat (first | exact Pick.here | apply Pick.there)) ?_
  repeat (first | (refine lexC_alloc (by rfl) ?_; simp only [Act.put, pzT, pzA, pzB]) | (refine cN_load (by rfl) rfl (by repeat (first | exact pzH | refine pzM ?_)) rfl ?_; simp only [Act.put, pzT, pzA, pzB]) | (refine lexC_move (by rfl) rfl ?_; simp only [Act.put, pzT, pzA, pzB]) | (refine lexC_assign (by rfl) rfl ?_; simp only [Act.put, pzT, pzA, pzB]))
  refine lexC_build (cs := fv 1) (by rfl) (by kernel_rfl) ?_
  simp only [Act.put, pzT, pzA, pzB]
  refine lexC_build (cs := pvn x y) (by rfl) (by kernel_rfl) ?_
  simp only [Act.put, pzT, pzA, pzB]
  repeat (first | (refine lexC_alloc (by rfl) ?_; simp only [Act.put, pzT, pzA, pzB]) | (refine cN_load (by rfl) rfl (by repeat (first | exact pzH | refine pzM ?_)) rfl ?_; simp only [Act.put, pzT, pzA, pzB]) | (refine lexC_move (by rfl) rfl ?_; simp only [Act.put, pzT, pzA, pzB]) | (refine lexC_assign (by rfl) rfl ?_; simp only [Act.put, pzT, pzA, pzB]))
  refine lexC_call rfl Tryz.func49 (by kernel_rfl) rfl rfl (fun w _ => Hm.out w) ?_
  simp only [Act.put, pzT, pzA, pzB]
  repeat (first | (refine lexC_alloc (by rfl) ?_; simp only [Act.put, pzT, pzA, pzB]) | (refine cN_load (by rfl) rfl (by repeat (first | exact pzH | refine pzM ?_)) rfl ?_; simp only [Act.put, pzT, pzA, pzB]) | (refine lexC_move (by rfl) rfl ?_; simp only [Act.put, pzT, pzA, pzB]) | (refine lexC_assign (by rfl) rfl ?_; simp only [Act.put, pzT, pzA, pzB]))
  refine lexC_call rfl Tryz.func48 (by kernel_rfl) rfl rfl (fun w _ => Hbx.out w) ?_
  simp only [Act.put, pzT, pzA, pzB]
  repeat (first | (refine lexC_alloc (by rfl) ?_; simp only [Act.put, pzT, pzA, pzB]) | (refine cN_load (by rfl) rfl (by repeat (first | exact pzH | refine pzM ?_)) rfl ?_; simp only [Act.put, pzT, pzA, pzB]) | (refine lexC_move (by rfl) rfl ?_; simp only [Act.put, pzT, pzA, pzB]) | (refine lexC_assign (by rfl) rfl ?_; simp only [Act.put, pzT, pzA, pzB]))
  refine cN_eq (b := false) (by rfl) rfl rfl HX1.out HXL.out hb1 ?_
  simp only [Act.put, pzT, pzA, pzB]
  repeat (first | (refine lexC_alloc (by rfl) ?_; simp only [Act.put, pzT, pzA, pzB]) | (refine cN_load (by rfl) rfl (by repeat (first | exact pzH | refine pzM ?_)) rfl ?_; simp only [Act.put, pzT, pzA, pzB]) | (refine lexC_move (by rfl) rfl ?_; simp only [Act.put, pzT, pzA, pzB]) | (refine lexC_assign (by rfl) rfl ?_; simp only [Act.put, pzT, pzA, pzB]))
  iterate 5 ((refine lexC_skip (by rfl) (by rfl) ?_); (simp only [Act.put, pzT, pzA, pzB]))
  refine c_pickF (by rfl) rfl rfl ?_
  simp only [Act.put, pzT, pzA, pzB]
  repeat (first | (refine lexC_alloc (by rfl) ?_; simp only [Act.put, pzT, pzA, pzB]) | (refine cN_load (by rfl) rfl (by repeat (first | exact pzH | refine pzM ?_)) rfl ?_; simp only [Act.put, pzT, pzA, pzB]) | (refine lexC_move (by rfl) rfl ?_; simp only [Act.put, pzT, pzA, pzB]) | (refine lexC_assign (by rfl) rfl ?_; simp only [Act.put, pzT, pzA, pzB]))
  iterate 5 ((refine lexC_skip (by rfl) (by rfl) ?_); (simp only [Act.put, pzT, pzA, pzB]))
  refine c_pickF (by rfl) rfl rfl ?_
  simp only [Act.put, pzT, pzA, pzB]
  refine lexC_store (by rfl) rfl rfl (point_info (pvn_size x y)) (by rw [pvn_size]; rfl) (pvn_cells x y) ?_
  simp only [Act.put]
  refine lexC_zero ?_; simp only [pzC, pzD, pzE, pzF]; (repeat (first | (refine aN_cons (by rfl) ?_; intro g; simp only [Act.put, pzT, pzA, pzB]) | (refine afterAl_skip (by rfl) ?_))); refine afterAl_nil ?_; intro w1 hR
  go_wp2_with fail
  exact bodyPost_rws2 Tryz.results31 (by assumption) _ rfl _ _ (List.Mem.head _) _ Tryz.underlying55 rfl (point_info (pvn_size x y)) _ rfl rfl fun hb => ⟨rfl, hb⟩
end Go.Proofs.YtaggpodckafbgaaGreatDoor
/- of: the point of a key, part. -/
namespace Go.Proofs.YtaggpodckafbgaaGreatDoor
open Go.RowKit
set_option maxRecDepth 100000 in
set_option maxHeartbeats 3200000 in
theorem of_y (kx ky : ByteArray) (w : World) (hx : kx.size = 32) (hy : ky.size = 32) (h1 : nv kx < Ec.P) (h2 : ¬ nv ky < Ec.P) : Calls Tryz.prog 31 #[.agg (kvc kx ky)] w (fun e w' => e = .returned (.tuple #[.agg (pvn (nv kx) (nv ky)), .bool false]) ∧ Below w.heap.size w w') := by
  have hq : ∀ w : World, (Op.equalIn 10000 23 (.agg (kvc kx ky)) (.agg zkey)).run Tryz.prog w = .ok false w := fun w => by
    rw [eq_key0, decide_eq_false (by omega), Bool.false_and]
  have hn1 : ∀ w : World, Calls Tryz.prog 45 #[.string kx] w fun e w' => e = .returned (.agg (nmc (nv kx))) ∧ Below w.heap.size w w' := fun w => number_any kx hx w
  have hn2 : ∀ w : World, Calls Tryz.prog 45 #[.string ky] w fun e w' => e = .returned (.agg (nmc (nv ky))) ∧ Below w.heap.size w w' := fun w => number_any ky hy w
  have hlt : ∀ k : ByteArray, k.size = 32 → nv k < 115792089237316195423570985008687907853269984665640564039457584007913129639936 := fun k hk => by
    have := bv_lt k.data.toList
    rw [show k.data.toList.length = 32 by simpa using hk] at this
    exact this
  have hxl := hlt kx hx
  have hyl := hlt ky hy
  generalize hxe : nv kx = x at *
  generalize hye : nv ky = y at *
  clear hxe hye hlt
  obtain ⟨X, hX⟩ : ∃ X, X = toF x := ⟨_, rfl⟩
  obtain ⟨Y, hY⟩ : ∃ Y, Y = toF y := ⟨_, rfl⟩
  obtain ⟨xx, exx⟩ : ∃ v, v = X * X := ⟨_, rfl⟩
  obtain ⟨x3, ex3⟩ : ∃ v, v = X * xx := ⟨_, rfl⟩
  obtain ⟨t3, et3⟩ : ∃ v, v = 3 * X := ⟨_, rfl⟩
  obtain ⟨df, edf⟩ : ∃ v, v = x3 - t3 := ⟨_, rfl⟩
  obtain ⟨rt, ert⟩ : ∃ v, v = df + Ec.cb := ⟨_, rfl⟩
  obtain ⟨yy, eyy⟩ : ∃ v, v = Y * Y := ⟨_, rfl⟩
  have HN1 := Lib.hid hn1; have HN2 := Lib.hid hn2
  have Hxx := Lib.hid (show ∀ w : World, Calls Tryz.prog 72 #[.agg (nmc x), .agg (nmc x)] w fun e w' => e = .returned (.agg (fv xx)) ∧ Below w.heap.size w w' from fun w => by rw [exx, hX]; exact gmul x x hxl hxl w)
  have Hx3 := Lib.hid (show ∀ w : World, Calls Tryz.prog 72 #[.agg (nmc x), .agg (fv xx)] w fun e w' => e = .returned (.agg (fv x3)) ∧ Below w.heap.size w w' from fun w => by
    have h := gmul x xx.val hxl (F_lt xx) w
    rw [toF_of, ← hX, ← ex3] at h
    exact h)
  have Ht3 := Lib.hid (show ∀ w : World, Calls Tryz.prog 72 #[.agg (fv 3), .agg (nmc x)] w fun e w' => e = .returned (.agg (fv t3)) ∧ Below w.heap.size w w' from fun w => by
    have h := gmul (3 : Ec.F).val x (F_lt 3) hxl w
    rw [toF_of, ← hX, ← et3] at h
    exact h)
  have Hdf := Lib.hid (show ∀ w : World, Calls Tryz.prog 71 #[.agg (fv x3), .agg (fv t3)] w fun e w' => e = .returned (.agg (fv df)) ∧ Below w.heap.size w w' from fun w => by rw [edf]; exact fsub _ _ w)
  have Hrt := Lib.hid (show ∀ w : World, Calls Tryz.prog 70 #[.agg (fv df), .agg (fv Ec.cb)] w fun e w' => e = .returned (.agg (fv rt)) ∧ Below w.heap.size w w' from fun w => by rw [ert]; exact fadd _ _ w)
  have Hyy := Lib.hid (show ∀ w : World, Calls Tryz.prog 72 #[.agg (nmc y), .agg (nmc y)] w fun e w' => e = .returned (.agg (fv yy)) ∧ Below w.heap.size w w' from fun w => by rw [eyy, hY]; exact gmul y y hyl hyl w)
  have hP : Big Ec.P := pp_big 0
  have hP0 : 0 < Ec.P := by have := hP.2; omega
  have Hm := Lib.hid (show ∀ w : World, Calls Tryz.prog 49 #[.int .i64 0] w fun e w' => e = .returned (.agg (nmc Ec.P)) ∧ Below w.heap.size w w' from fun w => modulus_any 0 w)
  have Hbx := Lib.hid (show ∀ w : World, Calls Tryz.prog 48 #[.agg (nmc x), .agg (nmc Ec.P)] w fun e w' => e = .returned (.agg (nmc (x % Ec.P))) ∧ Below w.heap.size w w' from fun w => below_any x Ec.P w hxl hP)
  have Hby := Lib.hid (show ∀ w : World, Calls Tryz.prog 48 #[.agg (nmc y), .agg (nmc Ec.P)] w fun e w' => e = .returned (.agg (nmc (y % Ec.P))) ∧ Below w.heap.size w w' from fun w => below_any y Ec.P w hyl hP)
  have HXL := Lib.hid hxl; have HYL := Lib.hid hyl
  have HX1 := Lib.hid (Nat.lt_trans (Nat.mod_lt x hP0) hP.1); have HY1 := Lib.hid (Nat.lt_trans (Nat.mod_lt y hP0) hP.1)
  have hxi : (kx.size : Int) = 32 := by omega
  have hyi : (ky.size : Int) = 32 := by omega
  have hxm : x % Ec.P = x := Nat.mod_eq_of_lt h1
  generalize x % Ec.P = xm at *
  have hym : y % Ec.P < Ec.P := Nat.mod_lt _ hP0
  generalize y % Ec.P = ym at *
  have hb1 : decide (xm = x) = true := decide_eq_true hxm
  have hb2 : decide (ym = y) = false := decide_eq_false (fun e => h2 (e ▸ hym))
  clear h1 h2 hxm hym
  clear hn1 hn2 hxl hyl hP hP0 hX hY exx ex3 et3 edf ert eyy hx hy
  have hR0 := Rws.start w
  go_enter Tryz.func31, Tryz.ntmps31
  go_upto_region 3 with (first
    | (refine wK_box rfl (by rfl) (by assumption) rfl ?_; intro gk w1 hR)
    | (refine wP_alloc rfl (by rfl) (by assumption) ?_; intro gr w1 hR)
    | (refine wK_load rfl (by rfl) (by assumption) rfl (by repeat (first | exact pzH | refine pzM ?_)) rfl ?_)
    | (refine wB_build (xs := []) (cs := zkey) rfl (by rfl) (by exact built_key0) ?_))
  have c0 : w1.cell? ⟨gk, 0, none⟩ = some (.string kx) := cell_of_row w1 gk 0 _ _ _ (hR.row _ (List.Mem.tail _ (List.Mem.head _))).2
  have c1 : w1.cell? ⟨gk, 1, none⟩ = some (.string ky) := cell_of_row w1 gk 1 _ _ _ (hR.row _ (List.Mem.tail _ (List.Mem.head _))).2
  go_upto_region 5 with (fail)
  clear c0 c1 hq hxi hyi
  refine wp_region_calm 8 (by kernel_rfl) (by kernel_rfl) (by assumption) ?_
  refine cK_f0 (by rfl) rfl ?_
  simp only [Act.put, pzT, pzA, pzB]
  refine cK_s0 (by rfl) rfl (by repeat (first | exact pzH | refine pzM ?_)) ?_
  simp only [Act.put, pzT, pzA, pzB]
  refine lexC_call rfl Tryz.func45 (by kernel_rfl) rfl rfl (fun w _ => HN1.out w) ?_
  simp only [Act.put, pzT, pzA, pzB]
  refine cK_f1 (by rfl) rfl ?_
  simp only [Act.put, pzT, pzA, pzB]
  refine cK_s1 (by rfl) rfl (by repeat (first | exact pzH | refine pzM ?_)) ?_
  simp only [Act.put, pzT, pzA, pzB]
  refine lexC_call rfl Tryz.func45 (by kernel_rfl) rfl rfl (fun w _ => HN2.out w) ?_
  simp only [Act.put, pzT, pzA, pzB]
  repeat (first | (refine lexC_alloc (by rfl) ?_; simp only [Act.put, pzT, pzA, pzB]) | (refine cN_load (by rfl) rfl (by repeat (first | exact pzH | refine pzM ?_)) rfl ?_; simp only [Act.put, pzT, pzA, pzB]) | (refine lexC_move (by rfl) rfl ?_; simp only [Act.put, pzT, pzA, pzB]) | (refine lexC_assign (by rfl) rfl ?_; simp only [Act.put, pzT, pzA, pzB]))
  refine lexC_zero ?_; simp only [pzC, pzD, pzE, pzF]; (repeat (first | (refine aN_cons (by rfl) ?_; intro g; simp only [Act.put, pzT, pzA, pzB]) | (refine afterAl_skip (by rfl) ?_))); refine afterAl_nil ?_; intro w1 hR
  go_upto_region 6 with (first | (refine wN_box rfl (by rfl) (by assumption) rfl ?_; intro g w1 hR) | (refine wN_alloc rfl (by rfl) (by assumption) ?_; intro g w1 hR) | (refine wN_load rfl (by rfl) (by assumption) rfl (by repeat (first | exact pzH | refine pzM ?_)) rfl ?_) | (refine wN_store rfl (by rfl) (by assumption) rfl rfl (by repeat (first | exact Pick.here | apply Pick.there)) rfl rfl (by first | exact nmc_cells _ | simp [Value.oneCell']) ?_; intro w1 hR))
  go_upto_region 7 with (first | (refine wB_build (cs := fv Ec.cb) rfl (by rfl) (by kernel_rfl) ?_) | (refine wN_box rfl (by rfl) (by assumption) rfl ?_; intro g w1 hR) | (refine wN_alloc rfl (by rfl) (by assumption) ?_; intro g w1 hR) | (refine wN_load rfl (by rfl) (by assumption) rfl (by repeat (first | exact pzH | refine pzM ?_)) rfl ?_) | (refine wN_store rfl (by rfl) (by assumption) rfl rfl (by repeat (first | exact Pick.here | apply Pick.there)) rfl rfl (by first | exact nmc_cells _ | simp [Value.oneCell']) ?_; intro w1 hR))
  refine wp_region_calm 12 (by kernel_rfl) (by kernel_rfl) (by assumption) ?_
  repeat (first | (refine lexC_alloc (by rfl) ?_; simp only [Act.put, pzT, pzA, pzB]) | (refine cN_load (by rfl) rfl (by repeat (first | exact pzH | refine pzM ?_)) rfl ?_; simp only [Act.put, pzT, pzA, pzB]) | (refine lexC_move (by rfl) rfl ?_; simp only [Act.put, pzT, pzA, pzB]) | (refine lexC_assign (by rfl) rfl ?_; simp only [Act.put, pzT, pzA, pzB]))
  refine lexC_call rfl Tryz.func72 (by kernel_rfl) rfl rfl (fun w _ => Hxx.out w) ?_
  simp only [Act.put, pzT, pzA, pzB]
  repeat (first | (refine lexC_alloc (by rfl) ?_; simp only [Act.put, pzT, pzA, pzB]) | (refine cN_load (by rfl) rfl (by repeat (first | exact pzH | refine pzM ?_)) rfl ?_; simp only [Act.put, pzT, pzA, pzB]) | (refine lexC_move (by rfl) rfl ?_; simp only [Act.put, pzT, pzA, pzB]) | (refine lexC_assign (by rfl) rfl ?_; simp only [Act.put, pzT, pzA, pzB]))
  refine lexC_call rfl Tryz.func72 (by kernel_rfl) rfl rfl (fun w _ => Hx3.out w) ?_
  simp only [Act.put, pzT, pzA, pzB]
  refine lexC_build (cs := fv 3) (by rfl) (by kernel_rfl) ?_
  simp only [Act.put, pzT, pzA, pzB]
  repeat (first | (refine lexC_alloc (by rfl) ?_; simp only [Act.put, pzT, pzA, pzB]) | (refine cN_load (by rfl) rfl (by repeat (first | exact pzH | refine pzM ?_)) rfl ?_; simp only [Act.put, pzT, pzA, pzB]) | (refine lexC_move (by rfl) rfl ?_; simp only [Act.put, pzT, pzA, pzB]) | (refine lexC_assign (by rfl) rfl ?_; simp only [Act.put, pzT, pzA, pzB]))
  refine lexC_call rfl Tryz.func72 (by kernel_rfl) rfl rfl (fun w _ => Ht3.out w) ?_
  simp only [Act.put, pzT, pzA, pzB]
  repeat (first | (refine lexC_alloc (by rfl) ?_; simp only [Act.put, pzT, pzA, pzB]) | (refine cN_load (by rfl) rfl (by repeat (first | exact pzH | refine pzM ?_)) rfl ?_; simp only [Act.put, pzT, pzA, pzB]) | (refine lexC_move (by rfl) rfl ?_; simp only [Act.put, pzT, pzA, pzB]) | (refine lexC_assign (by rfl) rfl ?_; simp only [Act.put, pzT, pzA, pzB]))
  refine lexC_call rfl Tryz.func71 (by kernel_rfl) rfl rfl (fun w _ => Hdf.out w) ?_
  simp only [Act.put, pzT, pzA, pzB]
  repeat (first | (refine lexC_alloc (by rfl) ?_; simp only [Act.put, pzT, pzA, pzB]) | (refine cN_load (by rfl) rfl (by repeat (first | exact pzH | refine pzM ?_)) rfl ?_; simp only [Act.put, pzT, pzA, pzB]) | (refine lexC_move (by rfl) rfl ?_; simp only [Act.put, pzT, pzA, pzB]) | (refine lexC_assign (by rfl) rfl ?_; simp only [Act.put, pzT, pzA, pzB]))
  refine lexC_call rfl Tryz.func70 (by kernel_rfl) rfl rfl (fun w _ => Hrt.out w) ?_
  simp only [Act.put, pzT, pzA, pzB]
  repeat (first | (refine lexC_alloc (by rfl) ?_; simp only [Act.put, pzT, pzA, pzB]) | (refine cN_load (by rfl) rfl (by repeat (first | exact pzH | refine pzM ?_)) rfl ?_; simp only [Act.put, pzT, pzA, pzB]) | (refine lexC_move (by rfl) rfl ?_; simp only [Act.put, pzT, pzA, pzB]) | (refine lexC_assign (by rfl) rfl ?_; simp only [Act.put, pzT, pzA, pzB]))
  refine lexC_zero ?_; simp only [pzC, pzD, pzE, pzF]; (repeat (first | (refine aN_cons (by rfl) ?_; intro g; simp only [Act.put, pzT, pzA, pzB]) | (refine afterAl_skip (by rfl) ?_))); refine afterAl_nil ?_; intro w1 hR
  go_upto_region 8 with (first | (refine wN_box rfl (by rfl) (by assumption) rfl ?_; intro g w1 hR) | (refine wN_alloc rfl (by rfl) (by assumption) ?_; intro g w1 hR) | (refine wN_load rfl (by rfl) (by assumption) rfl (by repeat (first | exact pzH | refine pzM ?_)) rfl ?_) | (refine wN_store rfl (by rfl) (by assumption) rfl rfl (by repeat (first | exact Pick.here | apply Pick.there)) rfl rfl (by first | exact nmc_cells _ | simp [Value.oneCell']) ?_; intro w1 hR))
  refine wp_region_calmS 24 ⟨gr, z12, pvn x y, 55⟩ (by kernel_rfl) (by kernel_rfl) (by assumption) (by repeat (first | exact Pick.here | apply Pick.there)) ?_
  repeat (first | (refine lexC_alloc (by rfl) ?_; simp only [Act.put, pzT, pzA, pzB]) | (refine cN_load (by rfl) rfl (by repeat (first | exact pzH | refine pzM ?_)) rfl ?_; simp only [Act.put, pzT, pzA, pzB]) | (refine lexC_move (by rfl) rfl ?_; simp only [Act.put, pzT, pzA, pzB]) | (refine lexC_assign (by rfl) rfl ?_; simp only [Act.put, pzT, pzA, pzB]))
  refine lexC_build (cs := fv 1) (by rfl) (by kernel_rfl) ?_
  simp only [Act.put, pzT, pzA, pzB]
  refine lexC_build (cs := pvn x y) (by rfl) (by kernel_rfl) ?_
  simp only [Act.put, pzT, pzA, pzB]
  repeat (first | (refine lexC_alloc (by rfl) ?_; simp only [Act.put, pzT, pzA, pzB]) | (refine cN_load (by rfl) rfl (by repeat (first | exact pzH | refine pzM ?_)) rfl ?_; simp only [Act.put, pzT, pzA, pzB]) | (refine lexC_move (by rfl) rfl ?_; simp only [Act.put, pzT, pzA, pzB]) | (refine lexC_assign (by rfl) rfl ?_; simp only [Act.put, pzT, pzA, pzB]))
  refine lexC_call rfl Tryz.func49 (by kernel_rfl) rfl rfl (fun w _ => Hm.out w) ?_
  simp only [Act.put, pzT, pzA, pzB]
  repeat (first | (refine lexC_alloc (by rfl) ?_; simp only [Act.put, pzT, pzA, pzB]) | (refine cN_load (by rfl) rfl (by repeat (first | exact pzH | refine pzM ?_)) rfl ?_; simp only [Act.put, pzT, pzA, pzB]) | (refine lexC_move (by rfl) rfl ?_; simp only [Act.put, pzT, pzA, pzB]) | (refine lexC_assign (by rfl) rfl ?_; simp only [Act.put, pzT, pzA, pzB]))
  refine lexC_call rfl Tryz.func48 (by kernel_rfl) rfl rfl (fun w _ => Hbx.out w) ?_
  simp only [Act.put, pzT, pzA, pzB]
  repeat (first | (refine lexC_alloc (by rfl) ?_; simp only [Act.put, pzT, pzA, pzB]) | (refine cN_load (by rfl) rfl (by repeat (first | exact pzH | refine pzM ?_)) rfl ?_; simp only [Act.put, pzT, pzA, pzB]) | (refine lexC_move (by rfl) rfl ?_; simp only [Act.put, pzT, pzA, pzB]) | (refine lexC_assign (by rfl) rfl ?_; simp only [Act.put, pzT, pzA, pzB]))
  refine cN_eq (b := true) (by rfl) rfl rfl HX1.out HXL.out hb1 ?_
  simp only [Act.put, pzT, pzA, pzB]
  iterate 3 (repeat (first | (refine lexC_alloc (by rfl) ?_; simp only [Act.put, pzT, pzA, pzB]) | (refine cN_load (by rfl) rfl (by repeat (first | exact pzH | refine pzM ?_)) rfl ?_; simp only [Act.put, pzT, pzA, pzB]) | (refine lexC_move (by rfl) rfl ?_; simp only [Act.put, pzT, pzA, pzB]) | (refine lexC_assign (by rfl) rfl ?_; simp only [Act.put, pzT, pzA, pzB])))
  refine lexC_call rfl Tryz.func49 (by kernel_rfl) rfl rfl (fun w _ => Hm.out w) ?_
  simp only [Act.put, pzT, pzA, pzB]
  repeat (first | (refine lexC_alloc (by rfl) ?_; simp only [Act.put, pzT, pzA, pzB]) | (refine cN_load (by rfl) rfl (by repeat (first | exact pzH | refine pzM ?_)) rfl ?_; simp only [Act.put, pzT, pzA, pzB]) | (refine lexC_move (by rfl) rfl ?_; simp only [Act.put, pzT, pzA, pzB]) | (refine lexC_assign (by rfl) rfl ?_; simp only [Act.put, pzT, pzA, pzB]))
  refine lexC_call rfl Tryz.func48 (by kernel_rfl) rfl rfl (fun w _ => Hby.out w) ?_
  simp only [Act.put, pzT, pzA, pzB]
  repeat (first | (refine lexC_alloc (by rfl) ?_; simp only [Act.put, pzT, pzA, pzB]) | (refine cN_load (by rfl) rfl (by repeat (first | exact pzH | refine pzM ?_)) rfl ?_; simp only [Act.put, pzT, pzA, pzB]) | (refine lexC_move (by rfl) rfl ?_; simp only [Act.put, pzT, pzA, pzB]) | (refine lexC_assign (by rfl) rfl ?_; simp only [Act.put, pzT, pzA, pzB]))
  refine cN_eq (b := false) (by rfl) rfl rfl HY1.out HYL.out hb2 ?_
  simp only [Act.put, pzT, pzA, pzB]
  refine c_pickT (by rfl) rfl rfl ?_
  simp only [Act.put, pzT, pzA, pzB]
  repeat (first | (refine lexC_alloc (by rfl) ?_; simp only [Act.put, pzT, pzA, pzB]) | (refine cN_load (by rfl) rfl (by repeat (first | exact pzH | refine pzM ?_)) rfl ?_; simp only [Act.put, pzT, pzA, pzB]) | (refine lexC_move (by rfl) rfl ?_; simp only [Act.put, pzT, pzA, pzB]) | (refine lexC_assign (by rfl) rfl ?_; simp only [Act.put, pzT, pzA, pzB]))
  iterate 5 ((refine lexC_skip (by rfl) (by rfl) ?_); (simp only [Act.put, pzT, pzA, pzB]))
  refine c_pickF (by rfl) rfl rfl ?_
  simp only [Act.put, pzT, pzA, pzB]
  refine lexC_store (by rfl) rfl rfl (point_info (pvn_size x y)) (by rw [pvn_size]; rfl) (pvn_cells x y) ?_
  simp only [Act.put]
  refine lexC_zero ?_; simp only [pzC, pzD, pzE, pzF]; (repeat (first | (refine aN_cons (by rfl) ?_; intro g; simp only [Act.put, pzT, pzA, pzB]) | (refine afterAl_skip (by rfl) ?_))); refine afterAl_nil ?_; intro w1 hR
  go_wp2_with fail
  exact bodyPost_rws2 Tryz.results31 (by assumption) _ rfl _ _ (List.Mem.head _) _ Tryz.underlying55 rfl (point_info (pvn_size x y)) _ rfl rfl fun hb => ⟨rfl, hb⟩
end Go.Proofs.YtaggpodckafbgaaGreatDoor
/- of: the point of a key, part. -/
namespace Go.Proofs.YtaggpodckafbgaaGreatDoor
open Go.RowKit
set_option maxRecDepth 100000 in
set_option maxHeartbeats 3200000 in
theorem of_c (kx ky : ByteArray) (w : World) (hx : kx.size = 32) (hy : ky.size = 32) (h1 : nv kx < Ec.P) (h2 : nv ky < Ec.P) : Calls Tryz.prog 31 #[.agg (kvc kx ky)] w (fun e w' => e = .returned (.tuple #[.agg (pvn (nv kx) (nv ky)), .bool (decide (toF (nv ky) * toF (nv ky) = toF (nv kx) * (toF (nv kx) * toF (nv kx)) - 3 * toF (nv kx) + Ec.cb))]) ∧ Below w.heap.size w w') := by
  have hq : ∀ w : World, (Op.equalIn 10000 23 (.agg (kvc kx ky)) (.agg zkey)).run Tryz.prog w = .ok false w := fun w => by
    rw [eq_key0, decide_eq_false (by omega), Bool.false_and]
  have hn1 : ∀ w : World, Calls Tryz.prog 45 #[.string kx] w fun e w' => e = .returned (.agg (nmc (nv kx))) ∧ Below w.heap.size w w' := fun w => number_any kx hx w
  have hn2 : ∀ w : World, Calls Tryz.prog 45 #[.string ky] w fun e w' => e = .returned (.agg (nmc (nv ky))) ∧ Below w.heap.size w w' := fun w => number_any ky hy w
  have hlt : ∀ k : ByteArray, k.size = 32 → nv k < 115792089237316195423570985008687907853269984665640564039457584007913129639936 := fun k hk => by
    have := bv_lt k.data.toList
    rw [show k.data.toList.length = 32 by simpa using hk] at this
    exact this
  have hxl := hlt kx hx
  have hyl := hlt ky hy
  generalize hxe : nv kx = x at *
  generalize hye : nv ky = y at *
  clear hxe hye hlt
  obtain ⟨X, hX⟩ : ∃ X, X = toF x := ⟨_, rfl⟩
  obtain ⟨Y, hY⟩ : ∃ Y, Y = toF y := ⟨_, rfl⟩
  obtain ⟨xx, exx⟩ : ∃ v, v = X * X := ⟨_, rfl⟩
  obtain ⟨x3, ex3⟩ : ∃ v, v = X * xx := ⟨_, rfl⟩
  obtain ⟨t3, et3⟩ : ∃ v, v = 3 * X := ⟨_, rfl⟩
  obtain ⟨df, edf⟩ : ∃ v, v = x3 - t3 := ⟨_, rfl⟩
  obtain ⟨rt, ert⟩ : ∃ v, v = df + Ec.cb := ⟨_, rfl⟩
  obtain ⟨yy, eyy⟩ : ∃ v, v = Y * Y := ⟨_, rfl⟩
  have HN1 := Lib.hid hn1; have HN2 := Lib.hid hn2
  have Hxx := Lib.hid (show ∀ w : World, Calls Tryz.prog 72 #[.agg (nmc x), .agg (nmc x)] w fun e w' => e = .returned (.agg (fv xx)) ∧ Below w.heap.size w w' from fun w => by rw [exx, hX]; exact gmul x x hxl hxl w)
  have Hx3 := Lib.hid (show ∀ w : World, Calls Tryz.prog 72 #[.agg (nmc x), .agg (fv xx)] w fun e w' => e = .returned (.agg (fv x3)) ∧ Below w.heap.size w w' from fun w => by
    have h := gmul x xx.val hxl (F_lt xx) w
    rw [toF_of, ← hX, ← ex3] at h
    exact h)
  have Ht3 := Lib.hid (show ∀ w : World, Calls Tryz.prog 72 #[.agg (fv 3), .agg (nmc x)] w fun e w' => e = .returned (.agg (fv t3)) ∧ Below w.heap.size w w' from fun w => by
    have h := gmul (3 : Ec.F).val x (F_lt 3) hxl w
    rw [toF_of, ← hX, ← et3] at h
    exact h)
  have Hdf := Lib.hid (show ∀ w : World, Calls Tryz.prog 71 #[.agg (fv x3), .agg (fv t3)] w fun e w' => e = .returned (.agg (fv df)) ∧ Below w.heap.size w w' from fun w => by rw [edf]; exact fsub _ _ w)
  have Hrt := Lib.hid (show ∀ w : World, Calls Tryz.prog 70 #[.agg (fv df), .agg (fv Ec.cb)] w fun e w' => e = .returned (.agg (fv rt)) ∧ Below w.heap.size w w' from fun w => by rw [ert]; exact fadd _ _ w)
  have Hyy := Lib.hid (show ∀ w : World, Calls Tryz.prog 72 #[.agg (nmc y), .agg (nmc y)] w fun e w' => e = .returned (.agg (fv yy)) ∧ Below w.heap.size w w' from fun w => by rw [eyy, hY]; exact gmul y y hyl hyl w)
  have hP : Big Ec.P := pp_big 0
  have hP0 : 0 < Ec.P := by have := hP.2; omega
  have Hm := Lib.hid (show ∀ w : World, Calls Tryz.prog 49 #[.int .i64 0] w fun e w' => e = .returned (.agg (nmc Ec.P)) ∧ Below w.heap.size w w' from fun w => modulus_any 0 w)
  have Hbx := Lib.hid (show ∀ w : World, Calls Tryz.prog 48 #[.agg (nmc x), .agg (nmc Ec.P)] w fun e w' => e = .returned (.agg (nmc (x % Ec.P))) ∧ Below w.heap.size w w' from fun w => below_any x Ec.P w hxl hP)
  have Hby := Lib.hid (show ∀ w : World, Calls Tryz.prog 48 #[.agg (nmc y), .agg (nmc Ec.P)] w fun e w' => e = .returned (.agg (nmc (y % Ec.P))) ∧ Below w.heap.size w w' from fun w => below_any y Ec.P w hyl hP)
  have HXL := Lib.hid hxl; have HYL := Lib.hid hyl
  have HX1 := Lib.hid (Nat.lt_trans (Nat.mod_lt x hP0) hP.1); have HY1 := Lib.hid (Nat.lt_trans (Nat.mod_lt y hP0) hP.1)
  have hxi : (kx.size : Int) = 32 := by omega
  have hyi : (ky.size : Int) = 32 := by omega
  have hxm : x % Ec.P = x := Nat.mod_eq_of_lt h1
  generalize x % Ec.P = xm at *
  have hym : y % Ec.P = y := Nat.mod_eq_of_lt h2
  generalize y % Ec.P = ym at *
  have hb1 : decide (xm = x) = true := decide_eq_true hxm
  have hb2 : decide (ym = y) = true := decide_eq_true hym
  obtain ⟨b3, hb3e⟩ : ∃ b, b = decide (toF y * toF y = toF x * (toF x * toF x) - 3 * toF x + Ec.cb) := ⟨_, rfl⟩
  rw [← hb3e]
  have hb3 : decide (yy.val = rt.val) = b3 := by
    rw [hb3e, ← hX, ← hY, ← exx, ← ex3, ← et3, ← edf, ← ert, ← eyy]
    exact decide_eq_decide.2 ⟨fun h => Fin.ext h, fun h => congrArg Fin.val h⟩
  clear h1 h2 hxm hym hb3e
  clear hn1 hn2 hxl hyl hP hP0 hX hY exx ex3 et3 edf ert eyy hx hy
  have hR0 := Rws.start w
  go_enter Tryz.func31, Tryz.ntmps31
  go_upto_region 3 with (first
    | (refine wK_box rfl (by rfl) (by assumption) rfl ?_; intro gk w1 hR)
    | (refine wP_alloc rfl (by rfl) (by assumption) ?_; intro gr w1 hR)
    | (refine wK_load rfl (by rfl) (by assumption) rfl (by repeat (first | exact pzH | refine pzM ?_)) rfl ?_)
    | (refine wB_build (xs := []) (cs := zkey) rfl (by rfl) (by exact built_key0) ?_))
  have c0 : w1.cell? ⟨gk, 0, none⟩ = some (.string kx) := cell_of_row w1 gk 0 _ _ _ (hR.row _ (List.Mem.tail _ (List.Mem.head _))).2
  have c1 : w1.cell? ⟨gk, 1, none⟩ = some (.string ky) := cell_of_row w1 gk 1 _ _ _ (hR.row _ (List.Mem.tail _ (List.Mem.head _))).2
  go_upto_region 5 with (fail)
  clear c0 c1 hq hxi hyi
  refine wp_region_calm 8 (by kernel_rfl) (by kernel_rfl) (by assumption) ?_
  refine cK_f0 (by rfl) rfl ?_
  simp only [Act.put, pzT, pzA, pzB]
  refine cK_s0 (by rfl) rfl (by repeat (first | exact pzH | refine pzM ?_)) ?_
  simp only [Act.put, pzT, pzA, pzB]
  refine lexC_call rfl Tryz.func45 (by kernel_rfl) rfl rfl (fun w _ => HN1.out w) ?_
  simp only [Act.put, pzT, pzA, pzB]
  refine cK_f1 (by rfl) rfl ?_
  simp only [Act.put, pzT, pzA, pzB]
  refine cK_s1 (by rfl) rfl (by repeat (first | exact pzH | refine pzM ?_)) ?_
  simp only [Act.put, pzT, pzA, pzB]
  refine lexC_call rfl Tryz.func45 (by kernel_rfl) rfl rfl (fun w _ => HN2.out w) ?_
  simp only [Act.put, pzT, pzA, pzB]
  repeat (first | (refine lexC_alloc (by rfl) ?_; simp only [Act.put, pzT, pzA, pzB]) | (refine cN_load (by rfl) rfl (by repeat (first | exact pzH | refine pzM ?_)) rfl ?_; simp only [Act.put, pzT, pzA, pzB]) | (refine lexC_move (by rfl) rfl ?_; simp only [Act.put, pzT, pzA, pzB]) | (refine lexC_assign (by rfl) rfl ?_; simp only [Act.put, pzT, pzA, pzB]))
  refine lexC_zero ?_; simp only [pzC, pzD, pzE, pzF]; (repeat (first | (refine aN_cons (by rfl) ?_; intro g; simp only [Act.put, pzT, pzA, pzB]) | (refine afterAl_skip (by rfl) ?_))); refine afterAl_nil ?_; intro w1 hR
  go_upto_region 6 with (first | (refine wN_box rfl (by rfl) (by assumption) rfl ?_; intro g w1 hR) | (refine wN_alloc rfl (by rfl) (by assumption) ?_; intro g w1 hR) | (refine wN_load rfl (by rfl) (by assumption) rfl (by repeat (first | exact pzH | refine pzM ?_)) rfl ?_) | (refine wN_store rfl (by rfl) (by assumption) rfl rfl (by repeat (first | exact Pick.here | apply Pick.there)) rfl rfl (by first | exact nmc_cells _ | simp [Value.oneCell']) ?_; intro w1 hR))
  go_upto_region 7 with (first | (refine wB_build (cs := fv Ec.cb) rfl (by rfl) (by kernel_rfl) ?_) | (refine wN_box rfl (by rfl) (by assumption) rfl ?_; intro g w1 hR) | (refine wN_alloc rfl (by rfl) (by assumption) ?_; intro g w1 hR) | (refine wN_load rfl (by rfl) (by assumption) rfl (by repeat (first | exact pzH | refine pzM ?_)) rfl ?_) | (refine wN_store rfl (by rfl) (by assumption) rfl rfl (by repeat (first | exact Pick.here | apply Pick.there)) rfl rfl (by first | exact nmc_cells _ | simp [Value.oneCell']) ?_; intro w1 hR))
  refine wp_region_calm 12 (by kernel_rfl) (by kernel_rfl) (by assumption) ?_
  repeat (first | (refine lexC_alloc (by rfl) ?_; simp only [Act.put, pzT, pzA, pzB]) | (refine cN_load (by rfl) rfl (by repeat (first | exact pzH | refine pzM ?_)) rfl ?_; simp only [Act.put, pzT, pzA, pzB]) | (refine lexC_move (by rfl) rfl ?_; simp only [Act.put, pzT, pzA, pzB]) | (refine lexC_assign (by rfl) rfl ?_; simp only [Act.put, pzT, pzA, pzB]))
  refine lexC_call rfl Tryz.func72 (by kernel_rfl) rfl rfl (fun w _ => Hxx.out w) ?_
  simp only [Act.put, pzT, pzA, pzB]
  repeat (first | (refine lexC_alloc (by rfl) ?_; simp only [Act.put, pzT, pzA, pzB]) | (refine cN_load (by rfl) rfl (by repeat (first | exact pzH | refine pzM ?_)) rfl ?_; simp only [Act.put, pzT, pzA, pzB]) | (refine lexC_move (by rfl) rfl ?_; simp only [Act.put, pzT, pzA, pzB]) | (refine lexC_assign (by rfl) rfl ?_; simp only [Act.put, pzT, pzA, pzB]))
  refine lexC_call rfl Tryz.func72 (by kernel_rfl) rfl rfl (fun w _ => Hx3.out w) ?_
  simp only [Act.put, pzT, pzA, pzB]
  refine lexC_build (cs := fv 3) (by rfl) (by kernel_rfl) ?_
  simp only [Act.put, pzT, pzA, pzB]
  repeat (first | (refine lexC_alloc (by rfl) ?_; simp only [Act.put, pzT, pzA, pzB]) | (refine cN_load (by rfl) rfl (by repeat (first | exact pzH | refine pzM ?_)) rfl ?_; simp only [Act.put, pzT, pzA, pzB]) | (refine lexC_move (by rfl) rfl ?_; simp only [Act.put, pzT, pzA, pzB]) | (refine lexC_assign (by rfl) rfl ?_; simp only [Act.put, pzT, pzA, pzB]))
  refine lexC_call rfl Tryz.func72 (by kernel_rfl) rfl rfl (fun w _ => Ht3.out w) ?_
  simp only [Act.put, pzT, pzA, pzB]
  repeat (first | (refine lexC_alloc (by rfl) ?_; simp only [Act.put, pzT, pzA, pzB]) | (refine cN_load (by rfl) rfl (by repeat (first | exact pzH | refine pzM ?_)) rfl ?_; simp only [Act.put, pzT, pzA, pzB]) | (refine lexC_move (by rfl) rfl ?_; simp only [Act.put, pzT, pzA, pzB]) | (refine lexC_assign (by rfl) rfl ?_; simp only [Act.put, pzT, pzA, pzB]))
  refine lexC_call rfl Tryz.func71 (by kernel_rfl) rfl rfl (fun w _ => Hdf.out w) ?_
  simp only [Act.put, pzT, pzA, pzB]
  repeat (first | (refine lexC_alloc (by rfl) ?_; simp only [Act.put, pzT, pzA, pzB]) | (refine cN_load (by rfl) rfl (by repeat (first | exact pzH | refine pzM ?_)) rfl ?_; simp only [Act.put, pzT, pzA, pzB]) | (refine lexC_move (by rfl) rfl ?_; simp only [Act.put, pzT, pzA, pzB]) | (refine lexC_assign (by rfl) rfl ?_; simp only [Act.put, pzT, pzA, pzB]))
  refine lexC_call rfl Tryz.func70 (by kernel_rfl) rfl rfl (fun w _ => Hrt.out w) ?_
  simp only [Act.put, pzT, pzA, pzB]
  repeat (first | (refine lexC_alloc (by rfl) ?_; simp only [Act.put, pzT, pzA, pzB]) | (refine cN_load (by rfl) rfl (by repeat (first | exact pzH | refine pzM ?_)) rfl ?_; simp only [Act.put, pzT, pzA, pzB]) | (refine lexC_move (by rfl) rfl ?_; simp only [Act.put, pzT, pzA, pzB]) | (refine lexC_assign (by rfl) rfl ?_; simp only [Act.put, pzT, pzA, pzB]))
  refine lexC_zero ?_; simp only [pzC, pzD, pzE, pzF]; (repeat (first | (refine aN_cons (by rfl) ?_; intro g; simp only [Act.put, pzT, pzA, pzB]) | (refine afterAl_skip (by rfl) ?_))); refine afterAl_nil ?_; intro w1 hR
  go_upto_region 8 with (first | (refine wN_box rfl (by rfl) (by assumption) rfl ?_; intro g w1 hR) | (refine wN_alloc rfl (by rfl) (by assumption) ?_; intro g w1 hR) | (refine wN_load rfl (by rfl) (by assumption) rfl (by repeat (first | exact pzH | refine pzM ?_)) rfl ?_) | (refine wN_store rfl (by rfl) (by assumption) rfl rfl (by repeat (first | exact Pick.here | apply Pick.there)) rfl rfl (by first | exact nmc_cells _ | simp [Value.oneCell']) ?_; intro w1 hR))
  refine wp_region_calmS 24 ⟨gr, z12, pvn x y, 55⟩ (by kernel_rfl) (by kernel_rfl) (by assumption) (by repeat (first | exact Pick.here | apply Pick.there)) ?_
  repeat (first | (refine lexC_alloc (by rfl) ?_; simp only [Act.put, pzT, pzA, pzB]) | (refine cN_load (by rfl) rfl (by repeat (first | exact pzH | refine pzM ?_)) rfl ?_; simp only [Act.put, pzT, pzA, pzB]) | (refine lexC_move (by rfl) rfl ?_; simp only [Act.put, pzT, pzA, pzB]) | (refine lexC_assign (by rfl) rfl ?_; simp only [Act.put, pzT, pzA, pzB]))
  refine lexC_build (cs := fv 1) (by rfl) (by kernel_rfl) ?_
  simp only [Act.put, pzT, pzA, pzB]
  refine lexC_build (cs := pvn x y) (by rfl) (by kernel_rfl) ?_
  simp only [Act.put, pzT, pzA, pzB]
  repeat (first | (refine lexC_alloc (by rfl) ?_; simp only [Act.put, pzT, pzA, pzB]) | (refine cN_load (by rfl) rfl (by repeat (first | exact pzH | refine pzM ?_)) rfl ?_; simp only [Act.put, pzT, pzA, pzB]) | (refine lexC_move (by rfl) rfl ?_; simp only [Act.put, pzT, pzA, pzB]) | (refine lexC_assign (by rfl) rfl ?_; simp only [Act.put, pzT, pzA, pzB]))
  refine lexC_call rfl Tryz.func49 (by kernel_rfl) rfl rfl (fun w _ => Hm.out w) ?_
  simp only [Act.put, pzT, pzA, pzB]
  repeat (first | (refine lexC_alloc (by rfl) ?_; simp only [Act.put, pzT, pzA, pzB]) | (refine cN_load (by rfl) rfl (by repeat (first | exact pzH | refine pzM ?_)) rfl ?_; simp only [Act.put, pzT, pzA, pzB]) | (refine lexC_move (by rfl) rfl ?_; simp only [Act.put, pzT, pzA, pzB]) | (refine lexC_assign (by rfl) rfl ?_; simp only [Act.put, pzT, pzA, pzB]))
  refine lexC_call rfl Tryz.func48 (by kernel_rfl) rfl rfl (fun w _ => Hbx.out w) ?_
  simp only [Act.put, pzT, pzA, pzB]
  repeat (first | (refine lexC_alloc (by rfl) ?_; simp only [Act.put, pzT, pzA, pzB]) | (refine cN_load (by rfl) rfl (by repeat (first | exact pzH | refine pzM ?_)) rfl ?_; simp only [Act.put, pzT, pzA, pzB]) | (refine lexC_move (by rfl) rfl ?_; simp only [Act.put, pzT, pzA, pzB]) | (refine lexC_assign (by rfl) rfl ?_; simp only [Act.put, pzT, pzA, pzB]))
  refine cN_eq (b := true) (by rfl) rfl rfl HX1.out HXL.out hb1 ?_
  simp only [Act.put, pzT, pzA, pzB]
  iterate 3 (repeat (first | (refine lexC_alloc (by rfl) ?_; simp only [Act.put, pzT, pzA, pzB]) | (refine cN_load (by rfl) rfl (by repeat (first | exact pzH | refine pzM ?_)) rfl ?_; simp only [Act.put, pzT, pzA, pzB]) | (refine lexC_move (by rfl) rfl ?_; simp only [Act.put, pzT, pzA, pzB]) | (refine lexC_assign (by rfl) rfl ?_; simp only [Act.put, pzT, pzA, pzB])))
  refine lexC_call rfl Tryz.func49 (by kernel_rfl) rfl rfl (fun w _ => Hm.out w) ?_
  simp only [Act.put, pzT, pzA, pzB]
  repeat (first | (refine lexC_alloc (by rfl) ?_; simp only [Act.put, pzT, pzA, pzB]) | (refine cN_load (by rfl) rfl (by repeat (first | exact pzH | refine pzM ?_)) rfl ?_; simp only [Act.put, pzT, pzA, pzB]) | (refine lexC_move (by rfl) rfl ?_; simp only [Act.put, pzT, pzA, pzB]) | (refine lexC_assign (by rfl) rfl ?_; simp only [Act.put, pzT, pzA, pzB]))
  refine lexC_call rfl Tryz.func48 (by kernel_rfl) rfl rfl (fun w _ => Hby.out w) ?_
  simp only [Act.put, pzT, pzA, pzB]
  repeat (first | (refine lexC_alloc (by rfl) ?_; simp only [Act.put, pzT, pzA, pzB]) | (refine cN_load (by rfl) rfl (by repeat (first | exact pzH | refine pzM ?_)) rfl ?_; simp only [Act.put, pzT, pzA, pzB]) | (refine lexC_move (by rfl) rfl ?_; simp only [Act.put, pzT, pzA, pzB]) | (refine lexC_assign (by rfl) rfl ?_; simp only [Act.put, pzT, pzA, pzB]))
  refine cN_eq (b := true) (by rfl) rfl rfl HY1.out HYL.out hb2 ?_
  simp only [Act.put, pzT, pzA, pzB]
  refine c_pickT (by rfl) rfl rfl ?_
  simp only [Act.put, pzT, pzA, pzB]
  iterate 2 (repeat (first | (refine lexC_alloc (by rfl) ?_; simp only [Act.put, pzT, pzA, pzB]) | (refine cN_load (by rfl) rfl (by repeat (first | exact pzH | refine pzM ?_)) rfl ?_; simp only [Act.put, pzT, pzA, pzB]) | (refine lexC_move (by rfl) rfl ?_; simp only [Act.put, pzT, pzA, pzB]) | (refine lexC_assign (by rfl) rfl ?_; simp only [Act.put, pzT, pzA, pzB])))
  refine lexC_call rfl Tryz.func72 (by kernel_rfl) rfl rfl (fun w _ => Hyy.out w) ?_
  simp only [Act.put, pzT, pzA, pzB]
  repeat (first | (refine lexC_alloc (by rfl) ?_; simp only [Act.put, pzT, pzA, pzB]) | (refine cN_load (by rfl) rfl (by repeat (first | exact pzH | refine pzM ?_)) rfl ?_; simp only [Act.put, pzT, pzA, pzB]) | (refine lexC_move (by rfl) rfl ?_; simp only [Act.put, pzT, pzA, pzB]) | (refine lexC_assign (by rfl) rfl ?_; simp only [Act.put, pzT, pzA, pzB]))
  refine cN_eq (b := b3) (by rfl) rfl rfl (F_lt yy) (F_lt rt) hb3 ?_
  simp only [Act.put, pzT, pzA, pzB]
  refine c_pickT (by rfl) rfl rfl ?_
  simp only [Act.put, pzT, pzA, pzB]
  refine lexC_store (by rfl) rfl rfl (point_info (pvn_size x y)) (by rw [pvn_size]; rfl) (pvn_cells x y) ?_
  simp only [Act.put]
  refine lexC_zero ?_; simp only [pzC, pzD, pzE, pzF]; (repeat (first | (refine aN_cons (by rfl) ?_; intro g; simp only [Act.put, pzT, pzA, pzB]) | (refine afterAl_skip (by rfl) ?_))); refine afterAl_nil ?_; intro w1 hR
  go_wp2_with fail
  exact bodyPost_rws2 Tryz.results31 (by assumption) _ rfl _ _ (List.Mem.head _) _ Tryz.underlying55 rfl (point_info (pvn_size x y)) _ rfl rfl fun hb => ⟨rfl, hb⟩
end Go.Proofs.YtaggpodckafbgaaGreatDoor
/- of: the point of a key, part. -/
namespace Go.Proofs.YtaggpodckafbgaaGreatDoor
open Go.RowKit
theorem of_any (kx ky : ByteArray) (w : World) : Calls Tryz.prog 31 #[.agg (kvc kx ky)] w (OfPost kx ky w) := by
  by_cases h0 : kx.size = 0 ∧ ky.size = 0
  · exact of_far kx ky w h0
  · by_cases h1 : kx.size = 32 ∧ ky.size = 32
    · have hin : inK kx ky = if kx.size = 32 ∧ ky.size = 32 ∧ onK (nv kx) (nv ky) then some (.at (toF (nv kx)) (toF (nv ky))) else none := if_neg h0
      by_cases hx : nv kx < Ec.P
      · by_cases hy : nv ky < Ec.P
        · refine (of_c kx ky w h1.1 h1.2 hx hy).mono fun e w' he => ⟨pvn (nv kx) (nv ky), pvn_size _ _, pvn_cells _ _, ?_, fun A hA => ?_, he.2⟩
          · rw [he.1, hin]
            by_cases h : toF (nv ky) * toF (nv ky) = toF (nv kx) * (toF (nv kx) * toF (nv kx)) - 3 * toF (nv kx) + Ec.cb
            · rw [decide_eq_true h, if_pos ⟨h1.1, h1.2, hx, hy, h⟩]; rfl
            · rw [decide_eq_false h, if_neg (fun h' => h h'.2.2.2.2)]; rfl
          · rw [hin] at hA
            split at hA
            · rw [← Option.some.inj hA]
              unfold pvn
              rw [nmc_toF hx, nmc_toF hy]
              rfl
            · cases hA
        · refine (of_y kx ky w h1.1 h1.2 hx hy).mono fun e w' he => ⟨pvn (nv kx) (nv ky), pvn_size _ _, pvn_cells _ _, ?_, fun A hA => ?_, he.2⟩
          · rw [he.1, hin, if_neg (fun h => hy h.2.2.2.1)]; rfl
          · rw [hin, if_neg (fun h => hy h.2.2.2.1)] at hA; cases hA
      · refine (of_x kx ky w h1.1 h1.2 hx).mono fun e w' he => ⟨pvn (nv kx) (nv ky), pvn_size _ _, pvn_cells _ _, ?_, fun A hA => ?_, he.2⟩
        · rw [he.1, hin, if_neg (fun h => hx h.2.2.1)]; rfl
        · rw [hin, if_neg (fun h => hx h.2.2.1)] at hA; cases hA
    · exact of_len kx ky w h0 h1
end Go.Proofs.YtaggpodckafbgaaGreatDoor
