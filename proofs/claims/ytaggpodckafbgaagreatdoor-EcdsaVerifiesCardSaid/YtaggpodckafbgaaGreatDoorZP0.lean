/- Twice PAddA EKey0, in one text. -/
import Derived.Test.YtaggpodckafbgaaGreatDoorZF
import Derived.Test.YtaggpodckafbgaaGreatDoorZE1
import Derived.Test.YtaggpodckafbgaaGreatDoorZA0
/- twice: the sum of a point and itself. -/
namespace Go.Proofs.YtaggpodckafbgaaGreatDoor
open Go.RowKit
set_option maxRecDepth 100000 in
set_option maxHeartbeats 1600000 in
theorem twice_any (j : Ec.Jac Ec.P) (w : World) :
    Calls Tryz.prog 73 #[.agg (jv j)] w fun e w' => e = .returned (.agg (jv j.twice)) ∧ Below w.heap.size w w' := by
  obtain ⟨zz, ezz⟩ : ∃ val0, val0 = j.z * j.z := ⟨_, rfl⟩
  obtain ⟨yy, eyy⟩ : ∃ val0, val0 = j.y * j.y := ⟨_, rfl⟩
  obtain ⟨A, eA⟩ : ∃ val0, val0 = j.x - zz := ⟨_, rfl⟩
  obtain ⟨B, eB⟩ : ∃ val0, val0 = j.x + zz := ⟨_, rfl⟩
  obtain ⟨C, eC⟩ : ∃ val0, val0 = A * B := ⟨_, rfl⟩
  obtain ⟨m, em⟩ : ∃ val0, val0 = 3 * C := ⟨_, rfl⟩
  obtain ⟨D, eD⟩ : ∃ val0, val0 = j.x * yy := ⟨_, rfl⟩
  obtain ⟨s, es⟩ : ∃ val0, val0 = 4 * D := ⟨_, rfl⟩
  obtain ⟨E, eE⟩ : ∃ val0, val0 = m * m := ⟨_, rfl⟩
  obtain ⟨F, eF⟩ : ∃ val0, val0 = s + s := ⟨_, rfl⟩
  obtain ⟨x, ex⟩ : ∃ val0, val0 = E - F := ⟨_, rfl⟩
  obtain ⟨G, eG⟩ : ∃ val0, val0 = s - x := ⟨_, rfl⟩
  obtain ⟨H, eH⟩ : ∃ val0, val0 = m * G := ⟨_, rfl⟩
  obtain ⟨I, eI⟩ : ∃ val0, val0 = yy * yy := ⟨_, rfl⟩
  obtain ⟨J, eJ⟩ : ∃ val0, val0 = 8 * I := ⟨_, rfl⟩
  obtain ⟨y, ey⟩ : ∃ val0, val0 = H - J := ⟨_, rfl⟩
  obtain ⟨K, eK⟩ : ∃ val0, val0 = j.y * j.z := ⟨_, rfl⟩
  obtain ⟨z, ez⟩ : ∃ val0, val0 = 2 * K := ⟨_, rfl⟩
  have Hzz := Lib.hid (show ∀ w : World, Calls Tryz.prog 72 #[.agg (fv (j.z)), .agg (fv j.z)] w fun e w' => e = .returned (.agg (fv zz)) ∧ Below w.heap.size w w' from fun w => by rw [ezz]; exact fmul _ _ w)
  have Hyy := Lib.hid (show ∀ w : World, Calls Tryz.prog 72 #[.agg (fv (j.y)), .agg (fv j.y)] w fun e w' => e = .returned (.agg (fv yy)) ∧ Below w.heap.size w w' from fun w => by rw [eyy]; exact fmul _ _ w)
  have HA := Lib.hid (show ∀ w : World, Calls Tryz.prog 71 #[.agg (fv (j.x)), .agg (fv zz)] w fun e w' => e = .returned (.agg (fv A)) ∧ Below w.heap.size w w' from fun w => by rw [eA]; exact fsub _ _ w)
  have HB := Lib.hid (show ∀ w : World, Calls Tryz.prog 70 #[.agg (fv (j.x)), .agg (fv zz)] w fun e w' => e = .returned (.agg (fv B)) ∧ Below w.heap.size w w' from fun w => by rw [eB]; exact fadd _ _ w)
  have HC := Lib.hid (show ∀ w : World, Calls Tryz.prog 72 #[.agg (fv (A)), .agg (fv B)] w fun e w' => e = .returned (.agg (fv C)) ∧ Below w.heap.size w w' from fun w => by rw [eC]; exact fmul _ _ w)
  have Hm := Lib.hid (show ∀ w : World, Calls Tryz.prog 72 #[.agg (fv 3), .agg (fv C)] w fun e w' => e = .returned (.agg (fv m)) ∧ Below w.heap.size w w' from fun w => by rw [em]; exact fmul _ _ w)
  have HD := Lib.hid (show ∀ w : World, Calls Tryz.prog 72 #[.agg (fv (j.x)), .agg (fv yy)] w fun e w' => e = .returned (.agg (fv D)) ∧ Below w.heap.size w w' from fun w => by rw [eD]; exact fmul _ _ w)
  have Hs := Lib.hid (show ∀ w : World, Calls Tryz.prog 72 #[.agg (fv 4), .agg (fv D)] w fun e w' => e = .returned (.agg (fv s)) ∧ Below w.heap.size w w' from fun w => by rw [es]; exact fmul _ _ w)
  have HE := Lib.hid (show ∀ w : World, Calls Tryz.prog 72 #[.agg (fv (m)), .agg (fv m)] w fun e w' => e = .returned (.agg (fv E)) ∧ Below w.heap.size w w' from fun w => by rw [eE]; exact fmul _ _ w)
  have HF := Lib.hid (show ∀ w : World, Calls Tryz.prog 70 #[.agg (fv (s)), .agg (fv s)] w fun e w' => e = .returned (.agg (fv F)) ∧ Below w.heap.size w w' from fun w => by rw [eF]; exact fadd _ _ w)
  have Hx := Lib.hid (show ∀ w : World, Calls Tryz.prog 71 #[.agg (fv (E)), .agg (fv F)] w fun e w' => e = .returned (.agg (fv x)) ∧ Below w.heap.size w w' from fun w => by rw [ex]; exact fsub _ _ w)
  have HG := Lib.hid (show ∀ w : World, Calls Tryz.prog 71 #[.agg (fv (s)), .agg (fv x)] w fun e w' => e = .returned (.agg (fv G)) ∧ Below w.heap.size w w' from fun w => by rw [eG]; exact fsub _ _ w)
  have HH := Lib.hid (show ∀ w : World, Calls Tryz.prog 72 #[.agg (fv (m)), .agg (fv G)] w fun e w' => e = .returned (.agg (fv H)) ∧ Below w.heap.size w w' from fun w => by rw [eH]; exact fmul _ _ w)
  have HI := Lib.hid (show ∀ w : World, Calls Tryz.prog 72 #[.agg (fv (yy)), .agg (fv yy)] w fun e w' => e = .returned (.agg (fv I)) ∧ Below w.heap.size w w' from fun w => by rw [eI]; exact fmul _ _ w)
  have HJ := Lib.hid (show ∀ w : World, Calls Tryz.prog 72 #[.agg (fv 8), .agg (fv I)] w fun e w' => e = .returned (.agg (fv J)) ∧ Below w.heap.size w w' from fun w => by rw [eJ]; exact fmul _ _ w)
  have Hy := Lib.hid (show ∀ w : World, Calls Tryz.prog 71 #[.agg (fv (H)), .agg (fv J)] w fun e w' => e = .returned (.agg (fv y)) ∧ Below w.heap.size w w' from fun w => by rw [ey]; exact fsub _ _ w)
  have HK := Lib.hid (show ∀ w : World, Calls Tryz.prog 72 #[.agg (fv (j.y)), .agg (fv j.z)] w fun e w' => e = .returned (.agg (fv K)) ∧ Below w.heap.size w w' from fun w => by rw [eK]; exact fmul _ _ w)
  have Hz := Lib.hid (show ∀ w : World, Calls Tryz.prog 72 #[.agg (fv 2), .agg (fv K)] w fun e w' => e = .returned (.agg (fv z)) ∧ Below w.heap.size w w' from fun w => by rw [ez]; exact fmul _ _ w)
  have er : j.twice = ⟨x, y, z⟩ := by subst ez eK ey eJ eI eH eG ex eF eE es eD em eC eB eA eyy ezz; rfl
  rw [er]
  clear er ezz eyy eA eB eC em eD es eE eF ex eG eH eI eJ ey eK ez
  have hR0 := Rws.start w
  go_enter Tryz.func73, Tryz.ntmps73
  go_upto_region 1 with (first | (refine wP_box rfl (by rfl) (by assumption) rfl ?_; intro g w1 hR) | (refine wP_alloc rfl (by rfl) (by assumption) ?_; intro gr w1 hR) | (refine wP_lx rfl (by rfl) (by assumption) rfl (by repeat (first | exact pzH | refine pzM ?_)) ?_) | (refine wP_ly rfl (by rfl) (by assumption) rfl (by repeat (first | exact pzH | refine pzM ?_)) ?_) | (refine wP_lz rfl (by rfl) (by assumption) rfl (by repeat (first | exact pzH | refine pzM ?_)) ?_) | (refine wP_loadAll rfl (by rfl) (by assumption) rfl (by repeat (first | exact pzH | refine pzM ?_)) (by exact jv_size _) ?_) | (refine wP_store rfl (by rfl) (by assumption) rfl rfl (by repeat (first | exact Pick.here | apply Pick.there)) (by first | exact jv_size _ | rfl) (by exact jv_size _) (by exact jv_cells _) ?_; intro w1 hR))
  refine wp_region_calm 12 (by kernel_rfl) (by kernel_rfl) (by assumption) ?_
  repeat (first | (refine lexC_alloc (by rfl) ?_; simp only [Act.put, pzT, pzA, pzB]) | (refine cP_fx (by rfl) rfl ?_; simp only [Act.put, pzT, pzA, pzB]) | (refine cP_fy (by rfl) rfl ?_; simp only [Act.put, pzT, pzA, pzB]) | (refine cP_fz (by rfl) rfl ?_; simp only [Act.put, pzT, pzA, pzB]) | (refine cN_load (by rfl) rfl (by repeat (first | exact pzH | refine pzM ?_)) rfl ?_; simp only [Act.put, pzT, pzA, pzB]) | (refine cP_lx (by rfl) rfl (by repeat (first | exact pzH | refine pzM ?_)) ?_; simp only [Act.put, pzT, pzA, pzB]) | (refine cP_ly (by rfl) rfl (by repeat (first | exact pzH | refine pzM ?_)) ?_; simp only [Act.put, pzT, pzA, pzB]) | (refine cP_lz (by rfl) rfl (by repeat (first | exact pzH | refine pzM ?_)) ?_; simp only [Act.put, pzT, pzA, pzB]) | (refine lexC_move (by rfl) rfl ?_; simp only [Act.put, pzT, pzA, pzB]) | (refine lexC_assign (by rfl) rfl ?_; simp only [Act.put, pzT, pzA, pzB]))
  refine lexC_call rfl Tryz.func72 (by kernel_rfl) rfl rfl (fun w _ => Hzz.out w) ?_
  simp only [Act.put, pzT, pzA, pzB]
  repeat (first | (refine lexC_alloc (by rfl) ?_; simp only [Act.put, pzT, pzA, pzB]) | (refine cP_fx (by rfl) rfl ?_; simp only [Act.put, pzT, pzA, pzB]) | (refine cP_fy (by rfl) rfl ?_; simp only [Act.put, pzT, pzA, pzB]) | (refine cP_fz (by rfl) rfl ?_; simp only [Act.put, pzT, pzA, pzB]) | (refine cN_load (by rfl) rfl (by repeat (first | exact pzH | refine pzM ?_)) rfl ?_; simp only [Act.put, pzT, pzA, pzB]) | (refine cP_lx (by rfl) rfl (by repeat (first | exact pzH | refine pzM ?_)) ?_; simp only [Act.put, pzT, pzA, pzB]) | (refine cP_ly (by rfl) rfl (by repeat (first | exact pzH | refine pzM ?_)) ?_; simp only [Act.put, pzT, pzA, pzB]) | (refine cP_lz (by rfl) rfl (by repeat (first | exact pzH | refine pzM ?_)) ?_; simp only [Act.put, pzT, pzA, pzB]) | (refine lexC_move (by rfl) rfl ?_; simp only [Act.put, pzT, pzA, pzB]) | (refine lexC_assign (by rfl) rfl ?_; simp only [Act.put, pzT, pzA, pzB]))
  refine lexC_call rfl Tryz.func72 (by kernel_rfl) rfl rfl (fun w _ => Hyy.out w) ?_
  simp only [Act.put, pzT, pzA, pzB]
  repeat (first | (refine lexC_alloc (by rfl) ?_; simp only [Act.put, pzT, pzA, pzB]) | (refine cP_fx (by rfl) rfl ?_; simp only [Act.put, pzT, pzA, pzB]) | (refine cP_fy (by rfl) rfl ?_; simp only [Act.put, pzT, pzA, pzB]) | (refine cP_fz (by rfl) rfl ?_; simp only [Act.put, pzT, pzA, pzB]) | (refine cN_load (by rfl) rfl (by repeat (first | exact pzH | refine pzM ?_)) rfl ?_; simp only [Act.put, pzT, pzA, pzB]) | (refine cP_lx (by rfl) rfl (by repeat (first | exact pzH | refine pzM ?_)) ?_; simp only [Act.put, pzT, pzA, pzB]) | (refine cP_ly (by rfl) rfl (by repeat (first | exact pzH | refine pzM ?_)) ?_; simp only [Act.put, pzT, pzA, pzB]) | (refine cP_lz (by rfl) rfl (by repeat (first | exact pzH | refine pzM ?_)) ?_; simp only [Act.put, pzT, pzA, pzB]) | (refine lexC_move (by rfl) rfl ?_; simp only [Act.put, pzT, pzA, pzB]) | (refine lexC_assign (by rfl) rfl ?_; simp only [Act.put, pzT, pzA, pzB]))
  refine lexC_zero ?_; simp only [pzC, pzD, pzE, pzF]; (repeat (first | (refine aN_cons (by rfl) ?_; intro g; simp only [Act.put, pzT, pzA, pzB]) | (refine afterAl_skip (by rfl) ?_))); refine afterAl_nil ?_; intro w1 hR
  go_upto_region 2 with (first | (refine wN_box rfl (by rfl) (by assumption) rfl ?_; intro g w1 hR) | (refine wN_alloc rfl (by rfl) (by assumption) ?_; intro g w1 hR) | (refine wN_load rfl (by rfl) (by assumption) rfl (by repeat (first | exact pzH | refine pzM ?_)) rfl ?_) | (refine wN_store rfl (by rfl) (by assumption) rfl rfl (by repeat (first | exact Pick.here | apply Pick.there)) rfl rfl (by first | exact nmc_cells _ | simp [Value.oneCell']) ?_; intro w1 hR))
  refine wp_region_calm 12 (by kernel_rfl) (by kernel_rfl) (by assumption) ?_
  repeat (first | (refine lexC_alloc (by rfl) ?_; simp only [Act.put, pzT, pzA, pzB]) | (refine cP_fx (by rfl) rfl ?_; simp only [Act.put, pzT, pzA, pzB]) | (refine cP_fy (by rfl) rfl ?_; simp only [Act.put, pzT, pzA, pzB]) | (refine cP_fz (by rfl) rfl ?_; simp only [Act.put, pzT, pzA, pzB]) | (refine cN_load (by rfl) rfl (by repeat (first | exact pzH | refine pzM ?_)) rfl ?_; simp only [Act.put, pzT, pzA, pzB]) | (refine cP_lx (by rfl) rfl (by repeat (first | exact pzH | refine pzM ?_)) ?_; simp only [Act.put, pzT, pzA, pzB]) | (refine cP_ly (by rfl) rfl (by repeat (first | exact pzH | refine pzM ?_)) ?_; simp only [Act.put, pzT, pzA, pzB]) | (refine cP_lz (by rfl) rfl (by repeat (first | exact pzH | refine pzM ?_)) ?_; simp only [Act.put, pzT, pzA, pzB]) | (refine lexC_move (by rfl) rfl ?_; simp only [Act.put, pzT, pzA, pzB]) | (refine lexC_assign (by rfl) rfl ?_; simp only [Act.put, pzT, pzA, pzB]))
  refine lexC_build (cs := fv 3) (by rfl) (by kernel_rfl) ?_
  simp only [Act.put, pzT, pzA, pzB]
  repeat (first | (refine lexC_alloc (by rfl) ?_; simp only [Act.put, pzT, pzA, pzB]) | (refine cP_fx (by rfl) rfl ?_; simp only [Act.put, pzT, pzA, pzB]) | (refine cP_fy (by rfl) rfl ?_; simp only [Act.put, pzT, pzA, pzB]) | (refine cP_fz (by rfl) rfl ?_; simp only [Act.put, pzT, pzA, pzB]) | (refine cN_load (by rfl) rfl (by repeat (first | exact pzH | refine pzM ?_)) rfl ?_; simp only [Act.put, pzT, pzA, pzB]) | (refine cP_lx (by rfl) rfl (by repeat (first | exact pzH | refine pzM ?_)) ?_; simp only [Act.put, pzT, pzA, pzB]) | (refine cP_ly (by rfl) rfl (by repeat (first | exact pzH | refine pzM ?_)) ?_; simp only [Act.put, pzT, pzA, pzB]) | (refine cP_lz (by rfl) rfl (by repeat (first | exact pzH | refine pzM ?_)) ?_; simp only [Act.put, pzT, pzA, pzB]) | (refine lexC_move (by rfl) rfl ?_; simp only [Act.put, pzT, pzA, pzB]) | (refine lexC_assign (by rfl) rfl ?_; simp only [Act.put, pzT, pzA, pzB]))
  refine lexC_call rfl Tryz.func71 (by kernel_rfl) rfl rfl (fun w _ => HA.out w) ?_
  simp only [Act.put, pzT, pzA, pzB]
  repeat (first | (refine lexC_alloc (by rfl) ?_; simp only [Act.put, pzT, pzA, pzB]) | (refine cP_fx (by rfl) rfl ?_; simp only [Act.put, pzT, pzA, pzB]) | (refine cP_fy (by rfl) rfl ?_; simp only [Act.put, pzT, pzA, pzB]) | (refine cP_fz (by rfl) rfl ?_; simp only [Act.put, pzT, pzA, pzB]) | (refine cN_load (by rfl) rfl (by repeat (first | exact pzH | refine pzM ?_)) rfl ?_; simp only [Act.put, pzT, pzA, pzB]) | (refine cP_lx (by rfl) rfl (by repeat (first | exact pzH | refine pzM ?_)) ?_; simp only [Act.put, pzT, pzA, pzB]) | (refine cP_ly (by rfl) rfl (by repeat (first | exact pzH | refine pzM ?_)) ?_; simp only [Act.put, pzT, pzA, pzB]) | (refine cP_lz (by rfl) rfl (by repeat (first | exact pzH | refine pzM ?_)) ?_; simp only [Act.put, pzT, pzA, pzB]) | (refine lexC_move (by rfl) rfl ?_; simp only [Act.put, pzT, pzA, pzB]) | (refine lexC_assign (by rfl) rfl ?_; simp only [Act.put, pzT, pzA, pzB]))
  refine lexC_call rfl Tryz.func70 (by kernel_rfl) rfl rfl (fun w _ => HB.out w) ?_
  simp only [Act.put, pzT, pzA, pzB]
  repeat (first | (refine lexC_alloc (by rfl) ?_; simp only [Act.put, pzT, pzA, pzB]) | (refine cP_fx (by rfl) rfl ?_; simp only [Act.put, pzT, pzA, pzB]) | (refine cP_fy (by rfl) rfl ?_; simp only [Act.put, pzT, pzA, pzB]) | (refine cP_fz (by rfl) rfl ?_; simp only [Act.put, pzT, pzA, pzB]) | (refine cN_load (by rfl) rfl (by repeat (first | exact pzH | refine pzM ?_)) rfl ?_; simp only [Act.put, pzT, pzA, pzB]) | (refine cP_lx (by rfl) rfl (by repeat (first | exact pzH | refine pzM ?_)) ?_; simp only [Act.put, pzT, pzA, pzB]) | (refine cP_ly (by rfl) rfl (by repeat (first | exact pzH | refine pzM ?_)) ?_; simp only [Act.put, pzT, pzA, pzB]) | (refine cP_lz (by rfl) rfl (by repeat (first | exact pzH | refine pzM ?_)) ?_; simp only [Act.put, pzT, pzA, pzB]) | (refine lexC_move (by rfl) rfl ?_; simp only [Act.put, pzT, pzA, pzB]) | (refine lexC_assign (by rfl) rfl ?_; simp only [Act.put, pzT, pzA, pzB]))
  refine lexC_call rfl Tryz.func72 (by kernel_rfl) rfl rfl (fun w _ => HC.out w) ?_
  simp only [Act.put, pzT, pzA, pzB]
  repeat (first | (refine lexC_alloc (by rfl) ?_; simp only [Act.put, pzT, pzA, pzB]) | (refine cP_fx (by rfl) rfl ?_; simp only [Act.put, pzT, pzA, pzB]) | (refine cP_fy (by rfl) rfl ?_; simp only [Act.put, pzT, pzA, pzB]) | (refine cP_fz (by rfl) rfl ?_; simp only [Act.put, pzT, pzA, pzB]) | (refine cN_load (by rfl) rfl (by repeat (first | exact pzH | refine pzM ?_)) rfl ?_; simp only [Act.put, pzT, pzA, pzB]) | (refine cP_lx (by rfl) rfl (by repeat (first | exact pzH | refine pzM ?_)) ?_; simp only [Act.put, pzT, pzA, pzB]) | (refine cP_ly (by rfl) rfl (by repeat (first | exact pzH | refine pzM ?_)) ?_; simp only [Act.put, pzT, pzA, pzB]) | (refine cP_lz (by rfl) rfl (by repeat (first | exact pzH | refine pzM ?_)) ?_; simp only [Act.put, pzT, pzA, pzB]) | (refine lexC_move (by rfl) rfl ?_; simp only [Act.put, pzT, pzA, pzB]) | (refine lexC_assign (by rfl) rfl ?_; simp only [Act.put, pzT, pzA, pzB]))
  refine lexC_call rfl Tryz.func72 (by kernel_rfl) rfl rfl (fun w _ => Hm.out w) ?_
  simp only [Act.put, pzT, pzA, pzB]
  repeat (first | (refine lexC_alloc (by rfl) ?_; simp only [Act.put, pzT, pzA, pzB]) | (refine cP_fx (by rfl) rfl ?_; simp only [Act.put, pzT, pzA, pzB]) | (refine cP_fy (by rfl) rfl ?_; simp only [Act.put, pzT, pzA, pzB]) | (refine cP_fz (by rfl) rfl ?_; simp only [Act.put, pzT, pzA, pzB]) | (refine cN_load (by rfl) rfl (by repeat (first | exact pzH | refine pzM ?_)) rfl ?_; simp only [Act.put, pzT, pzA, pzB]) | (refine cP_lx (by rfl) rfl (by repeat (first | exact pzH | refine pzM ?_)) ?_; simp only [Act.put, pzT, pzA, pzB]) | (refine cP_ly (by rfl) rfl (by repeat (first | exact pzH | refine pzM ?_)) ?_; simp only [Act.put, pzT, pzA, pzB]) | (refine cP_lz (by rfl) rfl (by repeat (first | exact pzH | refine pzM ?_)) ?_; simp only [Act.put, pzT, pzA, pzB]) | (refine lexC_move (by rfl) rfl ?_; simp only [Act.put, pzT, pzA, pzB]) | (refine lexC_assign (by rfl) rfl ?_; simp only [Act.put, pzT, pzA, pzB]))
  refine lexC_zero ?_; simp only [pzC, pzD, pzE, pzF]; (repeat (first | (refine aN_cons (by rfl) ?_; intro g; simp only [Act.put, pzT, pzA, pzB]) | (refine afterAl_skip (by rfl) ?_))); refine afterAl_nil ?_; intro w1 hR
  go_upto_region 3 with (first | (refine wN_box rfl (by rfl) (by assumption) rfl ?_; intro g w1 hR) | (refine wN_alloc rfl (by rfl) (by assumption) ?_; intro g w1 hR) | (refine wN_load rfl (by rfl) (by assumption) rfl (by repeat (first | exact pzH | refine pzM ?_)) rfl ?_) | (refine wN_store rfl (by rfl) (by assumption) rfl rfl (by repeat (first | exact Pick.here | apply Pick.there)) rfl rfl (by first | exact nmc_cells _ | simp [Value.oneCell']) ?_; intro w1 hR))
  go_upto_region 4 with (first
    | (refine wB_build (cs := fv 4) rfl (by rfl) (by kernel_rfl) ?_)
    | (refine wP_lx rfl (by rfl) (by assumption) rfl (by repeat (first | exact pzH | refine pzM ?_)) ?_)
    | (refine wN_box rfl (by rfl) (by assumption) rfl ?_; intro g w1 hR) | (refine wN_alloc rfl (by rfl) (by assumption) ?_; intro g w1 hR) | (refine wN_load rfl (by rfl) (by assumption) rfl (by repeat (first | exact pzH | refine pzM ?_)) rfl ?_) | (refine wN_store rfl (by rfl) (by assumption) rfl rfl (by repeat (first | exact Pick.here | apply Pick.there)) rfl rfl (by first | exact nmc_cells _ | simp [Value.oneCell']) ?_; intro w1 hR)
    | (go_at_call 72; first | (refine (HD.out _).mono ?_; rintro e w1 ⟨rfl, hb1⟩; have hR := Rws.call (by assumption) hb1; clear HD) | (refine (Hs.out _).mono ?_; rintro e w1 ⟨rfl, hb1⟩; have hR := Rws.call (by assumption) hb1)))
  refine wp_region_calm 8 (by kernel_rfl) (by kernel_rfl) (by assumption) ?_
  repeat (first | (refine lexC_alloc (by rfl) ?_; simp only [Act.put, pzT, pzA, pzB]) | (refine cP_fx (by rfl) rfl ?_; simp only [Act.put, pzT, pzA, pzB]) | (refine cP_fy (by rfl) rfl ?_; simp only [Act.put, pzT, pzA, pzB]) | (refine cP_fz (by rfl) rfl ?_; simp only [Act.put, pzT, pzA, pzB]) | (refine cN_load (by rfl) rfl (by repeat (first | exact pzH | refine pzM ?_)) rfl ?_; simp only [Act.put, pzT, pzA, pzB]) | (refine cP_lx (by rfl) rfl (by repeat (first | exact pzH | refine pzM ?_)) ?_; simp only [Act.put, pzT, pzA, pzB]) | (refine cP_ly (by rfl) rfl (by repeat (first | exact pzH | refine pzM ?_)) ?_; simp only [Act.put, pzT, pzA, pzB]) | (refine cP_lz (by rfl) rfl (by repeat (first | exact pzH | refine pzM ?_)) ?_; simp only [Act.put, pzT, pzA, pzB]) | (refine lexC_move (by rfl) rfl ?_; simp only [Act.put, pzT, pzA, pzB]) | (refine lexC_assign (by rfl) rfl ?_; simp only [Act.put, pzT, pzA, pzB]))
  refine lexC_call rfl Tryz.func72 (by kernel_rfl) rfl rfl (fun w _ => HE.out w) ?_
  simp only [Act.put, pzT, pzA, pzB]
  repeat (first | (refine lexC_alloc (by rfl) ?_; simp only [Act.put, pzT, pzA, pzB]) | (refine cP_fx (by rfl) rfl ?_; simp only [Act.put, pzT, pzA, pzB]) | (refine cP_fy (by rfl) rfl ?_; simp only [Act.put, pzT, pzA, pzB]) | (refine cP_fz (by rfl) rfl ?_; simp only [Act.put, pzT, pzA, pzB]) | (refine cN_load (by rfl) rfl (by repeat (first | exact pzH | refine pzM ?_)) rfl ?_; simp only [Act.put, pzT, pzA, pzB]) | (refine cP_lx (by rfl) rfl (by repeat (first | exact pzH | refine pzM ?_)) ?_; simp only [Act.put, pzT, pzA, pzB]) | (refine cP_ly (by rfl) rfl (by repeat (first | exact pzH | refine pzM ?_)) ?_; simp only [Act.put, pzT, pzA, pzB]) | (refine cP_lz (by rfl) rfl (by repeat (first | exact pzH | refine pzM ?_)) ?_; simp only [Act.put, pzT, pzA, pzB]) | (refine lexC_move (by rfl) rfl ?_; simp only [Act.put, pzT, pzA, pzB]) | (refine lexC_assign (by rfl) rfl ?_; simp only [Act.put, pzT, pzA, pzB]))
  refine lexC_call rfl Tryz.func70 (by kernel_rfl) rfl rfl (fun w _ => HF.out w) ?_
  simp only [Act.put, pzT, pzA, pzB]
  repeat (first | (refine lexC_alloc (by rfl) ?_; simp only [Act.put, pzT, pzA, pzB]) | (refine cP_fx (by rfl) rfl ?_; simp only [Act.put, pzT, pzA, pzB]) | (refine cP_fy (by rfl) rfl ?_; simp only [Act.put, pzT, pzA, pzB]) | (refine cP_fz (by rfl) rfl ?_; simp only [Act.put, pzT, pzA, pzB]) | (refine cN_load (by rfl) rfl (by repeat (first | exact pzH | refine pzM ?_)) rfl ?_; simp only [Act.put, pzT, pzA, pzB]) | (refine cP_lx (by rfl) rfl (by repeat (first | exact pzH | refine pzM ?_)) ?_; simp only [Act.put, pzT, pzA, pzB]) | (refine cP_ly (by rfl) rfl (by repeat (first | exact pzH | refine pzM ?_)) ?_; simp only [Act.put, pzT, pzA, pzB]) | (refine cP_lz (by rfl) rfl (by repeat (first | exact pzH | refine pzM ?_)) ?_; simp only [Act.put, pzT, pzA, pzB]) | (refine lexC_move (by rfl) rfl ?_; simp only [Act.put, pzT, pzA, pzB]) | (refine lexC_assign (by rfl) rfl ?_; simp only [Act.put, pzT, pzA, pzB]))
  refine lexC_call rfl Tryz.func71 (by kernel_rfl) rfl rfl (fun w _ => Hx.out w) ?_
  simp only [Act.put, pzT, pzA, pzB]
  repeat (first | (refine lexC_alloc (by rfl) ?_; simp only [Act.put, pzT, pzA, pzB]) | (refine cP_fx (by rfl) rfl ?_; simp only [Act.put, pzT, pzA, pzB]) | (refine cP_fy (by rfl) rfl ?_; simp only [Act.put, pzT, pzA, pzB]) | (refine cP_fz (by rfl) rfl ?_; simp only [Act.put, pzT, pzA, pzB]) | (refine cN_load (by rfl) rfl (by repeat (first | exact pzH | refine pzM ?_)) rfl ?_; simp only [Act.put, pzT, pzA, pzB]) | (refine cP_lx (by rfl) rfl (by repeat (first | exact pzH | refine pzM ?_)) ?_; simp only [Act.put, pzT, pzA, pzB]) | (refine cP_ly (by rfl) rfl (by repeat (first | exact pzH | refine pzM ?_)) ?_; simp only [Act.put, pzT, pzA, pzB]) | (refine cP_lz (by rfl) rfl (by repeat (first | exact pzH | refine pzM ?_)) ?_; simp only [Act.put, pzT, pzA, pzB]) | (refine lexC_move (by rfl) rfl ?_; simp only [Act.put, pzT, pzA, pzB]) | (refine lexC_assign (by rfl) rfl ?_; simp only [Act.put, pzT, pzA, pzB]))
  refine lexC_zero ?_; simp only [pzC, pzD, pzE, pzF]; (repeat (first | (refine aN_cons (by rfl) ?_; intro g; simp only [Act.put, pzT, pzA, pzB]) | (refine afterAl_skip (by rfl) ?_))); refine afterAl_nil ?_; intro w1 hR
  go_upto_region 5 with (first | (refine wN_box rfl (by rfl) (by assumption) rfl ?_; intro g w1 hR) | (refine wN_alloc rfl (by rfl) (by assumption) ?_; intro g w1 hR) | (refine wN_load rfl (by rfl) (by assumption) rfl (by repeat (first | exact pzH | refine pzM ?_)) rfl ?_) | (refine wN_store rfl (by rfl) (by assumption) rfl rfl (by repeat (first | exact Pick.here | apply Pick.there)) rfl rfl (by first | exact nmc_cells _ | simp [Value.oneCell']) ?_; intro w1 hR))
  refine wp_region_calm 12 (by kernel_rfl) (by kernel_rfl) (by assumption) ?_
  repeat (first | (refine lexC_alloc (by rfl) ?_; simp only [Act.put, pzT, pzA, pzB]) | (refine cP_fx (by rfl) rfl ?_; simp only [Act.put, pzT, pzA, pzB]) | (refine cP_fy (by rfl) rfl ?_; simp only [Act.put, pzT, pzA, pzB]) | (refine cP_fz (by rfl) rfl ?_; simp only [Act.put, pzT, pzA, pzB]) | (refine cN_load (by rfl) rfl (by repeat (first | exact pzH | refine pzM ?_)) rfl ?_; simp only [Act.put, pzT, pzA, pzB]) | (refine cP_lx (by rfl) rfl (by repeat (first | exact pzH | refine pzM ?_)) ?_; simp only [Act.put, pzT, pzA, pzB]) | (refine cP_ly (by rfl) rfl (by repeat (first | exact pzH | refine pzM ?_)) ?_; simp only [Act.put, pzT, pzA, pzB]) | (refine cP_lz (by rfl) rfl (by repeat (first | exact pzH | refine pzM ?_)) ?_; simp only [Act.put, pzT, pzA, pzB]) | (refine lexC_move (by rfl) rfl ?_; simp only [Act.put, pzT, pzA, pzB]) | (refine lexC_assign (by rfl) rfl ?_; simp only [Act.put, pzT, pzA, pzB]))
  refine lexC_call rfl Tryz.func71 (by kernel_rfl) rfl rfl (fun w _ => HG.out w) ?_
  simp only [Act.put, pzT, pzA, pzB]
  repeat (first | (refine lexC_alloc (by rfl) ?_; simp only [Act.put, pzT, pzA, pzB]) | (refine cP_fx (by rfl) rfl ?_; simp only [Act.put, pzT, pzA, pzB]) | (refine cP_fy (by rfl) rfl ?_; simp only [Act.put, pzT, pzA, pzB]) | (refine cP_fz (by rfl) rfl ?_; simp only [Act.put, pzT, pzA, pzB]) | (refine cN_load (by rfl) rfl (by repeat (first | exact pzH | refine pzM ?_)) rfl ?_; simp only [Act.put, pzT, pzA, pzB]) | (refine cP_lx (by rfl) rfl (by repeat (first | exact pzH | refine pzM ?_)) ?_; simp only [Act.put, pzT, pzA, pzB]) | (refine cP_ly (by rfl) rfl (by repeat (first | exact pzH | refine pzM ?_)) ?_; simp only [Act.put, pzT, pzA, pzB]) | (refine cP_lz (by rfl) rfl (by repeat (first | exact pzH | refine pzM ?_)) ?_; simp only [Act.put, pzT, pzA, pzB]) | (refine lexC_move (by rfl) rfl ?_; simp only [Act.put, pzT, pzA, pzB]) | (refine lexC_assign (by rfl) rfl ?_; simp only [Act.put, pzT, pzA, pzB]))
  refine lexC_call rfl Tryz.func72 (by kernel_rfl) rfl rfl (fun w _ => HH.out w) ?_
  simp only [Act.put, pzT, pzA, pzB]
  repeat (first | (refine lexC_alloc (by rfl) ?_; simp only [Act.put, pzT, pzA, pzB]) | (refine cP_fx (by rfl) rfl ?_; simp only [Act.put, pzT, pzA, pzB]) | (refine cP_fy (by rfl) rfl ?_; simp only [Act.put, pzT, pzA, pzB]) | (refine cP_fz (by rfl) rfl ?_; simp only [Act.put, pzT, pzA, pzB]) | (refine cN_load (by rfl) rfl (by repeat (first | exact pzH | refine pzM ?_)) rfl ?_; simp only [Act.put, pzT, pzA, pzB]) | (refine cP_lx (by rfl) rfl (by repeat (first | exact pzH | refine pzM ?_)) ?_; simp only [Act.put, pzT, pzA, pzB]) | (refine cP_ly (by rfl) rfl (by repeat (first | exact pzH | refine pzM ?_)) ?_; simp only [Act.put, pzT, pzA, pzB]) | (refine cP_lz (by rfl) rfl (by repeat (first | exact pzH | refine pzM ?_)) ?_; simp only [Act.put, pzT, pzA, pzB]) | (refine lexC_move (by rfl) rfl ?_; simp only [Act.put, pzT, pzA, pzB]) | (refine lexC_assign (by rfl) rfl ?_; simp only [Act.put, pzT, pzA, pzB]))
  refine lexC_build (cs := fv 8) (by rfl) (by kernel_rfl) ?_
  simp only [Act.put, pzT, pzA, pzB]
  repeat (first | (refine lexC_alloc (by rfl) ?_; simp only [Act.put, pzT, pzA, pzB]) | (refine cP_fx (by rfl) rfl ?_; simp only [Act.put, pzT, pzA, pzB]) | (refine cP_fy (by rfl) rfl ?_; simp only [Act.put, pzT, pzA, pzB]) | (refine cP_fz (by rfl) rfl ?_; simp only [Act.put, pzT, pzA, pzB]) | (refine cN_load (by rfl) rfl (by repeat (first | exact pzH | refine pzM ?_)) rfl ?_; simp only [Act.put, pzT, pzA, pzB]) | (refine cP_lx (by rfl) rfl (by repeat (first | exact pzH | refine pzM ?_)) ?_; simp only [Act.put, pzT, pzA, pzB]) | (refine cP_ly (by rfl) rfl (by repeat (first | exact pzH | refine pzM ?_)) ?_; simp only [Act.put, pzT, pzA, pzB]) | (refine cP_lz (by rfl) rfl (by repeat (first | exact pzH | refine pzM ?_)) ?_; simp only [Act.put, pzT, pzA, pzB]) | (refine lexC_move (by rfl) rfl ?_; simp only [Act.put, pzT, pzA, pzB]) | (refine lexC_assign (by rfl) rfl ?_; simp only [Act.put, pzT, pzA, pzB]))
  refine lexC_call rfl Tryz.func72 (by kernel_rfl) rfl rfl (fun w _ => HI.out w) ?_
  simp only [Act.put, pzT, pzA, pzB]
  repeat (first | (refine lexC_alloc (by rfl) ?_; simp only [Act.put, pzT, pzA, pzB]) | (refine cP_fx (by rfl) rfl ?_; simp only [Act.put, pzT, pzA, pzB]) | (refine cP_fy (by rfl) rfl ?_; simp only [Act.put, pzT, pzA, pzB]) | (refine cP_fz (by rfl) rfl ?_; simp only [Act.put, pzT, pzA, pzB]) | (refine cN_load (by rfl) rfl (by repeat (first | exact pzH | refine pzM ?_)) rfl ?_; simp only [Act.put, pzT, pzA, pzB]) | (refine cP_lx (by rfl) rfl (by repeat (first | exact pzH | refine pzM ?_)) ?_; simp only [Act.put, pzT, pzA, pzB]) | (refine cP_ly (by rfl) rfl (by repeat (first | exact pzH | refine pzM ?_)) ?_; simp only [Act.put, pzT, pzA, pzB]) | (refine cP_lz (by rfl) rfl (by repeat (first | exact pzH | refine pzM ?_)) ?_; simp only [Act.put, pzT, pzA, pzB]) | (refine lexC_move (by rfl) rfl ?_; simp only [Act.put, pzT, pzA, pzB]) | (refine lexC_assign (by rfl) rfl ?_; simp only [Act.put, pzT, pzA, pzB]))
  refine lexC_call rfl Tryz.func72 (by kernel_rfl) rfl rfl (fun w _ => HJ.out w) ?_
  simp only [Act.put, pzT, pzA, pzB]
  repeat (first | (refine lexC_alloc (by rfl) ?_; simp only [Act.put, pzT, pzA, pzB]) | (refine cP_fx (by rfl) rfl ?_; simp only [Act.put, pzT, pzA, pzB]) | (refine cP_fy (by rfl) rfl ?_; simp only [Act.put, pzT, pzA, pzB]) | (refine cP_fz (by rfl) rfl ?_; simp only [Act.put, pzT, pzA, pzB]) | (refine cN_load (by rfl) rfl (by repeat (first | exact pzH | refine pzM ?_)) rfl ?_; simp only [Act.put, pzT, pzA, pzB]) | (refine cP_lx (by rfl) rfl (by repeat (first | exact pzH | refine pzM ?_)) ?_; simp only [Act.put, pzT, pzA, pzB]) | (refine cP_ly (by rfl) rfl (by repeat (first | exact pzH | refine pzM ?_)) ?_; simp only [Act.put, pzT, pzA, pzB]) | (refine cP_lz (by rfl) rfl (by repeat (first | exact pzH | refine pzM ?_)) ?_; simp only [Act.put, pzT, pzA, pzB]) | (refine lexC_move (by rfl) rfl ?_; simp only [Act.put, pzT, pzA, pzB]) | (refine lexC_assign (by rfl) rfl ?_; simp only [Act.put, pzT, pzA, pzB]))
  refine lexC_call rfl Tryz.func71 (by kernel_rfl) rfl rfl (fun w _ => Hy.out w) ?_
  simp only [Act.put, pzT, pzA, pzB]
  repeat (first | (refine lexC_alloc (by rfl) ?_; simp only [Act.put, pzT, pzA, pzB]) | (refine cP_fx (by rfl) rfl ?_; simp only [Act.put, pzT, pzA, pzB]) | (refine cP_fy (by rfl) rfl ?_; simp only [Act.put, pzT, pzA, pzB]) | (refine cP_fz (by rfl) rfl ?_; simp only [Act.put, pzT, pzA, pzB]) | (refine cN_load (by rfl) rfl (by repeat (first | exact pzH | refine pzM ?_)) rfl ?_; simp only [Act.put, pzT, pzA, pzB]) | (refine cP_lx (by rfl) rfl (by repeat (first | exact pzH | refine pzM ?_)) ?_; simp only [Act.put, pzT, pzA, pzB]) | (refine cP_ly (by rfl) rfl (by repeat (first | exact pzH | refine pzM ?_)) ?_; simp only [Act.put, pzT, pzA, pzB]) | (refine cP_lz (by rfl) rfl (by repeat (first | exact pzH | refine pzM ?_)) ?_; simp only [Act.put, pzT, pzA, pzB]) | (refine lexC_move (by rfl) rfl ?_; simp only [Act.put, pzT, pzA, pzB]) | (refine lexC_assign (by rfl) rfl ?_; simp only [Act.put, pzT, pzA, pzB]))
  refine lexC_zero ?_; simp only [pzC, pzD, pzE, pzF]; (repeat (first | (refine aN_cons (by rfl) ?_; intro g; simp only [Act.put, pzT, pzA, pzB]) | (refine afterAl_skip (by rfl) ?_))); refine afterAl_nil ?_; intro w1 hR
  go_upto_region 6 with (first | (refine wN_box rfl (by rfl) (by assumption) rfl ?_; intro g w1 hR) | (refine wN_alloc rfl (by rfl) (by assumption) ?_; intro g w1 hR) | (refine wN_load rfl (by rfl) (by assumption) rfl (by repeat (first | exact pzH | refine pzM ?_)) rfl ?_) | (refine wN_store rfl (by rfl) (by assumption) rfl rfl (by repeat (first | exact Pick.here | apply Pick.there)) rfl rfl (by first | exact nmc_cells _ | simp [Value.oneCell']) ?_; intro w1 hR))
  refine wp_region_calm 10 (by kernel_rfl) (by kernel_rfl) (by assumption) ?_
  repeat (first | (refine lexC_alloc (by rfl) ?_; simp only [Act.put, pzT, pzA, pzB]) | (refine cP_fx (by rfl) rfl ?_; simp only [Act.put, pzT, pzA, pzB]) | (refine cP_fy (by rfl) rfl ?_; simp only [Act.put, pzT, pzA, pzB]) | (refine cP_fz (by rfl) rfl ?_; simp only [Act.put, pzT, pzA, pzB]) | (refine cN_load (by rfl) rfl (by repeat (first | exact pzH | refine pzM ?_)) rfl ?_; simp only [Act.put, pzT, pzA, pzB]) | (refine cP_lx (by rfl) rfl (by repeat (first | exact pzH | refine pzM ?_)) ?_; simp only [Act.put, pzT, pzA, pzB]) | (refine cP_ly (by rfl) rfl (by repeat (first | exact pzH | refine pzM ?_)) ?_; simp only [Act.put, pzT, pzA, pzB]) | (refine cP_lz (by rfl) rfl (by repeat (first | exact pzH | refine pzM ?_)) ?_; simp only [Act.put, pzT, pzA, pzB]) | (refine lexC_move (by rfl) rfl ?_; simp only [Act.put, pzT, pzA, pzB]) | (refine lexC_assign (by rfl) rfl ?_; simp only [Act.put, pzT, pzA, pzB]))
  refine lexC_build (cs := fv 2) (by rfl) (by kernel_rfl) ?_
  simp only [Act.put, pzT, pzA, pzB]
  repeat (first | (refine lexC_alloc (by rfl) ?_; simp only [Act.put, pzT, pzA, pzB]) | (refine cP_fx (by rfl) rfl ?_; simp only [Act.put, pzT, pzA, pzB]) | (refine cP_fy (by rfl) rfl ?_; simp only [Act.put, pzT, pzA, pzB]) | (refine cP_fz (by rfl) rfl ?_; simp only [Act.put, pzT, pzA, pzB]) | (refine cN_load (by rfl) rfl (by repeat (first | exact pzH | refine pzM ?_)) rfl ?_; simp only [Act.put, pzT, pzA, pzB]) | (refine cP_lx (by rfl) rfl (by repeat (first | exact pzH | refine pzM ?_)) ?_; simp only [Act.put, pzT, pzA, pzB]) | (refine cP_ly (by rfl) rfl (by repeat (first | exact pzH | refine pzM ?_)) ?_; simp only [Act.put, pzT, pzA, pzB]) | (refine cP_lz (by rfl) rfl (by repeat (first | exact pzH | refine pzM ?_)) ?_; simp only [Act.put, pzT, pzA, pzB]) | (refine lexC_move (by rfl) rfl ?_; simp only [Act.put, pzT, pzA, pzB]) | (refine lexC_assign (by rfl) rfl ?_; simp only [Act.put, pzT, pzA, pzB]))
  refine lexC_call rfl Tryz.func72 (by kernel_rfl) rfl rfl (fun w _ => HK.out w) ?_
  simp only [Act.put, pzT, pzA, pzB]
  repeat (first | (refine lexC_alloc (by rfl) ?_; simp only [Act.put, pzT, pzA, pzB]) | (refine cP_fx (by rfl) rfl ?_; simp only [Act.put, pzT, pzA, pzB]) | (refine cP_fy (by rfl) rfl ?_; simp only [Act.put, pzT, pzA, pzB]) | (refine cP_fz (by rfl) rfl ?_; simp only [Act.put, pzT, pzA, pzB]) | (refine cN_load (by rfl) rfl (by repeat (first | exact pzH | refine pzM ?_)) rfl ?_; simp only [Act.put, pzT, pzA, pzB]) | (refine cP_lx (by rfl) rfl (by repeat (first | exact pzH | refine pzM ?_)) ?_; simp only [Act.put, pzT, pzA, pzB]) | (refine cP_ly (by rfl) rfl (by repeat (first | exact pzH | refine pzM ?_)) ?_; simp only [Act.put, pzT, pzA, pzB]) | (refine cP_lz (by rfl) rfl (by repeat (first | exact pzH | refine pzM ?_)) ?_; simp only [Act.put, pzT, pzA, pzB]) | (refine lexC_move (by rfl) rfl ?_; simp only [Act.put, pzT, pzA, pzB]) | (refine lexC_assign (by rfl) rfl ?_; simp only [Act.put, pzT, pzA, pzB]))
  refine lexC_call rfl Tryz.func72 (by kernel_rfl) rfl rfl (fun w _ => Hz.out w) ?_
  simp only [Act.put, pzT, pzA, pzB]
  refine lexC_build (cs := jv ⟨x, y, z⟩) (by rfl) (by kernel_rfl) ?_
  simp only [Act.put, pzT, pzA, pzB]
  refine lexC_zero ?_; simp only [pzC, pzD, pzE, pzF]; (repeat (first | (refine aN_cons (by rfl) ?_; intro g; simp only [Act.put, pzT, pzA, pzB]) | (refine afterAl_skip (by rfl) ?_))); refine afterAl_nil ?_; intro w1 hR
  go_wp2_with (first | (refine wP_box rfl (by rfl) (by assumption) rfl ?_; intro g w1 hR) | (refine wP_alloc rfl (by rfl) (by assumption) ?_; intro gr w1 hR) | (refine wP_lx rfl (by rfl) (by assumption) rfl (by repeat (first | exact pzH | refine pzM ?_)) ?_) | (refine wP_ly rfl (by rfl) (by assumption) rfl (by repeat (first | exact pzH | refine pzM ?_)) ?_) | (refine wP_lz rfl (by rfl) (by assumption) rfl (by repeat (first | exact pzH | refine pzM ?_)) ?_) | (refine wP_loadAll rfl (by rfl) (by assumption) rfl (by repeat (first | exact pzH | refine pzM ?_)) (by exact jv_size _) ?_) | (refine wP_store rfl (by rfl) (by assumption) rfl rfl (by repeat (first | exact Pick.here | apply Pick.there)) (by first | exact jv_size _ | rfl) (by exact jv_size _) (by exact jv_cells _) ?_; intro w1 hR))
  exact wP_end Tryz.results73 (by assumption) rfl (List.Mem.head _) (jv_size _) rfl fun hb => ⟨rfl, hb⟩
end Go.Proofs.YtaggpodckafbgaaGreatDoor
/- add: the sum of two points under way. -/
namespace Go.Proofs.YtaggpodckafbgaaGreatDoor
open Go.RowKit
theorem fv_zero : fv 0 = #[.int .u64 0, .int .u64 0, .int .u64 0, .int .u64 0] := rfl
theorem eq_fv (a b : Ec.F) (w : World) : (Op.equalIn 10000 53 (.agg (fv a)) (.agg (fv b))).run Tryz.prog w = .ok (decide (a = b)) w := by
  have h := eq_num a.val b.val (F_lt a) (F_lt b) w
  have e : decide (a.val = b.val) = decide (a = b) := by
    by_cases h : a = b
    · subst h; simp
    · rw [decide_eq_false h, decide_eq_false (fun e => h (Fin.ext e))]
  rw [e] at h
  exact h
theorem eq_zero (a : Ec.F) (w : World) : (Op.equalIn 10000 53 (.agg (fv a)) (.agg #[.int .u64 0, .int .u64 0, .int .u64 0, .int .u64 0])).run Tryz.prog w = .ok (decide (a = 0)) w := by
  have h := eq_fv a 0 w
  rw [fv_zero] at h
  exact h
theorem jv_zero : jv ⟨0, 0, 0⟩ = z12 := by
  unfold jv; rw [fv_zero]; rfl
theorem built_zero : Tryz.prog.built 55 [] = some (jv ⟨0, 0, 0⟩) := by rw [jv_zero]; kernel_rfl
set_option maxRecDepth 100000 in
theorem padd_p (j k : Ec.Jac Ec.P) (w : World) (hj : j.z = 0) :
    Calls Tryz.prog 32 #[.agg (jv j), .agg (jv k)] w fun e w' => e = .returned (.agg (jv k)) ∧ Below w.heap.size w w' := by
  have hq : ∀ w : World, (Op.equalIn 10000 53 (.agg (fv j.z)) (.agg #[.int .u64 0, .int .u64 0, .int .u64 0, .int .u64 0])).run Tryz.prog w = .ok (decide (j.z = 0)) w := fun w => eq_zero j.z w
  rw [decide_eq_true hj] at hq
  clear hj
  have hR0 := Rws.start w
  go_enter Tryz.func32, Tryz.ntmps32
  go_upto_region 1 with (first
    | (refine wP_box (x := .tmp 0) rfl (by rfl) (by assumption) rfl ?_; intro gp w1 hR)
    | (refine wP_box (x := .tmp 1) rfl (by rfl) (by assumption) rfl ?_; intro gq w1 hR)
    | (refine wP_alloc rfl (by rfl) (by assumption) ?_; intro gr w1 hR))
  go_wp2_with (first | (refine wP_box rfl (by rfl) (by assumption) rfl ?_; intro g w1 hR) | (refine wP_alloc rfl (by rfl) (by assumption) ?_; intro gr w1 hR) | (refine wP_lx rfl (by rfl) (by assumption) rfl (by repeat (first | exact pzH | refine pzM ?_)) ?_) | (refine wP_ly rfl (by rfl) (by assumption) rfl (by repeat (first | exact pzH | refine pzM ?_)) ?_) | (refine wP_lz rfl (by rfl) (by assumption) rfl (by repeat (first | exact pzH | refine pzM ?_)) ?_) | (refine wP_loadAll rfl (by rfl) (by assumption) rfl (by repeat (first | exact pzH | refine pzM ?_)) (by exact jv_size _) ?_) | (refine wP_store rfl (by rfl) (by assumption) rfl rfl (by repeat (first | exact Pick.here | apply Pick.there)) (by first | exact jv_size _ | rfl) (by exact jv_size _) (by exact jv_cells _) ?_; intro w1 hR))
  exact wP_end Tryz.results32 (by assumption) rfl (List.Mem.head _) (jv_size _) rfl fun hb => ⟨rfl, hb⟩
set_option maxRecDepth 100000 in
theorem padd_q (j k : Ec.Jac Ec.P) (w : World) (hj : j.z ≠ 0) (hk : k.z = 0) :
    Calls Tryz.prog 32 #[.agg (jv j), .agg (jv k)] w fun e w' => e = .returned (.agg (jv j)) ∧ Below w.heap.size w w' := by
  have hq : ∀ w : World, (Op.equalIn 10000 53 (.agg (fv j.z)) (.agg #[.int .u64 0, .int .u64 0, .int .u64 0, .int .u64 0])).run Tryz.prog w = .ok (decide (j.z = 0)) w := fun w => eq_zero j.z w
  have hq2 : ∀ w : World, (Op.equalIn 10000 53 (.agg (fv k.z)) (.agg #[.int .u64 0, .int .u64 0, .int .u64 0, .int .u64 0])).run Tryz.prog w = .ok (decide (k.z = 0)) w := fun w => eq_zero k.z w
  rw [decide_eq_false hj] at hq
  rw [decide_eq_true hk] at hq2
  clear hj hk
  have hR0 := Rws.start w
  go_enter Tryz.func32, Tryz.ntmps32
  go_upto_region 1 with (first
    | (refine wP_box (x := .tmp 0) rfl (by rfl) (by assumption) rfl ?_; intro gp w1 hR)
    | (refine wP_box (x := .tmp 1) rfl (by rfl) (by assumption) rfl ?_; intro gq w1 hR)
    | (refine wP_alloc rfl (by rfl) (by assumption) ?_; intro gr w1 hR))
  go_wp2_with (first | (refine wP_box rfl (by rfl) (by assumption) rfl ?_; intro g w1 hR) | (refine wP_alloc rfl (by rfl) (by assumption) ?_; intro gr w1 hR) | (refine wP_lx rfl (by rfl) (by assumption) rfl (by repeat (first | exact pzH | refine pzM ?_)) ?_) | (refine wP_ly rfl (by rfl) (by assumption) rfl (by repeat (first | exact pzH | refine pzM ?_)) ?_) | (refine wP_lz rfl (by rfl) (by assumption) rfl (by repeat (first | exact pzH | refine pzM ?_)) ?_) | (refine wP_loadAll rfl (by rfl) (by assumption) rfl (by repeat (first | exact pzH | refine pzM ?_)) (by exact jv_size _) ?_) | (refine wP_store rfl (by rfl) (by assumption) rfl rfl (by repeat (first | exact Pick.here | apply Pick.there)) (by first | exact jv_size _ | rfl) (by exact jv_size _) (by exact jv_cells _) ?_; intro w1 hR))
  exact wP_end Tryz.results32 (by assumption) rfl (List.Mem.head _) (jv_size _) rfl fun hb => ⟨rfl, hb⟩
end Go.Proofs.YtaggpodckafbgaaGreatDoor
/- Keys: what the program holds of them; of. -/
namespace Go.Proofs.YtaggpodckafbgaaGreatDoor
open Go.RowKit
def kvc (x y : ByteArray) : Array Value := #[.string x, .string y]
theorem kvc_cells (x y : ByteArray) : (kvc x y).all (·.oneCell') = true := by simp [kvc, Value.oneCell']
theorem key_info {cs : Array Value} (h : cs.size = 2) : (Tryz.prog.info? 23).map (·.size) = some cs.size := by rw [h]; kernel_rfl
def zkey : Array Value := kvc ⟨#[]⟩ ⟨#[]⟩
theorem zero_key : ∀ w : World, (zeroValue 23).run Tryz.prog w = .ok (.agg zkey) w := Tryz.zeroValue23
theorem built_key0 : Tryz.prog.built 23 [] = some zkey := by kernel_rfl
theorem str_info : (Tryz.prog.info? 9).map (·.size) = some 1 := by kernel_rfl
theorem isAgg_str : ∀ w : World, (isAgg 9).run Tryz.prog w = .ok false w := Tryz.isAgg9
theorem eq_keys (a b c d : ByteArray) (w : World) : (Op.equalIn 10000 23 (.agg #[.string a, .string b]) (.agg #[.string c, .string d])).run Tryz.prog w = .ok (a.toList == c.toList && b.toList == d.toList) w := by
  have u3 := Tryz.underlying9
  have a3 := Tryz.isAgg9
  have z3 := Tryz.sizeOf9
  have hS : Tryz.prog.underlying 23 = some (.struct (Tryz.prog.fieldsOf 23)) := by kernel_rfl
  have hp : Tryz.prog.stoodInHeld 23 = false := by kernel_rfl
  rw [show (10000 : Nat) = 9999 + 1 from rfl, run_equalIn_agg w 9999 23 _ _ hS hp]
  simp only [Program.fieldsOf, Tryz.underlying23]
  go_simp
  by_cases h1 : a.toList = c.toList <;> by_cases h2 : b.toList = d.toList <;> simp [h1, h2]
theorem toList_nil (a : ByteArray) : (a.toList == (⟨#[]⟩ : ByteArray).toList) = decide (a.size = 0) := by
  have e : ∀ b : ByteArray, b.toList = b.data.toList := fun b => by exact Go.ByteArray.toList_eq b
  rw [e, e]
  by_cases h : a.size = 0
  · have : a.data.toList = [] := List.eq_nil_of_length_eq_zero (by simpa using h)
    rw [this, decide_eq_true h]; rfl
  · rw [decide_eq_false h]
    refine beq_false_of_ne fun hh => h ?_
    have : a.data.toList = [] := hh
    have h2 := congrArg List.length this
    simpa using h2
theorem eq_key0 (a b : ByteArray) (w : World) : (Op.equalIn 10000 23 (.agg (kvc a b)) (.agg zkey)).run Tryz.prog w = .ok (decide (a.size = 0) && decide (b.size = 0)) w := by
  have h := eq_keys a b ⟨#[]⟩ ⟨#[]⟩ w
  rw [toList_nil, toList_nil] at h
  exact h
section
variable {B : Nat} {w0 w : World} {L : List (Nat × Array Value × TypeId)} {S : StRow} {ops : Array Oper} {rest : List Oper} {a : Act} {Q : Exit → Act → World → Prop} {o : Oper}
theorem wK_box {x : Operand} {cs : Array Value} (hgd : o.guard = none) (ho : o.op = .box 23 x) (h : Rws B w0 w L) (hx : a.eval x = .agg cs)
    (hK : ∀ g w', Rws B w0 w' ((g, cs, 23) :: L) → wpList Tryz.prog ops Q rest (a.put o.dst (.pointer (some ⟨g, 0, none⟩))) w') : wpList Tryz.prog ops Q (o :: rest) a w :=
  wpList_box_rws hgd _ x ho h cs hx hK
theorem wK_alloc (hgd : o.guard = none) (ho : o.op = .alloc 23) (h : Rws B w0 w L)
    (hK : ∀ g w', Rws B w0 w' ((g, zkey, 23) :: L) → wpList Tryz.prog ops Q rest (a.put o.dst (.pointer (some ⟨g, 0, none⟩))) w') : wpList Tryz.prog ops Q (o :: rest) a w :=
  wpList_alloc_rws hgd _ ho h zkey zero_key hK
theorem wK_load {x : Operand} {g : Nat} {cs : Array Value} (hgd : o.guard = none) (ho : o.op = .load 23 x) (h : Rws B w0 w L) (hx : a.eval x = .pointer (some ⟨g, 0, none⟩)) (hm : (g, cs, 23) ∈ L) (hs : cs.size = 2)
    (hK : wpList Tryz.prog ops Q rest (a.put o.dst (.agg cs)) w) : wpList Tryz.prog ops Q (o :: rest) a w :=
  wpList_load_rws hgd _ x ho h g hx cs _ hm _ Tryz.underlying23 rfl (key_info hs) hK
theorem wK_store {x y : Operand} {g : Nat} {cs new : Array Value} {L' : List (Nat × Array Value × TypeId)} (hgd : o.guard = none) (ho : o.op = .store 23 x y) (h : Rws B w0 w L) (hx : a.eval x = .pointer (some ⟨g, 0, none⟩)) (hy : a.eval y = .agg new) (hm : Pick L (g, cs, 23) L') (hs : cs.size = 2) (hn : new.size = 2) (h1 : new.all (·.oneCell') = true)
    (hK : ∀ w', Rws B w0 w' ((g, new, 23) :: L') → wpList Tryz.prog ops Q rest (a.put o.dst undef) w') : wpList Tryz.prog ops Q (o :: rest) a w :=
  wpList_store_rws hgd _ x y ho h g hx new hy cs _ L' hm (key_info hn) (hs.trans hn.symm) h1 hK
theorem wK_end {fn : Func} {R : Ending → World → Prop} {p : Tmp} {g : Nat} {cs : Array Value} (hf : fn.results = #[.cell p 23]) (h : Rws B w0 w L) (hp : a.tmps.getD p undef = .pointer (some ⟨g, 0, none⟩)) (hm : (g, cs, 23) ∈ L) (hs : cs.size = 2)
    (hdef : a.defers = []) (hR : Below B w0 w → R (.returned (.agg cs)) w) : bodyPost Tryz.prog fn R .ret a w :=
  bodyPost_rws hf h g hp cs _ hm _ Tryz.underlying23 rfl (key_info hs) hdef hR
variable {l : List Oper} {n : Nat} {Q' : Act → Prop}
theorem cK_f0 {x : Operand} {g : Nat} (ho : o.op = .fieldAddr 23 x 0) (hx : a.eval x = .pointer (some ⟨g, 0, none⟩)) (h : lexC Tryz.prog B w0 L S ops Q' n l (a.put o.dst (.pointer (some ⟨g, 0, none⟩)))) (hwt : Region.wanted o (yielded ops a.tmps) = true := by rfl) : lexC Tryz.prog B w0 L S ops Q' (n + 1) (o :: l) a :=
  lexC_field ho hx Tryz.underlying23 rfl ⟨0, str_info⟩ rfl h hwt
theorem cK_f1 {x : Operand} {g : Nat} (ho : o.op = .fieldAddr 23 x 1) (hx : a.eval x = .pointer (some ⟨g, 0, none⟩)) (h : lexC Tryz.prog B w0 L S ops Q' n l (a.put o.dst (.pointer (some ⟨g, 1, none⟩)))) (hwt : Region.wanted o (yielded ops a.tmps) = true := by rfl) : lexC Tryz.prog B w0 L S ops Q' (n + 1) (o :: l) a :=
  lexC_field ho hx Tryz.underlying23 rfl ⟨0, str_info⟩ rfl h hwt
theorem cK_s0 {x : Operand} {g : Nat} {kx ky : ByteArray} (ho : o.op = .load 9 x) (hx : a.eval x = .pointer (some ⟨g, 0, none⟩)) (hm : (g, kvc kx ky, 23) ∈ L) (h : lexC Tryz.prog B w0 L S ops Q' n l (a.put o.dst (.string kx))) (hwt : Region.wanted o (yielded ops a.tmps) = true := by rfl) : lexC Tryz.prog B w0 L S ops Q' (n + 1) (o :: l) a :=
  lexC_word ho hx hm rfl isAgg_str h hwt
theorem cK_s1 {x : Operand} {g : Nat} {kx ky : ByteArray} (ho : o.op = .load 9 x) (hx : a.eval x = .pointer (some ⟨g, 1, none⟩)) (hm : (g, kvc kx ky, 23) ∈ L) (h : lexC Tryz.prog B w0 L S ops Q' n l (a.put o.dst (.string ky))) (hwt : Region.wanted o (yielded ops a.tmps) = true := by rfl) : lexC Tryz.prog B w0 L S ops Q' (n + 1) (o :: l) a :=
  lexC_word ho hx hm rfl isAgg_str h hwt
theorem cN_eq {x y : Operand} {r : TypeId} {p q : Nat} {b : Bool} (ho : o.op = .binOp .eql 53 x y r) (hx : a.eval x = .agg (nmc p)) (hy : a.eval y = .agg (nmc q)) (hp : p < 115792089237316195423570985008687907853269984665640564039457584007913129639936) (hq : q < 115792089237316195423570985008687907853269984665640564039457584007913129639936) (hb : decide (p = q) = b)
    (h : lexC Tryz.prog B w0 L S ops Q' n l (a.put o.dst (.bool b))) (hwt : Region.wanted o (yielded ops a.tmps) = true := by rfl) : lexC Tryz.prog B w0 L S ops Q' (n + 1) (o :: l) a :=
  lexC_val (fun w => by
    have h1 : (eqGuard .eql 53 x y (.agg (nmc p)) (.agg (nmc q))).run Tryz.prog w = .ok () w := run_eqGuard_agg w _ _ _ _ _ _ (by kernel_rfl)
    have h2 : (binOp .eql 53 (.agg (nmc p)) (.agg (nmc q))).run Tryz.prog w = .ok (.bool b) w := by
      rw [run_eql_struct, eq_num p q hp hq w, ← hb]; rfl
    unfold execOp
    simp only [ho, hx, hy]
    simp only [Sem.run_bind, h1, h2, Result.andThen_ok, Sem.run_pure]) h hwt (by rw [ho]; rfl)
theorem c_pickT {c x y : Operand} {v : Value} (ho : o.op = .pick c x y) (hc : a.eval c = .bool true) (hx : a.eval x = v) (h : lexC Tryz.prog B w0 L S ops Q' n l (a.put o.dst v)) (hwt : Region.wanted o (yielded ops a.tmps) = true := by rfl) : lexC Tryz.prog B w0 L S ops Q' (n + 1) (o :: l) a :=
  lexC_val (fun w => by
    unfold execOp
    simp only [ho, hc, hx]
    simp [asBool]) h hwt (by rw [ho]; rfl)
theorem c_pickF {c x y : Operand} {v : Value} (ho : o.op = .pick c x y) (hc : a.eval c = .bool false) (hy : a.eval y = v) (h : lexC Tryz.prog B w0 L S ops Q' n l (a.put o.dst v)) (hwt : Region.wanted o (yielded ops a.tmps) = true := by rfl) : lexC Tryz.prog B w0 L S ops Q' (n + 1) (o :: l) a :=
  lexC_val (fun w => by
    unfold execOp
    simp only [ho, hc, hy]
    simp [asBool]) h hwt (by rw [ho]; rfl)
end
/-! ### over the field, of whatever numbers -/
def toF (v : Nat) : Ec.F := Fin.ofNat Ec.P v
theorem toF_val (v : Nat) : (toF v).val = v % Ec.P := rfl
theorem toF_of (a : Ec.F) : toF a.val = a := Fin.ext (by rw [toF_val]; exact Nat.mod_eq_of_lt a.isLt)
theorem nmc_toF {v : Nat} (h : v < Ec.P) : nmc v = fv (toF v) := by unfold fv; rw [toF_val, Nat.mod_eq_of_lt h]
theorem gmul (a b : Nat) (ha : a < 115792089237316195423570985008687907853269984665640564039457584007913129639936) (hb : b < 115792089237316195423570985008687907853269984665640564039457584007913129639936) (w : World) : Calls Tryz.prog 72 #[.agg (nmc a), .agg (nmc b)] w fun x w' => x = .returned (.agg (fv (toF a * toF b))) ∧ Below w.heap.size w w' := by
  have h := emul_any a b ha hb w
  have e : a * b % Ec.P = (toF a * toF b).val := by rw [Fin.val_mul, toF_val, toF_val, ← Nat.mul_mod]
  rw [e] at h
  exact h
def onK (x y : Nat) : Prop := x < Ec.P ∧ y < Ec.P ∧ toF y * toF y = toF x * (toF x * toF x) - 3 * toF x + Ec.cb
instance (x y : Nat) : Decidable (onK x y) := by unfold onK; exact inferInstance
def inK (kx ky : ByteArray) : Option (Ec.Pt Ec.P) :=
  if kx.size = 0 ∧ ky.size = 0 then some .inf
  else if kx.size = 32 ∧ ky.size = 32 ∧ onK (nv kx) (nv ky) then some (.at (toF (nv kx)) (toF (nv ky))) else none
theorem inK_on {kx ky : ByteArray} {A : Ec.Pt Ec.P} (h : inK kx ky = some A) : A.on Ec.cb := by
  unfold inK at h
  split at h
  · rw [← Option.some.inj h]; trivial
  · split at h
    · rename_i hk
      rw [← Option.some.inj h]
      exact hk.2.2.2.2
    · cases h
end Go.Proofs.YtaggpodckafbgaaGreatDoor
