/- key: a point under way as a key; Base, Order. -/
import Derived.Test.YtaggpodckafbgaaGreatDoorZP0
import Derived.Test.YtaggpodckafbgaaGreatDoorZA0
namespace Go.Proofs.YtaggpodckafbgaaGreatDoor
open Go.RowKit
def outK : Ec.Pt Ec.P → ByteArray × ByteArray
  | .inf => (⟨#[]⟩, ⟨#[]⟩)
  | .at x y => (⟨(pb x.val 32).toArray⟩, ⟨(pb y.val 32).toArray⟩)
theorem finv (a : Ec.F) (w : World) : Calls Tryz.prog 47 #[.int .i64 0, .agg (fv a)] w fun x w' => x = .returned (.tuple #[.agg (fv (if a = 0 then 0 else Ec.inv a)), .bool (decide (a ≠ 0))]) ∧ Below w.heap.size w w' := by
  have h := einv_any 0 a.val w (F_lt a)
  have e0 : pp 0 = Ec.P := if_pos rfl
  rw [e0, Nat.mod_eq_of_lt a.isLt] at h
  have e1 : decide (a.val ≠ 0) = decide (a ≠ 0) := decide_eq_decide.2 ⟨fun h e => h (by rw [e]; rfl), fun h e => h (Fin.ext e)⟩
  have e2 : nm (if a.val = 0 then 0 else a.val ^ (Ec.P - 2) % Ec.P) = .agg (fv (if a = 0 then 0 else Ec.inv a)) := by
    by_cases h0 : a = 0
    · rw [if_pos h0, if_pos (by rw [h0]; rfl)]; rfl
    · rw [if_neg h0, if_neg (fun (e : a.val = 0) => h0 (Fin.ext e))]; rfl
  rw [e1, e2] at h
  exact h
theorem fbytes (a : Ec.F) (w : World) : Calls Tryz.prog 57 #[.agg (fv a)] w fun e w' => e = .returned (.string ⟨(pb a.val 32).toArray⟩) ∧ Below w.heap.size w w' := bytes_any a.val (F_lt a) w
set_option maxRecDepth 100000 in
theorem key_far (j : Ec.Jac Ec.P) (w : World) (h0 : j.z = 0) : Calls Tryz.prog 33 #[.agg (jv j)] w fun e w' => e = .returned (.agg zkey) ∧ Below w.heap.size w w' := by
  have h1 := fun w => finv j.z w
  rw [if_pos h0, decide_eq_false (fun h => h h0)] at h1
  have H1 := Lib.hid h1
  clear h1 h0
  have hR0 := Rws.start w
  go_enter Tryz.func33, Tryz.ntmps33
  go_wp2_with (first
    | (refine wP_box rfl (by rfl) (by assumption) rfl ?_; intro gp w1 hR)
    | (refine wK_alloc rfl (by rfl) (by assumption) ?_; intro gr w1 hR)
    | (refine wP_lz rfl (by rfl) (by assumption) rfl (by repeat (first | exact pzH | refine pzM ?_)) ?_)
    | (refine wB_build (xs := []) (cs := zkey) rfl (by rfl) (by exact built_key0) ?_)
    | (refine wK_store rfl (by rfl) (by assumption) rfl rfl (by repeat (first | exact Pick.here | apply Pick.there)) (by rfl) (by rfl) (by exact kvc_cells _ _) ?_; intro w1 hR)
    | (refine wN_box rfl (by rfl) (by assumption) rfl ?_; intro g w1 hR) | (refine wN_alloc rfl (by rfl) (by assumption) ?_; intro g w1 hR) | (refine wN_load rfl (by rfl) (by assumption) rfl (by repeat (first | exact pzH | refine pzM ?_)) rfl ?_) | (refine wN_store rfl (by rfl) (by assumption) rfl rfl (by repeat (first | exact Pick.here | apply Pick.there)) rfl rfl (by first | exact nmc_cells _ | simp [Value.oneCell']) ?_; intro w1 hR)
    | (go_at_call 47; refine (H1.out _).mono ?_; rintro e w1 ⟨rfl, hb1⟩; have hR := Rws.call (by assumption) hb1))
  exact wK_end Tryz.results33 (by assumption) rfl (List.Mem.head _) rfl rfl fun hb => ⟨rfl, hb⟩
set_option maxRecDepth 100000 in
set_option maxHeartbeats 1600000 in
theorem key_at (j : Ec.Jac Ec.P) (w : World) (h0 : j.z ≠ 0) : Calls Tryz.prog 33 #[.agg (jv j)] w fun e w' => e = .returned (.agg (kvc ⟨(pb (j.x * (Ec.inv j.z * Ec.inv j.z)).val 32).toArray⟩ ⟨(pb (j.y * (Ec.inv j.z * Ec.inv j.z * Ec.inv j.z)).val 32).toArray⟩)) ∧ Below w.heap.size w w' := by
  have h1 := fun w => finv j.z w
  rw [if_neg h0, decide_eq_true h0] at h1
  obtain ⟨i, hi⟩ : ∃ i, i = Ec.inv j.z := ⟨_, rfl⟩
  rw [← hi] at h1 ⊢
  obtain ⟨ii, hii⟩ : ∃ v, v = i * i := ⟨_, rfl⟩
  obtain ⟨x, hx⟩ : ∃ v, v = j.x * ii := ⟨_, rfl⟩
  obtain ⟨i3, hi3⟩ : ∃ v, v = ii * i := ⟨_, rfl⟩
  obtain ⟨y, hy⟩ : ∃ v, v = j.y * i3 := ⟨_, rfl⟩
  rw [← hii, ← hi3, ← hx, ← hy]
  have H1 := Lib.hid h1
  have Hii := Lib.hid (show ∀ w : World, Calls Tryz.prog 72 #[.agg (fv i), .agg (fv i)] w fun e w' => e = .returned (.agg (fv ii)) ∧ Below w.heap.size w w' from fun w => by rw [hii]; exact fmul _ _ w)
  have Hx := Lib.hid (show ∀ w : World, Calls Tryz.prog 72 #[.agg (fv j.x), .agg (fv ii)] w fun e w' => e = .returned (.agg (fv x)) ∧ Below w.heap.size w w' from fun w => by rw [hx]; exact fmul _ _ w)
  have Hi3 := Lib.hid (show ∀ w : World, Calls Tryz.prog 72 #[.agg (fv ii), .agg (fv i)] w fun e w' => e = .returned (.agg (fv i3)) ∧ Below w.heap.size w w' from fun w => by rw [hi3]; exact fmul _ _ w)
  have Hy := Lib.hid (show ∀ w : World, Calls Tryz.prog 72 #[.agg (fv j.y), .agg (fv i3)] w fun e w' => e = .returned (.agg (fv y)) ∧ Below w.heap.size w w' from fun w => by rw [hy]; exact fmul _ _ w)
  have Hbx := Lib.hid (fun w => fbytes x w)
  have Hby := Lib.hid (fun w => fbytes y w)
  generalize (⟨(pb x.val 32).toArray⟩ : ByteArray) = sx at *
  generalize (⟨(pb y.val 32).toArray⟩ : ByteArray) = sy at *
  clear h1 h0 hi hii hx hi3 hy
  have hR0 := Rws.start w
  go_enter Tryz.func33, Tryz.ntmps33
  go_upto_region 5 with (first
    | (refine wP_box rfl (by rfl) (by assumption) rfl ?_; intro gp w1 hR)
    | (refine wK_alloc rfl (by rfl) (by assumption) ?_; intro gr w1 hR)
    | (refine wP_lz rfl (by rfl) (by assumption) rfl (by repeat (first | exact pzH | refine pzM ?_)) ?_)
    | (refine wN_box rfl (by rfl) (by assumption) rfl ?_; intro g w1 hR) | (refine wN_alloc rfl (by rfl) (by assumption) ?_; intro g w1 hR) | (refine wN_load rfl (by rfl) (by assumption) rfl (by repeat (first | exact pzH | refine pzM ?_)) rfl ?_) | (refine wN_store rfl (by rfl) (by assumption) rfl rfl (by repeat (first | exact Pick.here | apply Pick.there)) rfl rfl (by first | exact nmc_cells _ | simp [Value.oneCell']) ?_; intro w1 hR)
    | (go_at_call 47; refine (H1.out _).mono ?_; rintro e w1 ⟨rfl, hb1⟩; have hR := Rws.call (by assumption) hb1)
    | (go_at_call 72; refine (Hii.out _).mono ?_; rintro e w1 ⟨rfl, hb1⟩; have hR := Rws.call (by assumption) hb1))
  refine wp_region_calm 13 (by kernel_rfl) (by kernel_rfl) (by assumption) ?_
  repeat (first | (refine lexC_alloc (by rfl) ?_; simp only [Act.put, pzT, pzA, pzB]) | (refine cP_fx (by rfl) rfl ?_; simp only [Act.put, pzT, pzA, pzB]) | (refine cP_fy (by rfl) rfl ?_; simp only [Act.put, pzT, pzA, pzB]) | (refine cP_fz (by rfl) rfl ?_; simp only [Act.put, pzT, pzA, pzB]) | (refine cN_load (by rfl) rfl (by repeat (first | exact pzH | refine pzM ?_)) rfl ?_; simp only [Act.put, pzT, pzA, pzB]) | (refine cP_lx (by rfl) rfl (by repeat (first | exact pzH | refine pzM ?_)) ?_; simp only [Act.put, pzT, pzA, pzB]) | (refine cP_ly (by rfl) rfl (by repeat (first | exact pzH | refine pzM ?_)) ?_; simp only [Act.put, pzT, pzA, pzB]) | (refine cP_lz (by rfl) rfl (by repeat (first | exact pzH | refine pzM ?_)) ?_; simp only [Act.put, pzT, pzA, pzB]) | (refine lexC_move (by rfl) rfl ?_; simp only [Act.put, pzT, pzA, pzB]) | (refine lexC_assign (by rfl) rfl ?_; simp only [Act.put, pzT, pzA, pzB]))
  refine lexC_call rfl Tryz.func72 (by kernel_rfl) rfl rfl (fun w _ => Hx.out w) ?_
  simp only [Act.put, pzT, pzA, pzB]
  repeat (first | (refine lexC_alloc (by rfl) ?_; simp only [Act.put, pzT, pzA, pzB]) | (refine cP_fx (by rfl) rfl ?_; simp only [Act.put, pzT, pzA, pzB]) | (refine cP_fy (by rfl) rfl ?_; simp only [Act.put, pzT, pzA, pzB]) | (refine cP_fz (by rfl) rfl ?_; simp only [Act.put, pzT, pzA, pzB]) | (refine cN_load (by rfl) rfl (by repeat (first | exact pzH | refine pzM ?_)) rfl ?_; simp only [Act.put, pzT, pzA, pzB]) | (refine cP_lx (by rfl) rfl (by repeat (first | exact pzH | refine pzM ?_)) ?_; simp only [Act.put, pzT, pzA, pzB]) | (refine cP_ly (by rfl) rfl (by repeat (first | exact pzH | refine pzM ?_)) ?_; simp only [Act.put, pzT, pzA, pzB]) | (refine cP_lz (by rfl) rfl (by repeat (first | exact pzH | refine pzM ?_)) ?_; simp only [Act.put, pzT, pzA, pzB]) | (refine lexC_move (by rfl) rfl ?_; simp only [Act.put, pzT, pzA, pzB]) | (refine lexC_assign (by rfl) rfl ?_; simp only [Act.put, pzT, pzA, pzB]))
  refine lexC_call rfl Tryz.func57 (by kernel_rfl) rfl rfl (fun w _ => Hbx.out w) ?_
  simp only [Act.put, pzT, pzA, pzB]
  repeat (first | (refine lexC_alloc (by rfl) ?_; simp only [Act.put, pzT, pzA, pzB]) | (refine cP_fx (by rfl) rfl ?_; simp only [Act.put, pzT, pzA, pzB]) | (refine cP_fy (by rfl) rfl ?_; simp only [Act.put, pzT, pzA, pzB]) | (refine cP_fz (by rfl) rfl ?_; simp only [Act.put, pzT, pzA, pzB]) | (refine cN_load (by rfl) rfl (by repeat (first | exact pzH | refine pzM ?_)) rfl ?_; simp only [Act.put, pzT, pzA, pzB]) | (refine cP_lx (by rfl) rfl (by repeat (first | exact pzH | refine pzM ?_)) ?_; simp only [Act.put, pzT, pzA, pzB]) | (refine cP_ly (by rfl) rfl (by repeat (first | exact pzH | refine pzM ?_)) ?_; simp only [Act.put, pzT, pzA, pzB]) | (refine cP_lz (by rfl) rfl (by repeat (first | exact pzH | refine pzM ?_)) ?_; simp only [Act.put, pzT, pzA, pzB]) | (refine lexC_move (by rfl) rfl ?_; simp only [Act.put, pzT, pzA, pzB]) | (refine lexC_assign (by rfl) rfl ?_; simp only [Act.put, pzT, pzA, pzB]))
  refine lexC_call rfl Tryz.func72 (by kernel_rfl) rfl rfl (fun w _ => Hi3.out w) ?_
  simp only [Act.put, pzT, pzA, pzB]
  repeat (first | (refine lexC_alloc (by rfl) ?_; simp only [Act.put, pzT, pzA, pzB]) | (refine cP_fx (by rfl) rfl ?_; simp only [Act.put, pzT, pzA, pzB]) | (refine cP_fy (by rfl) rfl ?_; simp only [Act.put, pzT, pzA, pzB]) | (refine cP_fz (by rfl) rfl ?_; simp only [Act.put, pzT, pzA, pzB]) | (refine cN_load (by rfl) rfl (by repeat (first | exact pzH | refine pzM ?_)) rfl ?_; simp only [Act.put, pzT, pzA, pzB]) | (refine cP_lx (by rfl) rfl (by repeat (first | exact pzH | refine pzM ?_)) ?_; simp only [Act.put, pzT, pzA, pzB]) | (refine cP_ly (by rfl) rfl (by repeat (first | exact pzH | refine pzM ?_)) ?_; simp only [Act.put, pzT, pzA, pzB]) | (refine cP_lz (by rfl) rfl (by repeat (first | exact pzH | refine pzM ?_)) ?_; simp only [Act.put, pzT, pzA, pzB]) | (refine lexC_move (by rfl) rfl ?_; simp only [Act.put, pzT, pzA, pzB]) | (refine lexC_assign (by rfl) rfl ?_; simp only [Act.put, pzT, pzA, pzB]))
  refine lexC_call rfl Tryz.func72 (by kernel_rfl) rfl rfl (fun w _ => Hy.out w) ?_
  simp only [Act.put, pzT, pzA, pzB]
  repeat (first | (refine lexC_alloc (by rfl) ?_; simp only [Act.put, pzT, pzA, pzB]) | (refine cP_fx (by rfl) rfl ?_; simp only [Act.put, pzT, pzA, pzB]) | (refine cP_fy (by rfl) rfl ?_; simp only [Act.put, pzT, pzA, pzB]) | (refine cP_fz (by rfl) rfl ?_; simp only [Act.put, pzT, pzA, pzB]) | (refine cN_load (by rfl) rfl (by repeat (first | exact pzH | refine pzM ?_)) rfl ?_; simp only [Act.put, pzT, pzA, pzB]) | (refine cP_lx (by rfl) rfl (by repeat (first | exact pzH | refine pzM ?_)) ?_; simp only [Act.put, pzT, pzA, pzB]) | (refine cP_ly (by rfl) rfl (by repeat (first | exact pzH | refine pzM ?_)) ?_; simp only [Act.put, pzT, pzA, pzB]) | (refine cP_lz (by rfl) rfl (by repeat (first | exact pzH | refine pzM ?_)) ?_; simp only [Act.put, pzT, pzA, pzB]) | (refine lexC_move (by rfl) rfl ?_; simp only [Act.put, pzT, pzA, pzB]) | (refine lexC_assign (by rfl) rfl ?_; simp only [Act.put, pzT, pzA, pzB]))
  refine lexC_call rfl Tryz.func57 (by kernel_rfl) rfl rfl (fun w _ => Hby.out w) ?_
  simp only [Act.put, pzT, pzA, pzB]
  refine lexC_build (cs := kvc sx sy) (by rfl) (by kernel_rfl) ?_
  simp only [Act.put, pzT, pzA, pzB]
  refine lexC_zero ?_; simp only [pzC, pzD, pzE, pzF]; (repeat (first | (refine aN_cons (by rfl) ?_; intro g; simp only [Act.put, pzT, pzA, pzB]) | (refine afterAl_skip (by rfl) ?_))); refine afterAl_nil ?_; intro w1 hR
  go_wp2_with (refine wK_store rfl (by rfl) (by assumption) rfl rfl (by repeat (first | exact Pick.here | apply Pick.there)) (by rfl) (by rfl) (by exact kvc_cells _ _) ?_; intro w1 hR)
  exact wK_end Tryz.results33 (by assumption) rfl (List.Mem.head _) rfl rfl fun hb => ⟨rfl, hb⟩
theorem key_any (j : Ec.Jac Ec.P) (w : World) : Calls Tryz.prog 33 #[.agg (jv j)] w fun e w' => e = .returned (.agg (kvc (outK j.pt).1 (outK j.pt).2)) ∧ Below w.heap.size w w' := by
  by_cases h0 : j.z = 0
  · have e : j.pt = .inf := by unfold Ec.Jac.pt; rw [if_pos h0]
    rw [e]
    exact key_far j w h0
  · have e : j.pt = .at (j.x * (Ec.inv j.z * Ec.inv j.z)) (j.y * (Ec.inv j.z * Ec.inv j.z * Ec.inv j.z)) := by unfold Ec.Jac.pt; rw [if_neg h0]
    rw [e]
    exact key_at j w h0
theorem key_rep (j : Ec.Jac Ec.P) (A : Ec.Pt Ec.P) (h : Ec.Rep j A) (w : World) : Calls Tryz.prog 33 #[.agg (jv j)] w fun e w' => e = .returned (.agg (kvc (outK A).1 (outK A).2)) ∧ Below w.heap.size w w' := by
  have e : j.pt = A := Ec.Rep.uniq Ec.hP (Ec.Rep.pt Ec.hP j) h
  rw [← e]
  exact key_any j w
theorem wC_call {P : Program} {B : Nat} {w0 w : World} {L : List (Nat × Array Value × TypeId)} {ops : Array Oper} {rest : List Oper} {a : Act} {Q : Exit → Act → World → Prop} {o : Oper} {f : FuncId} {xs : List Operand} {ats : Array TypeId} {fn : Func} {c : Code} {ys : List Value} {v : Value}
    (hgd : o.guard = none) (ho : o.op = .call { callee := .value (.func f), args := xs.toArray, argTypes := ats }) (hR : Rws B w0 w L) (hf : P.funcs[f]? = some fn) (hname : (fn.name == "runtime.NumGoroutine") = false) (hb : fn.body = some c)
    (hx : xs.map a.eval = ys) (hc : Calls P f ys.toArray w fun e w' => e = .returned v ∧ Below w.heap.size w w') (hK : ∀ w', Rws B w0 w' L → wpList P ops Q rest (a.put o.dst v) w') : wpList P ops Q (o :: rest) a w :=
  wpList_plain hgd fun K hKK => by
    have h1 : fn.name ≠ "runtime.NumGoroutine" := by simpa using hname
    have e : execOp a.eval o = callFunc f ys.toArray := by
      unfold execOp
      simp only [ho]
      show callFunc f (#[] ++ xs.toArray.map a.eval ++ #[]) = _
      rw [← hx]
      simp
    have h2 : (callFunc f ys.toArray).run P w = .ok (.enter f ys.toArray) w := by simp [callFunc, hf, h1, hb]
    unfold Oper.wp
    rw [e, h2]
    exact hc.mono fun e w' ⟨he, hb⟩ => by subst he; exact hKK _ _ (hK _ (hR.call hb))
set_option maxRecDepth 100000 in
theorem base_core (AX AY : Array Value) (sx sy : ByteArray) (w : World) (hAX : AX = #[.int .u64 17627433388654248598, .int .u64 8575836109218198432, .int .u64 17923454489921339634, .int .u64 7716867327612699207]) (hAY : AY = #[.int .u64 14678990851816772085, .int .u64 3156516839386865358, .int .u64 10297457778147434006, .int .u64 5756518291402817435])
    (hbx : ∀ w : World, Calls Tryz.prog 57 #[.agg AX] w fun e w' => e = .returned (.string sx) ∧ Below w.heap.size w w')
    (hby : ∀ w : World, Calls Tryz.prog 57 #[.agg AY] w fun e w' => e = .returned (.string sy) ∧ Below w.heap.size w w') :
    Calls Tryz.prog 41 #[] w fun e w' => e = .returned (.agg (kvc sx sy)) ∧ Below w.heap.size w w' := by
  have Hbx := Lib.hid hbx; have Hby := Lib.hid hby; have HAX := Lib.hid hAX; have HAY := Lib.hid hAY
  clear hbx hby hAX hAY
  have hR0 := Rws.start w
  go_enter Tryz.func41, Tryz.ntmps41
  go_upto_region 1 with (refine wK_alloc rfl (by rfl) (by assumption) ?_; intro gr w1 hR)
  refine wp_region_lit ?_
  refine wB_build (cs := AX) rfl (by rfl) (by rw [HAX.out]; kernel_rfl) ?_
  simp only [Act.put, pzT, pzA, pzB]
  refine wC_call (xs := [.tmp 1]) (ys := [.agg AX]) rfl (by rfl) hR Tryz.func57 (by kernel_rfl) rfl (by rfl) (Hbx.out _) ?_
  intro w2 hR2
  simp only [Act.put, pzT, pzA, pzB]
  refine wB_build (cs := AY) rfl (by rfl) (by rw [HAY.out]; kernel_rfl) ?_
  simp only [Act.put, pzT, pzA, pzB]
  refine wC_call (xs := [.tmp 3]) (ys := [.agg AY]) rfl (by rfl) hR2 Tryz.func57 (by kernel_rfl) rfl (by rfl) (Hby.out _) ?_
  intro w3 hR3
  simp only [Act.put, pzT, pzA, pzB]
  refine wB_build (cs := kvc sx sy) rfl (by rfl) (by kernel_rfl) ?_
  simp only [Act.put, pzT, pzA, pzB]
  go_wp2_with (refine wK_store rfl (by rfl) (by assumption) rfl rfl (by repeat (first | exact Pick.here | apply Pick.there)) (by rfl) (by rfl) (by exact kvc_cells _ _) ?_; intro w1 hR)
  exact wK_end Tryz.results41 (by assumption) rfl (List.Mem.head _) rfl rfl fun hb => ⟨rfl, hb⟩
theorem fv_gx : fv Ec.gx = #[.int .u64 17627433388654248598, .int .u64 8575836109218198432, .int .u64 17923454489921339634, .int .u64 7716867327612699207] := rfl
theorem fv_gy : fv Ec.gy = #[.int .u64 14678990851816772085, .int .u64 3156516839386865358, .int .u64 10297457778147434006, .int .u64 5756518291402817435] := rfl
theorem base_any (w : World) : Calls Tryz.prog 41 #[] w fun e w' => e = .returned (.agg (kvc (outK Ec.G).1 (outK Ec.G).2)) ∧ Below w.heap.size w w' :=
  base_core (fv Ec.gx) (fv Ec.gy) _ _ w fv_gx fv_gy (fun w => fbytes Ec.gx w) (fun w => fbytes Ec.gy w)
set_option maxRecDepth 100000 in
theorem order_any (w : World) : Calls Tryz.prog 21 #[] w fun e w' => e = .returned (.string ⟨(pb Ec.N 32).toArray⟩) ∧ Below w.heap.size w w' := by
  have Hm := Lib.hid (show ∀ w : World, Calls Tryz.prog 49 #[.int .i64 1] w fun e w' => e = .returned (.agg (nmc Ec.N)) ∧ Below w.heap.size w w' from fun w => modulus_any 1 w)
  have Hb := Lib.hid (show ∀ w : World, Calls Tryz.prog 57 #[.agg (nmc Ec.N)] w fun e w' => e = .returned (.string ⟨(pb Ec.N 32).toArray⟩) ∧ Below w.heap.size w w' from fun w => bytes_any Ec.N (by decide) w)
  generalize (⟨(pb Ec.N 32).toArray⟩ : ByteArray) = sx at *
  go_enter Tryz.func21, Tryz.ntmps21
  go_wp2_with (first
    | (go_at_call 49; refine (Hm.out _).mono ?_; rintro e w1 ⟨rfl, hb1⟩)
    | (go_at_call 57; refine (Hb.out _).mono ?_; rintro e w2 ⟨rfl, hb2⟩))
  go_ret
  exact ⟨rfl, hb1.trans (hb2.mono hb1.size)⟩
end Go.Proofs.YtaggpodckafbgaaGreatDoor
