/- PolicyLogic: the law's walk. -/
import Derived.Test.YthpagppipifgeaaGreatDoorLLogicC
import Derived.Test.YthpagppipifgeaaGreatDoorLFixed
import Derived.Test.YthpagppipifgeaaGreatDoorLGSteps
import Derived.Deep.RegionHeld3
namespace Go.Proofs.YthpagppipifgeaaGreatDoor.policyLogic
open Go.RowKit

def AtB (w3 : World) (u : Value) : Prd := fun w v => v = u ∧ Below w3.heap.size w3 w
theorem stb_atb (w3 : World) (u : Value) : Stb (AtB w3 u) := fun _ _ _ hb ⟨h1, h2⟩ => ⟨h1, b_trans h2 hb⟩
def PVp (k : Int) (l : Nat) (F : Fo) : Prd := fun w v => ∃ ad c, v = pv k 0 e0 e0 ad l c ∧ SlF w F ad c
theorem stb_pvp (k : Int) (l : Nat) (F : Fo) : Stb (PVp k l F) := fun _ _ _ hb ⟨ad, c, h1, h2⟩ => ⟨ad, c, h1, h2.grown hb⟩
/-- What a call answers is such; nothing that was there has changed. -/
def RP (R : Prd) (w : World) : Ending → World → Prop := fun en w' => ∃ v, en = .returned v ∧ R w' v ∧ Below w.heap.size w w'
theorem rp_n {k : Int} {l : Nat} {F : Fo} {w : World} {e : Ending} {w' : World} (h : NRet k l F w e w') : RP (PVp k l F) w e w' := by
  obtain ⟨⟨ad, c, rfl, hs⟩, hb⟩ := h
  exact ⟨_, rfl, ⟨ad, c, rfl, hs⟩, hb⟩
theorem rp_b {b : Bool} {w : World} {e : Ending} {w' : World} (h : RetB b w e w') : RP (Is (.bool b)) w e w' := by
  obtain ⟨rfl, hb⟩ := h
  exact ⟨_, rfl, rfl, hb⟩
theorem pol_info : (Tryz.prog.info? 24).map (·.size) = some 5 := by kernel_rfl
section
variable {B : Nat} {w0 ws : World} {L : List (Nat × Array Value × TypeId)} {full : List Oper} {a0 : Act} {K : Act → World → Prop} {n : Nat} {l : List Oper} {o : Oper} {Γ : Env}
theorem g_build0 (ho : o.op = .build 24 #[])
    (h : softG Tryz.prog B w0 ws L full a0 K n l ((o.dst, Is (pv 0 0 e0 e0 none 0 0)) :: Γ)) (hlv : Live full ws a0 Γ o := by first | exact Or.inl rfl | exact live_of rfl rfl (fun _ _ _ h => h)) : softG Tryz.prog B w0 ws L full a0 K (n + 1) (o :: l) Γ :=
  g_any (stb_is _) (fun w e _ _ _ => by
    have h1 : (Instr.build 24 ((#[] : Array (Nat × Operand)).map fun p => (p.1, e p.2))).run Tryz.prog w = .ok (.agg zP) w := run_build w 24 _ zP (by kernel_rfl)
    unfold execOp
    simp only [ho]
    rw [Sem.run_bind, h1]
    exact ⟨rfl, Below.refl _ _⟩) h hlv
end
theorem fac_info : (Tryz.prog.info? 27).map (·.size) = some 4 := by kernel_rfl

set_option maxRecDepth 100000 in
set_option maxHeartbeats 8000000 in
theorem law_any (k1 o1 : Int) (n1 t1 : ByteArray) (a1 : Option Addr) (c1 : Nat) (F1 : Fo) (k2 o2 : Int) (n2 t2 : ByteArray) (a2 : Option Addr) (c2 : Nat) (F2 : Fo) (x : Fx) (w : World) (hn1 : n1.size ≤ SB) (ht1 : t1.size ≤ SB) (_ : F1.len ≤ LB) (_ : F1.lens LB) (hs1 : SlF w F1 a1 c1) (hk1 : F1.cnt ≤ 174763)
    (hn2 : n2.size ≤ SB) (ht2 : t2.size ≤ SB) (_ : F2.len ≤ LB) (_ : F2.lens LB) (hs2 : SlF w F2 a2 c2) (hk2 : F2.cnt ≤ 174763) (hx : FxAt w x) :
    Calls Tryz.prog 6 #[pv k1 o1 n1 t1 a1 F1.len c1, pv k2 o2 n2 t2 a2 F2.len c2, x.v] w (RetB true w) := by
  have hR := Rws.start w
  have hz0 : e0.size ≤ SB := by decide
  have hzz : holdsP x 0 0 e0 e0 .nil = true := by unfold holdsP; rw [chk1]; rfl
  go_enter Tryz.func6, Tryz.ntmps6
  go_upto_region 4 with (first
    | (refine wpList_box_rws rfl _ _ (by rfl) (by assumption) #[.int .i64 k1, .int .i64 o1, .string n1, .string t1, .slice a1 F1.len c1] rfl ?_; intro gp w1 hR)
    | (refine wpList_box_rws rfl _ _ (by rfl) (by assumption) #[.int .i64 k2, .int .i64 o2, .string n2, .string t2, .slice a2 F2.len c2] rfl ?_; intro gq w2 hR)
    | (refine wpList_box_rws rfl _ _ (by rfl) (by assumption) #[.string x.m, .string x.p, .slice x.a1 x.cl.length x.c1, .slice x.a2 x.ce.length x.c2] rfl ?_; intro gf w3 hR))
  have hB3 := hR.below
  have HN1 : Hid (∀ u, Below w3.heap.size w3 u → Calls Tryz.prog 19 #[pv k1 o1 n1 t1 a1 F1.len c1] u (NRet 1 1 (Fo.cons k1 o1 n1 t1 F1 .nil) u)) := Lib.hid (fun u hb => not_any k1 o1 n1 t1 F1 a1 c1 u hn1 ht1 (hs1.grown (hB3.trans (hb.mono hB3.size))))
  have HN2 : Hid (∀ u, Below w3.heap.size w3 u → Calls Tryz.prog 19 #[pv k2 o2 n2 t2 a2 F2.len c2] u (NRet 1 1 (Fo.cons k2 o2 n2 t2 F2 .nil) u)) := Lib.hid (fun u hb => not_any k2 o2 n2 t2 F2 a2 c2 u hn2 ht2 (hs2.grown (hB3.trans (hb.mono hB3.size))))
  have HG1 : Hid (∀ u a c, SlF u (Fo.cons k1 o1 n1 t1 F1 .nil) a c → Calls Tryz.prog 19 #[pv 1 0 e0 e0 a 1 c] u (NRet 1 1 (Fo.cons 1 0 e0 e0 (Fo.cons k1 o1 n1 t1 F1 .nil) .nil) u)) := Lib.hid (fun u a c s => not_any 1 0 e0 e0 (Fo.cons k1 o1 n1 t1 F1 .nil) a c u hz0 hz0 s)
  have HG2 : Hid (∀ u a c, SlF u (Fo.cons k2 o2 n2 t2 F2 .nil) a c → Calls Tryz.prog 19 #[pv 1 0 e0 e0 a 1 c] u (NRet 1 1 (Fo.cons 1 0 e0 e0 (Fo.cons k2 o2 n2 t2 F2 .nil) .nil) u)) := Lib.hid (fun u a c s => not_any 1 0 e0 e0 (Fo.cons k2 o2 n2 t2 F2 .nil) a c u hz0 hz0 s)
  have HM : Hid (∀ u a c, SlF u (Fo.cons k1 o1 n1 t1 F1 (.cons k2 o2 n2 t2 F2 .nil)) a c → Calls Tryz.prog 19 #[pv 2 0 e0 e0 a 2 c] u (NRet 1 1 (Fo.cons 2 0 e0 e0 (Fo.cons k1 o1 n1 t1 F1 (.cons k2 o2 n2 t2 F2 .nil)) .nil) u)) := Lib.hid (fun u a c s => not_any 2 0 e0 e0 (Fo.cons k1 o1 n1 t1 F1 (.cons k2 o2 n2 t2 F2 .nil)) a c u hz0 hz0 s)
  have HO : Hid (∀ u a c a' c', SlF u (Fo.cons 1 0 e0 e0 (Fo.cons k1 o1 n1 t1 F1 .nil) .nil) a c → SlF u (Fo.cons 1 0 e0 e0 (Fo.cons k2 o2 n2 t2 F2 .nil) .nil) a' c' → Calls Tryz.prog 21 #[pv 1 0 e0 e0 a 1 c, pv 1 0 e0 e0 a' 1 c'] u (NRet 3 2 (Fo.cons 1 0 e0 e0 (Fo.cons 1 0 e0 e0 (Fo.cons k1 o1 n1 t1 F1 .nil) .nil) (.cons 1 0 e0 e0 (Fo.cons 1 0 e0 e0 (Fo.cons k2 o2 n2 t2 F2 .nil) .nil) .nil)) u)) := Lib.hid (fun u a c a' c' s s' => or_any 1 0 e0 e0 (Fo.cons 1 0 e0 e0 (Fo.cons k1 o1 n1 t1 F1 .nil) .nil) a c 1 0 e0 e0 (Fo.cons 1 0 e0 e0 (Fo.cons k2 o2 n2 t2 F2 .nil) .nil) a' c' u hz0 hz0 s hz0 hz0 s')
  have HOR : Hid (∀ u a c a' c', SlF u (Fo.cons k1 o1 n1 t1 F1 .nil) a c → SlF u (Fo.cons k2 o2 n2 t2 F2 .nil) a' c' → Calls Tryz.prog 21 #[pv 1 0 e0 e0 a 1 c, pv 1 0 e0 e0 a' 1 c'] u (NRet 3 2 (Fo.cons 1 0 e0 e0 (Fo.cons k1 o1 n1 t1 F1 .nil) (.cons 1 0 e0 e0 (Fo.cons k2 o2 n2 t2 F2 .nil) .nil)) u)) := Lib.hid (fun u a c a' c' s s' => or_any 1 0 e0 e0 (Fo.cons k1 o1 n1 t1 F1 .nil) a c 1 0 e0 e0 (Fo.cons k2 o2 n2 t2 F2 .nil) a' c' u hz0 hz0 s hz0 hz0 s')
  have HA1 : Hid (∀ u, Below w3.heap.size w3 u → Calls Tryz.prog 20 #[pv k1 o1 n1 t1 a1 F1.len c1, pv k2 o2 n2 t2 a2 F2.len c2] u (NRet 2 2 (Fo.cons k1 o1 n1 t1 F1 (.cons k2 o2 n2 t2 F2 .nil)) u)) := Lib.hid (fun u hb => and_any k1 o1 n1 t1 F1 a1 c1 k2 o2 n2 t2 F2 a2 c2 u hn1 ht1 (hs1.grown (hB3.trans (hb.mono hB3.size))) hn2 ht2 (hs2.grown (hB3.trans (hb.mono hB3.size))))
  have HO1 : Hid (∀ u, Below w3.heap.size w3 u → Calls Tryz.prog 21 #[pv k1 o1 n1 t1 a1 F1.len c1, pv k2 o2 n2 t2 a2 F2.len c2] u (NRet 3 2 (Fo.cons k1 o1 n1 t1 F1 (.cons k2 o2 n2 t2 F2 .nil)) u)) := Lib.hid (fun u hb => or_any k1 o1 n1 t1 F1 a1 c1 k2 o2 n2 t2 F2 a2 c2 u hn1 ht1 (hs1.grown (hB3.trans (hb.mono hB3.size))) hn2 ht2 (hs2.grown (hB3.trans (hb.mono hB3.size))))
  have HA2 : Hid (∀ u, Below w3.heap.size w3 u → Calls Tryz.prog 20 #[pv k2 o2 n2 t2 a2 F2.len c2, pv k1 o1 n1 t1 a1 F1.len c1] u (NRet 2 2 (Fo.cons k2 o2 n2 t2 F2 (.cons k1 o1 n1 t1 F1 .nil)) u)) := Lib.hid (fun u hb => and_any k2 o2 n2 t2 F2 a2 c2 k1 o1 n1 t1 F1 a1 c1 u hn2 ht2 (hs2.grown (hB3.trans (hb.mono hB3.size))) hn1 ht1 (hs1.grown (hB3.trans (hb.mono hB3.size))))
  have HO2 : Hid (∀ u, Below w3.heap.size w3 u → Calls Tryz.prog 21 #[pv k2 o2 n2 t2 a2 F2.len c2, pv k1 o1 n1 t1 a1 F1.len c1] u (NRet 3 2 (Fo.cons k2 o2 n2 t2 F2 (.cons k1 o1 n1 t1 F1 .nil)) u)) := Lib.hid (fun u hb => or_any k2 o2 n2 t2 F2 a2 c2 k1 o1 n1 t1 F1 a1 c1 u hn2 ht2 (hs2.grown (hB3.trans (hb.mono hB3.size))) hn1 ht1 (hs1.grown (hB3.trans (hb.mono hB3.size))))
  have HCB : Hid (∀ u a c, SlF u (Fo.cons 1 0 e0 e0 (Fo.cons 1 0 e0 e0 (Fo.cons k1 o1 n1 t1 F1 .nil) .nil) (.cons 1 0 e0 e0 (Fo.cons 1 0 e0 e0 (Fo.cons k2 o2 n2 t2 F2 .nil) .nil) .nil)) a c → Calls Tryz.prog 11 #[pv 3 0 e0 e0 a 2 c] u (RetI (chkP 3 0 e0 e0 (Fo.cons 1 0 e0 e0 (Fo.cons 1 0 e0 e0 (Fo.cons k1 o1 n1 t1 F1 .nil) .nil) (.cons 1 0 e0 e0 (Fo.cons 1 0 e0 e0 (Fo.cons k2 o2 n2 t2 F2 .nil) .nil) .nil))) u)) := Lib.hid (fun u a c s => Check_any 3 0 e0 e0 (Fo.cons 1 0 e0 e0 (Fo.cons 1 0 e0 e0 (Fo.cons k1 o1 n1 t1 F1 .nil) .nil) (.cons 1 0 e0 e0 (Fo.cons 1 0 e0 e0 (Fo.cons k2 o2 n2 t2 F2 .nil) .nil) .nil)) a c u hz0 hz0 s)
  have HCP : Hid (∀ u, Below w3.heap.size w3 u → Calls Tryz.prog 11 #[pv k1 o1 n1 t1 a1 F1.len c1] u (RetI (chkP k1 o1 n1 t1 F1) u)) := Lib.hid (fun u hb => Check_any k1 o1 n1 t1 F1 a1 c1 u hn1 ht1 (hs1.grown (hB3.trans (hb.mono hB3.size))))
  have HP : Hid (∀ u, Below w3.heap.size w3 u → Calls Tryz.prog 13 #[pv k1 o1 n1 t1 a1 F1.len c1, x.v] u (RetB (holdsP x k1 o1 n1 t1 F1) u)) := Lib.hid (fun u hb => Holds_any k1 o1 n1 t1 F1 a1 c1 x u hn1 ht1 (hs1.grown (hB3.trans (hb.mono hB3.size))) (hx.below (hB3.trans (hb.mono hB3.size)) (Nat.le_refl _)))
  have HQ : Hid (∀ u, Below w3.heap.size w3 u → Calls Tryz.prog 13 #[pv k2 o2 n2 t2 a2 F2.len c2, x.v] u (RetB (holdsP x k2 o2 n2 t2 F2) u)) := Lib.hid (fun u hb => Holds_any k2 o2 n2 t2 F2 a2 c2 x u hn2 ht2 (hs2.grown (hB3.trans (hb.mono hB3.size))) (hx.below (hB3.trans (hb.mono hB3.size)) (Nat.le_refl _)))
  have HHN : Hid (∀ u a c, Below w3.heap.size w3 u → SlF u (Fo.cons k1 o1 n1 t1 F1 .nil) a c → Calls Tryz.prog 13 #[pv 1 0 e0 e0 a 1 c, x.v] u (RetB (holdsP x 1 0 e0 e0 (Fo.cons k1 o1 n1 t1 F1 .nil)) u)) := Lib.hid (fun u a c hb s => Holds_any 1 0 e0 e0 (Fo.cons k1 o1 n1 t1 F1 .nil) a c x u hz0 hz0 s (hx.below (hB3.trans (hb.mono hB3.size)) (Nat.le_refl _)))
  have HHG : Hid (∀ u a c, Below w3.heap.size w3 u → SlF u (Fo.cons 1 0 e0 e0 (Fo.cons k1 o1 n1 t1 F1 .nil) .nil) a c → Calls Tryz.prog 13 #[pv 1 0 e0 e0 a 1 c, x.v] u (RetB (holdsP x 1 0 e0 e0 (Fo.cons 1 0 e0 e0 (Fo.cons k1 o1 n1 t1 F1 .nil) .nil)) u)) := Lib.hid (fun u a c hb s => Holds_any 1 0 e0 e0 (Fo.cons 1 0 e0 e0 (Fo.cons k1 o1 n1 t1 F1 .nil) .nil) a c x u hz0 hz0 s (hx.below (hB3.trans (hb.mono hB3.size)) (Nat.le_refl _)))
  have HHA : Hid (∀ u a c, Below w3.heap.size w3 u → SlF u (Fo.cons k1 o1 n1 t1 F1 (.cons k2 o2 n2 t2 F2 .nil)) a c → Calls Tryz.prog 13 #[pv 2 0 e0 e0 a 2 c, x.v] u (RetB (holdsP x 2 0 e0 e0 (Fo.cons k1 o1 n1 t1 F1 (.cons k2 o2 n2 t2 F2 .nil))) u)) := Lib.hid (fun u a c hb s => Holds_any 2 0 e0 e0 (Fo.cons k1 o1 n1 t1 F1 (.cons k2 o2 n2 t2 F2 .nil)) a c x u hz0 hz0 s (hx.below (hB3.trans (hb.mono hB3.size)) (Nat.le_refl _)))
  have HHO : Hid (∀ u a c, Below w3.heap.size w3 u → SlF u (Fo.cons k1 o1 n1 t1 F1 (.cons k2 o2 n2 t2 F2 .nil)) a c → Calls Tryz.prog 13 #[pv 3 0 e0 e0 a 2 c, x.v] u (RetB (holdsP x 3 0 e0 e0 (Fo.cons k1 o1 n1 t1 F1 (.cons k2 o2 n2 t2 F2 .nil))) u)) := Lib.hid (fun u a c hb s => Holds_any 3 0 e0 e0 (Fo.cons k1 o1 n1 t1 F1 (.cons k2 o2 n2 t2 F2 .nil)) a c x u hz0 hz0 s (hx.below (hB3.trans (hb.mono hB3.size)) (Nat.le_refl _)))
  have HHA2 : Hid (∀ u a c, Below w3.heap.size w3 u → SlF u (Fo.cons k2 o2 n2 t2 F2 (.cons k1 o1 n1 t1 F1 .nil)) a c → Calls Tryz.prog 13 #[pv 2 0 e0 e0 a 2 c, x.v] u (RetB (holdsP x 2 0 e0 e0 (Fo.cons k2 o2 n2 t2 F2 (.cons k1 o1 n1 t1 F1 .nil))) u)) := Lib.hid (fun u a c hb s => Holds_any 2 0 e0 e0 (Fo.cons k2 o2 n2 t2 F2 (.cons k1 o1 n1 t1 F1 .nil)) a c x u hz0 hz0 s (hx.below (hB3.trans (hb.mono hB3.size)) (Nat.le_refl _)))
  have HHO2 : Hid (∀ u a c, Below w3.heap.size w3 u → SlF u (Fo.cons k2 o2 n2 t2 F2 (.cons k1 o1 n1 t1 F1 .nil)) a c → Calls Tryz.prog 13 #[pv 3 0 e0 e0 a 2 c, x.v] u (RetB (holdsP x 3 0 e0 e0 (Fo.cons k2 o2 n2 t2 F2 (.cons k1 o1 n1 t1 F1 .nil))) u)) := Lib.hid (fun u a c hb s => Holds_any 3 0 e0 e0 (Fo.cons k2 o2 n2 t2 F2 (.cons k1 o1 n1 t1 F1 .nil)) a c x u hz0 hz0 s (hx.below (hB3.trans (hb.mono hB3.size)) (Nat.le_refl _)))
  have HHM : Hid (∀ u a c, Below w3.heap.size w3 u → SlF u (Fo.cons 2 0 e0 e0 (Fo.cons k1 o1 n1 t1 F1 (.cons k2 o2 n2 t2 F2 .nil)) .nil) a c → Calls Tryz.prog 13 #[pv 1 0 e0 e0 a 1 c, x.v] u (RetB (holdsP x 1 0 e0 e0 (Fo.cons 2 0 e0 e0 (Fo.cons k1 o1 n1 t1 F1 (.cons k2 o2 n2 t2 F2 .nil)) .nil)) u)) := Lib.hid (fun u a c hb s => Holds_any 1 0 e0 e0 (Fo.cons 2 0 e0 e0 (Fo.cons k1 o1 n1 t1 F1 (.cons k2 o2 n2 t2 F2 .nil)) .nil) a c x u hz0 hz0 s (hx.below (hB3.trans (hb.mono hB3.size)) (Nat.le_refl _)))
  have HHR : Hid (∀ u a c, Below w3.heap.size w3 u → SlF u (Fo.cons 1 0 e0 e0 (Fo.cons k1 o1 n1 t1 F1 .nil) (.cons 1 0 e0 e0 (Fo.cons k2 o2 n2 t2 F2 .nil) .nil)) a c → Calls Tryz.prog 13 #[pv 3 0 e0 e0 a 2 c, x.v] u (RetB (holdsP x 3 0 e0 e0 (Fo.cons 1 0 e0 e0 (Fo.cons k1 o1 n1 t1 F1 .nil) (.cons 1 0 e0 e0 (Fo.cons k2 o2 n2 t2 F2 .nil) .nil))) u)) := Lib.hid (fun u a c hb s => Holds_any 3 0 e0 e0 (Fo.cons 1 0 e0 e0 (Fo.cons k1 o1 n1 t1 F1 .nil) (.cons 1 0 e0 e0 (Fo.cons k2 o2 n2 t2 F2 .nil) .nil)) a c x u hz0 hz0 s (hx.below (hB3.trans (hb.mono hB3.size)) (Nat.le_refl _)))
  have HZ : Hid (∀ u, Below w3.heap.size w3 u → Calls Tryz.prog 13 #[pv 0 0 e0 e0 none 0 0, x.v] u (RetB true u)) := Lib.hid (fun u hb => by
    have h := Holds_any 0 0 e0 e0 .nil none 0 x u hz0 hz0 (SlQ.nil (fun _ => True) u).slf (hx.below (hB3.trans (hb.mono hB3.size)) (Nat.le_refl _))
    rw [hzz] at h
    exact h)
  have HL := Lib.hid (fun h => logic_all x (⟨k1, o1, n1, t1, F1⟩ : Po) (⟨k2, o2, n2, t2, F2⟩ : Po) (by show F1.cnt ≤ 200000; omega) (by show F2.cnt ≤ 200000; omega) h)
  have HBD := Lib.hid (holds_bad x (⟨k1, o1, n1, t1, F1⟩ : Po))
  have hSF : ∀ u, Below w3.heap.size w3 u → (u.cell? ⟨gp, 0, none⟩ = some (.int .i64 k1) ∧ u.cell? ⟨gp, 1, none⟩ = some (.int .i64 o1) ∧ u.cell? ⟨gp, 2, none⟩ = some (.string n1) ∧ u.cell? ⟨gp, 3, none⟩ = some (.string t1) ∧ u.cell? ⟨gp, 4, none⟩ = some (.slice a1 F1.len c1) ∧ u.cell? ⟨gq, 0, none⟩ = some (.int .i64 k2) ∧ u.cell? ⟨gq, 1, none⟩ = some (.int .i64 o2) ∧ u.cell? ⟨gq, 2, none⟩ = some (.string n2) ∧ u.cell? ⟨gq, 3, none⟩ = some (.string t2) ∧ u.cell? ⟨gq, 4, none⟩ = some (.slice a2 F2.len c2) ∧ u.cell? ⟨gf, 0, none⟩ = some (.string x.m) ∧ u.cell? ⟨gf, 1, none⟩ = some (.string x.p) ∧ u.cell? ⟨gf, 2, none⟩ = some (.slice x.a1 x.cl.length x.c1) ∧ u.cell? ⟨gf, 3, none⟩ = some (.slice x.a2 x.ce.length x.c2)) := fun u hb => by
    have hU := hR.call hb
    exact ⟨hU.cellAt (g := gp) (by repeat (first | exact List.Mem.head _ | refine List.Mem.tail _ ?_)) 0 rfl, hU.cellAt (g := gp) (by repeat (first | exact List.Mem.head _ | refine List.Mem.tail _ ?_)) 1 rfl, hU.cellAt (g := gp) (by repeat (first | exact List.Mem.head _ | refine List.Mem.tail _ ?_)) 2 rfl, hU.cellAt (g := gp) (by repeat (first | exact List.Mem.head _ | refine List.Mem.tail _ ?_)) 3 rfl, hU.cellAt (g := gp) (by repeat (first | exact List.Mem.head _ | refine List.Mem.tail _ ?_)) 4 rfl, hU.cellAt (g := gq) (by repeat (first | exact List.Mem.head _ | refine List.Mem.tail _ ?_)) 0 rfl, hU.cellAt (g := gq) (by repeat (first | exact List.Mem.head _ | refine List.Mem.tail _ ?_)) 1 rfl, hU.cellAt (g := gq) (by repeat (first | exact List.Mem.head _ | refine List.Mem.tail _ ?_)) 2 rfl, hU.cellAt (g := gq) (by repeat (first | exact List.Mem.head _ | refine List.Mem.tail _ ?_)) 3 rfl, hU.cellAt (g := gq) (by repeat (first | exact List.Mem.head _ | refine List.Mem.tail _ ?_)) 4 rfl, hU.cellAt (g := gf) (by repeat (first | exact List.Mem.head _ | refine List.Mem.tail _ ?_)) 0 rfl, hU.cellAt (g := gf) (by repeat (first | exact List.Mem.head _ | refine List.Mem.tail _ ?_)) 1 rfl, hU.cellAt (g := gf) (by repeat (first | exact List.Mem.head _ | refine List.Mem.tail _ ?_)) 2 rfl, hU.cellAt (g := gf) (by repeat (first | exact List.Mem.head _ | refine List.Mem.tail _ ?_)) 3 rfl⟩
  have HSF := Lib.hid hSF
  have HB : Hid (Below w.heap.size w w3) := Lib.hid hR.below
  have HRW := Lib.hid (fun (u : World) (hb : Below w3.heap.size w3 u) => hR.call hb)
  have hB0 : Below w3.heap.size w3 w3.drew := (Below.refl _ _).drew
  clear hSF hR hs1 hs2 hx hB3 hk1 hk2 hn1 ht1 hn2 ht2 hz0 hzz
  simp only [Po.chk, Po.holds, Po.hold, nP, bP, Po.fo] at HL HBD
  generalize chkP 3 0 e0 e0 (Fo.cons 1 0 e0 e0 (Fo.cons 1 0 e0 e0 (Fo.cons k1 o1 n1 t1 F1 .nil) .nil) (.cons 1 0 e0 e0 (Fo.cons 1 0 e0 e0 (Fo.cons k2 o2 n2 t2 F2 .nil) .nil) .nil)) = C at *
  generalize chkP k1 o1 n1 t1 F1 = C1 at *
  generalize F1.len = L1 at *
  generalize F2.len = L2 at *
  have T1 : True := trivial; have T2 : True := trivial; have T3 : True := trivial; have T4 : True := trivial; have T5 : True := trivial; have T6 : True := trivial; have T7 : True := trivial; have T8 : True := trivial; have T9 : True := trivial; have T10 : True := trivial; have T11 : True := trivial; have T12 : True := trivial; have T13 : True := trivial; have T14 : True := trivial; have T15 : True := trivial; have T16 : True := trivial; have T17 : True := trivial; have T18 : True := trivial; have T19 : True := trivial; have T20 : True := trivial; have T21 : True := trivial; have T22 : True := trivial; have T23 : True := trivial; have T24 : True := trivial; have T25 : True := trivial; have T26 : True := trivial; have T27 : True := trivial; have T28 : True := trivial; have T29 : True := trivial; have T30 : True := trivial
  go_region_held3 (fun u => u.cell? ⟨gp, 0, none⟩ = some (.int .i64 k1) ∧ u.cell? ⟨gp, 1, none⟩ = some (.int .i64 o1) ∧ u.cell? ⟨gp, 2, none⟩ = some (.string n1) ∧ u.cell? ⟨gp, 3, none⟩ = some (.string t1) ∧ u.cell? ⟨gp, 4, none⟩ = some (.slice a1 L1 c1) ∧ u.cell? ⟨gq, 0, none⟩ = some (.int .i64 k2) ∧ u.cell? ⟨gq, 1, none⟩ = some (.int .i64 o2) ∧ u.cell? ⟨gq, 2, none⟩ = some (.string n2) ∧ u.cell? ⟨gq, 3, none⟩ = some (.string t2) ∧ u.cell? ⟨gq, 4, none⟩ = some (.slice a2 L2 c2) ∧ u.cell? ⟨gf, 0, none⟩ = some (.string x.m) ∧ u.cell? ⟨gf, 1, none⟩ = some (.string x.p) ∧ u.cell? ⟨gf, 2, none⟩ = some (.slice x.a1 x.cl.length x.c1) ∧ u.cell? ⟨gf, 3, none⟩ = some (.slice x.a2 x.ce.length x.c2))
    (exact HSF.out _ hB0)
    (first
      | (go_at_call 19; have := T1; refine (HN1.out _ hB0).mono ?_; rintro e u ⟨⟨b1, d1, rfl, s1⟩, hb⟩; have hB0 := b_trans hB0 hb; clear T1)
      | (go_at_call 19; have := T2; refine (HG1.out _ _ _ s1).mono ?_; rintro e u ⟨⟨b2, d2, rfl, s2⟩, hb⟩; have hB0 := b_trans hB0 hb; clear T2)
      | (go_at_call 19; have := T3; refine (HN2.out _ hB0).mono ?_; rintro e u ⟨⟨b3, d3, rfl, s3⟩, hb⟩; have hB0 := b_trans hB0 hb; clear T3; have s2 := s2.grown hb)
      | (go_at_call 19; have := T4; refine (HG2.out _ _ _ s3).mono ?_; rintro e u ⟨⟨b4, d4, rfl, s4⟩, hb⟩; have hB0 := b_trans hB0 hb; clear T4; have s2 := s2.grown hb)
      | (go_at_call 21; have := T5; refine (HO.out _ _ _ _ _ s2 s4).mono ?_; rintro e u ⟨⟨b5, d5, rfl, s5⟩, hb⟩; have hB0 := b_trans hB0 hb; clear T5)
      | (go_at_call 11; have := T6; refine (HCB.out _ _ _ s5).mono ?_; rintro e u ⟨rfl, hb⟩; have hB0 := b_trans hB0 hb; clear T6))
  by_cases hC : C = 0
  · have hl := HL.out hC
    subst hC
    obtain ⟨_, e1, e2, e3, e4, e5, e6, e7, e8, e9, e10⟩ := hl
    rw [e1] at HP
    rw [e2] at HQ
    rw [e3] at HHN
    rw [e4] at HHG
    rw [e5] at HHA
    rw [e6] at HHO
    rw [e7] at HHA2
    rw [e8] at HHO2
    rw [e9] at HHM
    rw [e10] at HHR
    clear e1 e2 e3 e4 e5 e6 e7 e8 e9 e10 HL HBD HCB HCP HO HG2
    generalize holdP x k1 o1 n1 t1 F1 = av at *
    generalize holdP x k2 o2 n2 t2 F2 = bv at *
    have hR := HRW.out _ hB0
    have CN1 : Hid (∀ w v, AtB w3 (pv k1 o1 n1 t1 a1 L1 c1) w v → Calls Tryz.prog 19 #[v] w (RP (PVp 1 1 (Fo.cons k1 o1 n1 t1 F1 .nil)) w)) := Lib.hid fun w v ⟨hv, hb⟩ => by subst hv; exact (HN1.out w hb).mono fun _ _ h => rp_n h
    have HHP : Hid (∀ w v u, AtB w3 (pv k1 o1 n1 t1 a1 L1 c1) w v → AtB w3 x.v w u → Calls Tryz.prog 13 #[v, u] w (RP (Is (.bool av)) w)) := Lib.hid fun w v u ⟨hv, hb⟩ ⟨hu, _⟩ => by subst hv; subst hu; exact (HP.out w hb).mono fun _ _ h => rp_b h
    have HHQ : Hid (∀ w v u, AtB w3 (pv k2 o2 n2 t2 a2 L2 c2) w v → AtB w3 x.v w u → Calls Tryz.prog 13 #[v, u] w (RP (Is (.bool bv)) w)) := Lib.hid fun w v u ⟨hv, hb⟩ ⟨hu, _⟩ => by subst hv; subst hu; exact (HQ.out w hb).mono fun _ _ h => rp_b h
    have CN2 : Hid (∀ w v, AtB w3 (pv k2 o2 n2 t2 a2 L2 c2) w v → Calls Tryz.prog 19 #[v] w (RP (PVp 1 1 (Fo.cons k2 o2 n2 t2 F2 .nil)) w)) := Lib.hid fun w v ⟨hv, hb⟩ => by subst hv; exact (HN2.out w hb).mono fun _ _ h => rp_n h
    have CG1 : Hid (∀ w v, PVp 1 1 (Fo.cons k1 o1 n1 t1 F1 .nil) w v → Calls Tryz.prog 19 #[v] w (RP (PVp 1 1 (Fo.cons 1 0 e0 e0 (Fo.cons k1 o1 n1 t1 F1 .nil) .nil)) w)) := Lib.hid fun w v ⟨ad, c, hv, hs⟩ => by subst hv; exact (HG1.out w ad c hs).mono fun _ _ h => rp_n h
    have CM : Hid (∀ w v, PVp 2 2 (Fo.cons k1 o1 n1 t1 F1 (.cons k2 o2 n2 t2 F2 .nil)) w v → Calls Tryz.prog 19 #[v] w (RP (PVp 1 1 (Fo.cons 2 0 e0 e0 (Fo.cons k1 o1 n1 t1 F1 (.cons k2 o2 n2 t2 F2 .nil)) .nil)) w)) := Lib.hid fun w v ⟨ad, c, hv, hs⟩ => by subst hv; exact (HM.out w ad c hs).mono fun _ _ h => rp_n h
    have CA1 : Hid (∀ w v u, AtB w3 (pv k1 o1 n1 t1 a1 L1 c1) w v → AtB w3 (pv k2 o2 n2 t2 a2 L2 c2) w u → Calls Tryz.prog 20 #[v, u] w (RP (PVp 2 2 (Fo.cons k1 o1 n1 t1 F1 (.cons k2 o2 n2 t2 F2 .nil))) w)) := Lib.hid fun w v u ⟨hv, hb⟩ ⟨hu, _⟩ => by subst hv; subst hu; exact (HA1.out w hb).mono fun _ _ h => rp_n h
    have CO1 : Hid (∀ w v u, AtB w3 (pv k1 o1 n1 t1 a1 L1 c1) w v → AtB w3 (pv k2 o2 n2 t2 a2 L2 c2) w u → Calls Tryz.prog 21 #[v, u] w (RP (PVp 3 2 (Fo.cons k1 o1 n1 t1 F1 (.cons k2 o2 n2 t2 F2 .nil))) w)) := Lib.hid fun w v u ⟨hv, hb⟩ ⟨hu, _⟩ => by subst hv; subst hu; exact (HO1.out w hb).mono fun _ _ h => rp_n h
    have CA2 : Hid (∀ w v u, AtB w3 (pv k2 o2 n2 t2 a2 L2 c2) w v → AtB w3 (pv k1 o1 n1 t1 a1 L1 c1) w u → Calls Tryz.prog 20 #[v, u] w (RP (PVp 2 2 (Fo.cons k2 o2 n2 t2 F2 (.cons k1 o1 n1 t1 F1 .nil))) w)) := Lib.hid fun w v u ⟨hv, hb⟩ ⟨hu, _⟩ => by subst hv; subst hu; exact (HA2.out w hb).mono fun _ _ h => rp_n h
    have CO2 : Hid (∀ w v u, AtB w3 (pv k2 o2 n2 t2 a2 L2 c2) w v → AtB w3 (pv k1 o1 n1 t1 a1 L1 c1) w u → Calls Tryz.prog 21 #[v, u] w (RP (PVp 3 2 (Fo.cons k2 o2 n2 t2 F2 (.cons k1 o1 n1 t1 F1 .nil))) w)) := Lib.hid fun w v u ⟨hv, hb⟩ ⟨hu, _⟩ => by subst hv; subst hu; exact (HO2.out w hb).mono fun _ _ h => rp_n h
    have COR : Hid (∀ w v u, PVp 1 1 (Fo.cons k1 o1 n1 t1 F1 .nil) w v → PVp 1 1 (Fo.cons k2 o2 n2 t2 F2 .nil) w u → Calls Tryz.prog 21 #[v, u] w (RP (PVp 3 2 (Fo.cons 1 0 e0 e0 (Fo.cons k1 o1 n1 t1 F1 .nil) (.cons 1 0 e0 e0 (Fo.cons k2 o2 n2 t2 F2 .nil) .nil))) w)) := Lib.hid fun w v u ⟨ad, c, hv, hs⟩ ⟨ad', c', hu, hs'⟩ => by subst hv; subst hu; exact (HOR.out w ad c ad' c' hs hs').mono fun _ _ h => rp_n h
    have DHN : Hid (∀ w v u, PVp 1 1 (Fo.cons k1 o1 n1 t1 F1 .nil) w v → AtB w3 x.v w u → Calls Tryz.prog 13 #[v, u] w (RP (Is (.bool (!av))) w)) := Lib.hid fun w v u ⟨ad, c, hv, hs⟩ ⟨hu, hb⟩ => by subst hv; subst hu; exact (HHN.out w ad c hb hs).mono fun _ _ h => rp_b h
    have DHG : Hid (∀ w v u, PVp 1 1 (Fo.cons 1 0 e0 e0 (Fo.cons k1 o1 n1 t1 F1 .nil) .nil) w v → AtB w3 x.v w u → Calls Tryz.prog 13 #[v, u] w (RP (Is (.bool (av))) w)) := Lib.hid fun w v u ⟨ad, c, hv, hs⟩ ⟨hu, hb⟩ => by subst hv; subst hu; exact (HHG.out w ad c hb hs).mono fun _ _ h => rp_b h
    have DHA : Hid (∀ w v u, PVp 2 2 (Fo.cons k1 o1 n1 t1 F1 (.cons k2 o2 n2 t2 F2 .nil)) w v → AtB w3 x.v w u → Calls Tryz.prog 13 #[v, u] w (RP (Is (.bool (av && bv))) w)) := Lib.hid fun w v u ⟨ad, c, hv, hs⟩ ⟨hu, hb⟩ => by subst hv; subst hu; exact (HHA.out w ad c hb hs).mono fun _ _ h => rp_b h
    have DHO : Hid (∀ w v u, PVp 3 2 (Fo.cons k1 o1 n1 t1 F1 (.cons k2 o2 n2 t2 F2 .nil)) w v → AtB w3 x.v w u → Calls Tryz.prog 13 #[v, u] w (RP (Is (.bool (av || bv))) w)) := Lib.hid fun w v u ⟨ad, c, hv, hs⟩ ⟨hu, hb⟩ => by subst hv; subst hu; exact (HHO.out w ad c hb hs).mono fun _ _ h => rp_b h
    have DHA2 : Hid (∀ w v u, PVp 2 2 (Fo.cons k2 o2 n2 t2 F2 (.cons k1 o1 n1 t1 F1 .nil)) w v → AtB w3 x.v w u → Calls Tryz.prog 13 #[v, u] w (RP (Is (.bool (bv && av))) w)) := Lib.hid fun w v u ⟨ad, c, hv, hs⟩ ⟨hu, hb⟩ => by subst hv; subst hu; exact (HHA2.out w ad c hb hs).mono fun _ _ h => rp_b h
    have DHO2 : Hid (∀ w v u, PVp 3 2 (Fo.cons k2 o2 n2 t2 F2 (.cons k1 o1 n1 t1 F1 .nil)) w v → AtB w3 x.v w u → Calls Tryz.prog 13 #[v, u] w (RP (Is (.bool (bv || av))) w)) := Lib.hid fun w v u ⟨ad, c, hv, hs⟩ ⟨hu, hb⟩ => by subst hv; subst hu; exact (HHO2.out w ad c hb hs).mono fun _ _ h => rp_b h
    have DHM : Hid (∀ w v u, PVp 1 1 (Fo.cons 2 0 e0 e0 (Fo.cons k1 o1 n1 t1 F1 (.cons k2 o2 n2 t2 F2 .nil)) .nil) w v → AtB w3 x.v w u → Calls Tryz.prog 13 #[v, u] w (RP (Is (.bool (!(av && bv)))) w)) := Lib.hid fun w v u ⟨ad, c, hv, hs⟩ ⟨hu, hb⟩ => by subst hv; subst hu; exact (HHM.out w ad c hb hs).mono fun _ _ h => rp_b h
    have DHR : Hid (∀ w v u, PVp 3 2 (Fo.cons 1 0 e0 e0 (Fo.cons k1 o1 n1 t1 F1 .nil) (.cons 1 0 e0 e0 (Fo.cons k2 o2 n2 t2 F2 .nil) .nil)) w v → AtB w3 x.v w u → Calls Tryz.prog 13 #[v, u] w (RP (Is (.bool (!av || !bv))) w)) := Lib.hid fun w v u ⟨ad, c, hv, hs⟩ ⟨hu, hb⟩ => by subst hv; subst hu; exact (HHR.out w ad c hb hs).mono fun _ _ h => rp_b h
    have DHZ : Hid (∀ w v u, Is (pv 0 0 e0 e0 none 0 0) w v → AtB w3 x.v w u → Calls Tryz.prog 13 #[v, u] w (RP (Is (.bool true)) w)) := Lib.hid fun w v u hv ⟨hu, hb⟩ => by subst hv; subst hu; exact (HZ.out w hb).mono fun _ _ h => rp_b h
    cases av <;> cases bv
    · skip
      go_upto_region 6 with fail
      refine wp_region_softG 7 (by kernel_rfl) (by kernel_rfl) (by rfl) hR ?_
      refine g_ldw (g := gp) (cs := #[.int .i64 k1, .int .i64 o1, .string n1, .string t1, .slice a1 L1 c1]) (R := AtB w3 (pv k1 o1 n1 t1 a1 L1 c1)) (by rfl) (by exact fun _ _ _ h => h) (by repeat (first | exact List.Mem.head _ | refine List.Mem.tail _ ?_)) Tryz.underlying24 rfl pol_info (stb_atb w3 _) (by exact fun _ hb => ⟨rfl, b_trans hB0 hb⟩) ?_
      refine g_ldw (g := gf) (cs := #[.string x.m, .string x.p, .slice x.a1 x.cl.length x.c1, .slice x.a2 x.ce.length x.c2]) (R := AtB w3 x.v) (by rfl) (by exact fun _ _ _ h => h) (by repeat (first | exact List.Mem.head _ | refine List.Mem.tail _ ?_)) Tryz.underlying27 rfl fac_info (stb_atb w3 _) (by exact fun _ hb => ⟨rfl, b_trans hB0 hb⟩) ?_
      refine g_call2 (A := AtB w3 (pv k1 o1 n1 t1 a1 L1 c1)) (A' := AtB w3 x.v) (R := Is (.bool false)) (by rfl) Tryz.func13 (by kernel_rfl) rfl (stb_is _) (by exact fun _ _ _ h => h) (by exact fun _ _ _ h => h) HHP.out ?_
      refine g_ldw (g := gq) (cs := #[.int .i64 k2, .int .i64 o2, .string n2, .string t2, .slice a2 L2 c2]) (R := AtB w3 (pv k2 o2 n2 t2 a2 L2 c2)) (by rfl) (by exact fun _ _ _ h => h) (by repeat (first | exact List.Mem.head _ | refine List.Mem.tail _ ?_)) Tryz.underlying24 rfl pol_info (stb_atb w3 _) (by exact fun _ hb => ⟨rfl, b_trans hB0 hb⟩) ?_
      refine g_ldw (g := gf) (cs := #[.string x.m, .string x.p, .slice x.a1 x.cl.length x.c1, .slice x.a2 x.ce.length x.c2]) (R := AtB w3 x.v) (by rfl) (by exact fun _ _ _ h => h) (by repeat (first | exact List.Mem.head _ | refine List.Mem.tail _ ?_)) Tryz.underlying27 rfl fac_info (stb_atb w3 _) (by exact fun _ hb => ⟨rfl, b_trans hB0 hb⟩) ?_
      refine g_call2 (A := AtB w3 (pv k2 o2 n2 t2 a2 L2 c2)) (A' := AtB w3 x.v) (R := Is (.bool false)) (by rfl) Tryz.func13 (by kernel_rfl) rfl (stb_is _) (by exact fun _ _ _ h => h) (by exact fun _ _ _ h => h) HHQ.out ?_
      refine g_assign (R := Is (.bool false)) (by rfl) (stb_is _) (by exact fun _ _ _ h => h) ?_
      intro w5 hR hb5 v38 h38 v39 h39 v40 h40 v41 h41 v42 h42 v43 h43 v10 h10
      simp only [softEnd, Act.put, List.setIfInBounds_toArray, List.set_cons_succ, List.set_cons_zero, List.drop_succ_cons, List.drop_zero]
      have hB0 := b_trans hB0 hb5
      obtain rfl : v10 = .bool false := h10
      clear h38 h39 h40 h41 h42
      obtain rfl : v43 = .bool false := h43
      go_upto_region 7 with fail
      dsimp only [List.append]
      refine wp_region_softG 69 (by kernel_rfl) (by kernel_rfl) (by rfl) hR ?_
      refine g_move (R := Is (.func (.func 19) #[] #[])) (by rfl) (stb_is _) (by exact fun _ _ _ h => h) ?_
      refine g_ldw (g := gp) (cs := #[.int .i64 k1, .int .i64 o1, .string n1, .string t1, .slice a1 L1 c1]) (R := AtB w3 (pv k1 o1 n1 t1 a1 L1 c1)) (by rfl) (by exact fun _ _ _ h => h) (by repeat (first | exact List.Mem.head _ | refine List.Mem.tail _ ?_)) Tryz.underlying24 rfl pol_info (stb_atb w3 _) (by exact fun _ hb => ⟨rfl, b_trans hB0 hb⟩) ?_
      refine g_callv1 (f := 19) (A := AtB w3 (pv k1 o1 n1 t1 a1 L1 c1)) (R := PVp 1 1 (Fo.cons k1 o1 n1 t1 F1 .nil)) (by rfl) Tryz.func19 (by kernel_rfl) rfl (stb_pvp 1 1 (Fo.cons k1 o1 n1 t1 F1 .nil)) (by exact fun _ _ _ h => h) (by exact fun _ _ _ h => h) CN1.out ?_
      refine g_ldw (g := gf) (cs := #[.string x.m, .string x.p, .slice x.a1 x.cl.length x.c1, .slice x.a2 x.ce.length x.c2]) (R := AtB w3 x.v) (by rfl) (by exact fun _ _ _ h => h) (by repeat (first | exact List.Mem.head _ | refine List.Mem.tail _ ?_)) Tryz.underlying27 rfl fac_info (stb_atb w3 _) (by exact fun _ hb => ⟨rfl, b_trans hB0 hb⟩) ?_
      refine g_call2 (A := PVp 1 1 (Fo.cons k1 o1 n1 t1 F1 .nil)) (A' := AtB w3 x.v) (R := Is (.bool true)) (by rfl) Tryz.func13 (by kernel_rfl) rfl (stb_is _) (by exact fun _ _ _ h => h) (by exact fun _ _ _ h => h) DHN.out ?_
      refine g_move (R := Is (.bool false)) (by rfl) (stb_is _) (by exact fun _ _ _ h => h) ?_
      refine g_bin (v := .bool true) (u := .bool false) (r := .bool false) (by rfl) (by exact fun _ _ _ h => h) (by exact fun _ _ _ h => h) (by rfl) (fun _ => rfl) ?_
      refine g_move (R := Is (.bool false)) (by rfl) (stb_is _) (by exact fun _ _ _ h => h) ?_
      refine g_move (R := Is (.func (.func 19) #[] #[])) (by rfl) (stb_is _) (by exact fun _ _ _ h => h) ?_
      refine g_move (R := Is (.func (.func 19) #[] #[])) (by rfl) (stb_is _) (by exact fun _ _ _ h => h) ?_
      refine g_ldw (g := gp) (cs := #[.int .i64 k1, .int .i64 o1, .string n1, .string t1, .slice a1 L1 c1]) (R := AtB w3 (pv k1 o1 n1 t1 a1 L1 c1)) (by rfl) (by exact fun _ _ _ h => h) (by repeat (first | exact List.Mem.head _ | refine List.Mem.tail _ ?_)) Tryz.underlying24 rfl pol_info (stb_atb w3 _) (by exact fun _ hb => ⟨rfl, b_trans hB0 hb⟩) ?_
      refine g_callv1 (f := 19) (A := AtB w3 (pv k1 o1 n1 t1 a1 L1 c1)) (R := PVp 1 1 (Fo.cons k1 o1 n1 t1 F1 .nil)) (by rfl) Tryz.func19 (by kernel_rfl) rfl (stb_pvp 1 1 (Fo.cons k1 o1 n1 t1 F1 .nil)) (by exact fun _ _ _ h => h) (by exact fun _ _ _ h => h) CN1.out ?_
      refine g_callv1 (f := 19) (A := PVp 1 1 (Fo.cons k1 o1 n1 t1 F1 .nil)) (R := PVp 1 1 (Fo.cons 1 0 e0 e0 (Fo.cons k1 o1 n1 t1 F1 .nil) .nil)) (by rfl) Tryz.func19 (by kernel_rfl) rfl (stb_pvp 1 1 (Fo.cons 1 0 e0 e0 (Fo.cons k1 o1 n1 t1 F1 .nil) .nil)) (by exact fun _ _ _ h => h) (by exact fun _ _ _ h => h) CG1.out ?_
      refine g_ldw (g := gf) (cs := #[.string x.m, .string x.p, .slice x.a1 x.cl.length x.c1, .slice x.a2 x.ce.length x.c2]) (R := AtB w3 x.v) (by rfl) (by exact fun _ _ _ h => h) (by repeat (first | exact List.Mem.head _ | refine List.Mem.tail _ ?_)) Tryz.underlying27 rfl fac_info (stb_atb w3 _) (by exact fun _ hb => ⟨rfl, b_trans hB0 hb⟩) ?_
      refine g_call2 (A := PVp 1 1 (Fo.cons 1 0 e0 e0 (Fo.cons k1 o1 n1 t1 F1 .nil) .nil)) (A' := AtB w3 x.v) (R := Is (.bool false)) (by rfl) Tryz.func13 (by kernel_rfl) rfl (stb_is _) (by exact fun _ _ _ h => h) (by exact fun _ _ _ h => h) DHG.out ?_
      refine g_move (R := Is (.bool false)) (by rfl) (stb_is _) (by exact fun _ _ _ h => h) ?_
      refine g_bin (v := .bool false) (u := .bool false) (r := .bool false) (by rfl) (by exact fun _ _ _ h => h) (by exact fun _ _ _ h => h) (by rfl) (fun _ => rfl) ?_
      refine g_pick (b := false) (R := Is (.bool false)) (by rfl) (by exact fun _ _ _ h => h) (stb_is _) (by exact fun _ _ _ h => h) ?_
      refine g_move (R := Is (.bool false)) (by rfl) (stb_is _) (by exact fun _ _ _ h => h) ?_
      refine g_move (R := Is (.func (.func 20) #[] #[])) (by rfl) (stb_is _) (by exact fun _ _ _ h => h) ?_
      refine g_ldw (g := gp) (cs := #[.int .i64 k1, .int .i64 o1, .string n1, .string t1, .slice a1 L1 c1]) (R := AtB w3 (pv k1 o1 n1 t1 a1 L1 c1)) (by rfl) (by exact fun _ _ _ h => h) (by repeat (first | exact List.Mem.head _ | refine List.Mem.tail _ ?_)) Tryz.underlying24 rfl pol_info (stb_atb w3 _) (by exact fun _ hb => ⟨rfl, b_trans hB0 hb⟩) ?_
      refine g_ldw (g := gq) (cs := #[.int .i64 k2, .int .i64 o2, .string n2, .string t2, .slice a2 L2 c2]) (R := AtB w3 (pv k2 o2 n2 t2 a2 L2 c2)) (by rfl) (by exact fun _ _ _ h => h) (by repeat (first | exact List.Mem.head _ | refine List.Mem.tail _ ?_)) Tryz.underlying24 rfl pol_info (stb_atb w3 _) (by exact fun _ hb => ⟨rfl, b_trans hB0 hb⟩) ?_
      refine g_callv2 (f := 20) (A := AtB w3 (pv k1 o1 n1 t1 a1 L1 c1)) (A' := AtB w3 (pv k2 o2 n2 t2 a2 L2 c2)) (R := PVp 2 2 (Fo.cons k1 o1 n1 t1 F1 (.cons k2 o2 n2 t2 F2 .nil))) (by rfl) Tryz.func20 (by kernel_rfl) rfl (stb_pvp 2 2 (Fo.cons k1 o1 n1 t1 F1 (.cons k2 o2 n2 t2 F2 .nil))) (by exact fun _ _ _ h => h) (by exact fun _ _ _ h => h) (by exact fun _ _ _ h => h) CA1.out ?_
      refine g_ldw (g := gf) (cs := #[.string x.m, .string x.p, .slice x.a1 x.cl.length x.c1, .slice x.a2 x.ce.length x.c2]) (R := AtB w3 x.v) (by rfl) (by exact fun _ _ _ h => h) (by repeat (first | exact List.Mem.head _ | refine List.Mem.tail _ ?_)) Tryz.underlying27 rfl fac_info (stb_atb w3 _) (by exact fun _ hb => ⟨rfl, b_trans hB0 hb⟩) ?_
      refine g_call2 (A := PVp 2 2 (Fo.cons k1 o1 n1 t1 F1 (.cons k2 o2 n2 t2 F2 .nil))) (A' := AtB w3 x.v) (R := Is (.bool false)) (by rfl) Tryz.func13 (by kernel_rfl) rfl (stb_is _) (by exact fun _ _ _ h => h) (by exact fun _ _ _ h => h) DHA.out ?_
      refine g_move (R := Is (.bool false)) (by rfl) (stb_is _) (by exact fun _ _ _ h => h) ?_
      refine g_move (R := Is (.bool false)) (by rfl) (stb_is _) (by exact fun _ _ _ h => h) ?_
      refine g_dead (dead_of rfl rfl (fun _ _ _ h => h) (by rfl)) ?_
      refine g_pick (b := false) (R := Is (.bool false)) (by rfl) (by exact fun _ _ _ h => h) (stb_is _) (by exact fun _ _ _ h => h) ?_
      refine g_bin (v := .bool false) (u := .bool false) (r := .bool false) (by rfl) (by exact fun _ _ _ h => h) (by exact fun _ _ _ h => h) (by rfl) (fun _ => rfl) ?_
      refine g_pick (b := false) (R := Is (.bool false)) (by rfl) (by exact fun _ _ _ h => h) (stb_is _) (by exact fun _ _ _ h => h) ?_
      refine g_move (R := Is (.bool false)) (by rfl) (stb_is _) (by exact fun _ _ _ h => h) ?_
      refine g_move (R := Is (.func (.func 21) #[] #[])) (by rfl) (stb_is _) (by exact fun _ _ _ h => h) ?_
      refine g_ldw (g := gp) (cs := #[.int .i64 k1, .int .i64 o1, .string n1, .string t1, .slice a1 L1 c1]) (R := AtB w3 (pv k1 o1 n1 t1 a1 L1 c1)) (by rfl) (by exact fun _ _ _ h => h) (by repeat (first | exact List.Mem.head _ | refine List.Mem.tail _ ?_)) Tryz.underlying24 rfl pol_info (stb_atb w3 _) (by exact fun _ hb => ⟨rfl, b_trans hB0 hb⟩) ?_
      refine g_ldw (g := gq) (cs := #[.int .i64 k2, .int .i64 o2, .string n2, .string t2, .slice a2 L2 c2]) (R := AtB w3 (pv k2 o2 n2 t2 a2 L2 c2)) (by rfl) (by exact fun _ _ _ h => h) (by repeat (first | exact List.Mem.head _ | refine List.Mem.tail _ ?_)) Tryz.underlying24 rfl pol_info (stb_atb w3 _) (by exact fun _ hb => ⟨rfl, b_trans hB0 hb⟩) ?_
      refine g_callv2 (f := 21) (A := AtB w3 (pv k1 o1 n1 t1 a1 L1 c1)) (A' := AtB w3 (pv k2 o2 n2 t2 a2 L2 c2)) (R := PVp 3 2 (Fo.cons k1 o1 n1 t1 F1 (.cons k2 o2 n2 t2 F2 .nil))) (by rfl) Tryz.func21 (by kernel_rfl) rfl (stb_pvp 3 2 (Fo.cons k1 o1 n1 t1 F1 (.cons k2 o2 n2 t2 F2 .nil))) (by exact fun _ _ _ h => h) (by exact fun _ _ _ h => h) (by exact fun _ _ _ h => h) CO1.out ?_
      refine g_ldw (g := gf) (cs := #[.string x.m, .string x.p, .slice x.a1 x.cl.length x.c1, .slice x.a2 x.ce.length x.c2]) (R := AtB w3 x.v) (by rfl) (by exact fun _ _ _ h => h) (by repeat (first | exact List.Mem.head _ | refine List.Mem.tail _ ?_)) Tryz.underlying27 rfl fac_info (stb_atb w3 _) (by exact fun _ hb => ⟨rfl, b_trans hB0 hb⟩) ?_
      refine g_call2 (A := PVp 3 2 (Fo.cons k1 o1 n1 t1 F1 (.cons k2 o2 n2 t2 F2 .nil))) (A' := AtB w3 x.v) (R := Is (.bool false)) (by rfl) Tryz.func13 (by kernel_rfl) rfl (stb_is _) (by exact fun _ _ _ h => h) (by exact fun _ _ _ h => h) DHO.out ?_
      refine g_move (R := Is (.bool false)) (by rfl) (stb_is _) (by exact fun _ _ _ h => h) ?_
      refine g_move (R := Is (.bool false)) (by rfl) (stb_is _) (by exact fun _ _ _ h => h) ?_
      refine g_move (R := Is (.bool false)) (by rfl) (stb_is _) (by exact fun _ _ _ h => h) ?_
      refine g_pick (b := false) (R := Is (.bool false)) (by rfl) (by exact fun _ _ _ h => h) (stb_is _) (by exact fun _ _ _ h => h) ?_
      refine g_bin (v := .bool false) (u := .bool false) (r := .bool false) (by rfl) (by exact fun _ _ _ h => h) (by exact fun _ _ _ h => h) (by rfl) (fun _ => rfl) ?_
      refine g_pick (b := false) (R := Is (.bool false)) (by rfl) (by exact fun _ _ _ h => h) (stb_is _) (by exact fun _ _ _ h => h) ?_
      refine g_move (R := Is (.bool false)) (by rfl) (stb_is _) (by exact fun _ _ _ h => h) ?_
      refine g_move (R := Is (.func (.func 20) #[] #[])) (by rfl) (stb_is _) (by exact fun _ _ _ h => h) ?_
      refine g_ldw (g := gq) (cs := #[.int .i64 k2, .int .i64 o2, .string n2, .string t2, .slice a2 L2 c2]) (R := AtB w3 (pv k2 o2 n2 t2 a2 L2 c2)) (by rfl) (by exact fun _ _ _ h => h) (by repeat (first | exact List.Mem.head _ | refine List.Mem.tail _ ?_)) Tryz.underlying24 rfl pol_info (stb_atb w3 _) (by exact fun _ hb => ⟨rfl, b_trans hB0 hb⟩) ?_
      refine g_ldw (g := gp) (cs := #[.int .i64 k1, .int .i64 o1, .string n1, .string t1, .slice a1 L1 c1]) (R := AtB w3 (pv k1 o1 n1 t1 a1 L1 c1)) (by rfl) (by exact fun _ _ _ h => h) (by repeat (first | exact List.Mem.head _ | refine List.Mem.tail _ ?_)) Tryz.underlying24 rfl pol_info (stb_atb w3 _) (by exact fun _ hb => ⟨rfl, b_trans hB0 hb⟩) ?_
      refine g_callv2 (f := 20) (A := AtB w3 (pv k2 o2 n2 t2 a2 L2 c2)) (A' := AtB w3 (pv k1 o1 n1 t1 a1 L1 c1)) (R := PVp 2 2 (Fo.cons k2 o2 n2 t2 F2 (.cons k1 o1 n1 t1 F1 .nil))) (by rfl) Tryz.func20 (by kernel_rfl) rfl (stb_pvp 2 2 (Fo.cons k2 o2 n2 t2 F2 (.cons k1 o1 n1 t1 F1 .nil))) (by exact fun _ _ _ h => h) (by exact fun _ _ _ h => h) (by exact fun _ _ _ h => h) CA2.out ?_
      refine g_ldw (g := gf) (cs := #[.string x.m, .string x.p, .slice x.a1 x.cl.length x.c1, .slice x.a2 x.ce.length x.c2]) (R := AtB w3 x.v) (by rfl) (by exact fun _ _ _ h => h) (by repeat (first | exact List.Mem.head _ | refine List.Mem.tail _ ?_)) Tryz.underlying27 rfl fac_info (stb_atb w3 _) (by exact fun _ hb => ⟨rfl, b_trans hB0 hb⟩) ?_
      refine g_call2 (A := PVp 2 2 (Fo.cons k2 o2 n2 t2 F2 (.cons k1 o1 n1 t1 F1 .nil))) (A' := AtB w3 x.v) (R := Is (.bool false)) (by rfl) Tryz.func13 (by kernel_rfl) rfl (stb_is _) (by exact fun _ _ _ h => h) (by exact fun _ _ _ h => h) DHA2.out ?_
      refine g_move (R := Is (.bool false)) (by rfl) (stb_is _) (by exact fun _ _ _ h => h) ?_
      refine g_move (R := Is (.bool false)) (by rfl) (stb_is _) (by exact fun _ _ _ h => h) ?_
      refine g_dead (dead_of rfl rfl (fun _ _ _ h => h) (by rfl)) ?_
      refine g_pick (b := false) (R := Is (.bool false)) (by rfl) (by exact fun _ _ _ h => h) (stb_is _) (by exact fun _ _ _ h => h) ?_
      refine g_bin (v := .bool false) (u := .bool false) (r := .bool false) (by rfl) (by exact fun _ _ _ h => h) (by exact fun _ _ _ h => h) (by rfl) (fun _ => rfl) ?_
      refine g_pick (b := false) (R := Is (.bool false)) (by rfl) (by exact fun _ _ _ h => h) (stb_is _) (by exact fun _ _ _ h => h) ?_
      refine g_move (R := Is (.bool false)) (by rfl) (stb_is _) (by exact fun _ _ _ h => h) ?_
      refine g_move (R := Is (.func (.func 21) #[] #[])) (by rfl) (stb_is _) (by exact fun _ _ _ h => h) ?_
      refine g_ldw (g := gq) (cs := #[.int .i64 k2, .int .i64 o2, .string n2, .string t2, .slice a2 L2 c2]) (R := AtB w3 (pv k2 o2 n2 t2 a2 L2 c2)) (by rfl) (by exact fun _ _ _ h => h) (by repeat (first | exact List.Mem.head _ | refine List.Mem.tail _ ?_)) Tryz.underlying24 rfl pol_info (stb_atb w3 _) (by exact fun _ hb => ⟨rfl, b_trans hB0 hb⟩) ?_
      refine g_ldw (g := gp) (cs := #[.int .i64 k1, .int .i64 o1, .string n1, .string t1, .slice a1 L1 c1]) (R := AtB w3 (pv k1 o1 n1 t1 a1 L1 c1)) (by rfl) (by exact fun _ _ _ h => h) (by repeat (first | exact List.Mem.head _ | refine List.Mem.tail _ ?_)) Tryz.underlying24 rfl pol_info (stb_atb w3 _) (by exact fun _ hb => ⟨rfl, b_trans hB0 hb⟩) ?_
      refine g_callv2 (f := 21) (A := AtB w3 (pv k2 o2 n2 t2 a2 L2 c2)) (A' := AtB w3 (pv k1 o1 n1 t1 a1 L1 c1)) (R := PVp 3 2 (Fo.cons k2 o2 n2 t2 F2 (.cons k1 o1 n1 t1 F1 .nil))) (by rfl) Tryz.func21 (by kernel_rfl) rfl (stb_pvp 3 2 (Fo.cons k2 o2 n2 t2 F2 (.cons k1 o1 n1 t1 F1 .nil))) (by exact fun _ _ _ h => h) (by exact fun _ _ _ h => h) (by exact fun _ _ _ h => h) CO2.out ?_
      refine g_ldw (g := gf) (cs := #[.string x.m, .string x.p, .slice x.a1 x.cl.length x.c1, .slice x.a2 x.ce.length x.c2]) (R := AtB w3 x.v) (by rfl) (by exact fun _ _ _ h => h) (by repeat (first | exact List.Mem.head _ | refine List.Mem.tail _ ?_)) Tryz.underlying27 rfl fac_info (stb_atb w3 _) (by exact fun _ hb => ⟨rfl, b_trans hB0 hb⟩) ?_
      refine g_call2 (A := PVp 3 2 (Fo.cons k2 o2 n2 t2 F2 (.cons k1 o1 n1 t1 F1 .nil))) (A' := AtB w3 x.v) (R := Is (.bool false)) (by rfl) Tryz.func13 (by kernel_rfl) rfl (stb_is _) (by exact fun _ _ _ h => h) (by exact fun _ _ _ h => h) DHO2.out ?_
      refine g_move (R := Is (.bool false)) (by rfl) (stb_is _) (by exact fun _ _ _ h => h) ?_
      refine g_move (R := Is (.bool false)) (by rfl) (stb_is _) (by exact fun _ _ _ h => h) ?_
      refine g_move (R := Is (.bool false)) (by rfl) (stb_is _) (by exact fun _ _ _ h => h) ?_
      refine g_pick (b := false) (R := Is (.bool false)) (by rfl) (by exact fun _ _ _ h => h) (stb_is _) (by exact fun _ _ _ h => h) ?_
      refine g_bin (v := .bool false) (u := .bool false) (r := .bool false) (by rfl) (by exact fun _ _ _ h => h) (by exact fun _ _ _ h => h) (by rfl) (fun _ => rfl) ?_
      intro w6 hR hb6 v44 h44 v45 h45 v46 h46 v47 h47 v48 h48 v49 h49 v50 h50 v51 h51 v52 h52 v53 h53 v54 h54 v55 h55 v56 h56 v57 h57 v58 h58 v59 h59 v60 h60 v61 h61 v62 h62 v63 h63 v64 h64 v65 h65 v66 h66 v67 h67 v68 h68 v69 h69 v70 h70 v71 h71 v72 h72 v73 h73 v74 h74 v75 h75 v76 h76 v77 h77 v78 h78 v79 h79 v80 h80 v81 h81 v82 h82 v83 h83 v84 h84 v85 h85 v86 h86 v87 h87 v88 h88 v89 h89 v90 h90 v91 h91 v92 h92 v93 h93 v94 h94 v95 h95 v96 h96 v97 h97 v98 h98 v99 h99 v100 h100 v101 h101 v102 h102 v103 h103 v104 h104 v105 h105 v106 h106 v107 h107 v108 h108 v109 h109 v110 h110 v111 h111 v112 h112
      simp only [softEnd, Act.put, List.setIfInBounds_toArray, List.set_cons_succ, List.set_cons_zero, List.drop_succ_cons, List.drop_zero]
      have hB0 := b_trans hB0 hb6
      obtain rfl : v101 = .bool false := h101
      obtain rfl : v112 = .bool false := h112
      clear h44 h45 h46 h47 h48 h49 h50 h51 h52 h53 h54 h55 h56 h57 h58 h59 h60 h61 h62 h63 h64 h65 h66 h67 h68 h69 h70 h71 h72 h73 h74 h75 h76 h77 h78 h79 h80 h81 h82 h83 h84 h85 h86 h87 h88 h89 h90 h91 h92 h93 h94 h95 h96 h97 h98 h99 h100 h102 h103 h104 h105 h106 h107 h108 h109 h110 h111
      go_upto_region 9 with fail
      refine wp_region_softG 27 (by kernel_rfl) (by kernel_rfl) (by rfl) hR ?_
      refine g_move (R := Is (.func (.func 19) #[] #[])) (by rfl) (stb_is _) (by exact fun _ _ _ h => h) ?_
      refine g_move (R := Is (.func (.func 20) #[] #[])) (by rfl) (stb_is _) (by exact fun _ _ _ h => h) ?_
      refine g_ldw (g := gp) (cs := #[.int .i64 k1, .int .i64 o1, .string n1, .string t1, .slice a1 L1 c1]) (R := AtB w3 (pv k1 o1 n1 t1 a1 L1 c1)) (by rfl) (by exact fun _ _ _ h => h) (by repeat (first | exact List.Mem.head _ | refine List.Mem.tail _ ?_)) Tryz.underlying24 rfl pol_info (stb_atb w3 _) (by exact fun _ hb => ⟨rfl, b_trans hB0 hb⟩) ?_
      refine g_ldw (g := gq) (cs := #[.int .i64 k2, .int .i64 o2, .string n2, .string t2, .slice a2 L2 c2]) (R := AtB w3 (pv k2 o2 n2 t2 a2 L2 c2)) (by rfl) (by exact fun _ _ _ h => h) (by repeat (first | exact List.Mem.head _ | refine List.Mem.tail _ ?_)) Tryz.underlying24 rfl pol_info (stb_atb w3 _) (by exact fun _ hb => ⟨rfl, b_trans hB0 hb⟩) ?_
      refine g_callv2 (f := 20) (A := AtB w3 (pv k1 o1 n1 t1 a1 L1 c1)) (A' := AtB w3 (pv k2 o2 n2 t2 a2 L2 c2)) (R := PVp 2 2 (Fo.cons k1 o1 n1 t1 F1 (.cons k2 o2 n2 t2 F2 .nil))) (by rfl) Tryz.func20 (by kernel_rfl) rfl (stb_pvp 2 2 (Fo.cons k1 o1 n1 t1 F1 (.cons k2 o2 n2 t2 F2 .nil))) (by exact fun _ _ _ h => h) (by exact fun _ _ _ h => h) (by exact fun _ _ _ h => h) CA1.out ?_
      refine g_callv1 (f := 19) (A := PVp 2 2 (Fo.cons k1 o1 n1 t1 F1 (.cons k2 o2 n2 t2 F2 .nil))) (R := PVp 1 1 (Fo.cons 2 0 e0 e0 (Fo.cons k1 o1 n1 t1 F1 (.cons k2 o2 n2 t2 F2 .nil)) .nil)) (by rfl) Tryz.func19 (by kernel_rfl) rfl (stb_pvp 1 1 (Fo.cons 2 0 e0 e0 (Fo.cons k1 o1 n1 t1 F1 (.cons k2 o2 n2 t2 F2 .nil)) .nil)) (by exact fun _ _ _ h => h) (by exact fun _ _ _ h => h) CM.out ?_
      refine g_ldw (g := gf) (cs := #[.string x.m, .string x.p, .slice x.a1 x.cl.length x.c1, .slice x.a2 x.ce.length x.c2]) (R := AtB w3 x.v) (by rfl) (by exact fun _ _ _ h => h) (by repeat (first | exact List.Mem.head _ | refine List.Mem.tail _ ?_)) Tryz.underlying27 rfl fac_info (stb_atb w3 _) (by exact fun _ hb => ⟨rfl, b_trans hB0 hb⟩) ?_
      refine g_call2 (A := PVp 1 1 (Fo.cons 2 0 e0 e0 (Fo.cons k1 o1 n1 t1 F1 (.cons k2 o2 n2 t2 F2 .nil)) .nil)) (A' := AtB w3 x.v) (R := Is (.bool true)) (by rfl) Tryz.func13 (by kernel_rfl) rfl (stb_is _) (by exact fun _ _ _ h => h) (by exact fun _ _ _ h => h) DHM.out ?_
      refine g_move (R := Is (.func (.func 21) #[] #[])) (by rfl) (stb_is _) (by exact fun _ _ _ h => h) ?_
      refine g_move (R := Is (.func (.func 19) #[] #[])) (by rfl) (stb_is _) (by exact fun _ _ _ h => h) ?_
      refine g_ldw (g := gp) (cs := #[.int .i64 k1, .int .i64 o1, .string n1, .string t1, .slice a1 L1 c1]) (R := AtB w3 (pv k1 o1 n1 t1 a1 L1 c1)) (by rfl) (by exact fun _ _ _ h => h) (by repeat (first | exact List.Mem.head _ | refine List.Mem.tail _ ?_)) Tryz.underlying24 rfl pol_info (stb_atb w3 _) (by exact fun _ hb => ⟨rfl, b_trans hB0 hb⟩) ?_
      refine g_callv1 (f := 19) (A := AtB w3 (pv k1 o1 n1 t1 a1 L1 c1)) (R := PVp 1 1 (Fo.cons k1 o1 n1 t1 F1 .nil)) (by rfl) Tryz.func19 (by kernel_rfl) rfl (stb_pvp 1 1 (Fo.cons k1 o1 n1 t1 F1 .nil)) (by exact fun _ _ _ h => h) (by exact fun _ _ _ h => h) CN1.out ?_
      refine g_move (R := Is (.func (.func 19) #[] #[])) (by rfl) (stb_is _) (by exact fun _ _ _ h => h) ?_
      refine g_ldw (g := gq) (cs := #[.int .i64 k2, .int .i64 o2, .string n2, .string t2, .slice a2 L2 c2]) (R := AtB w3 (pv k2 o2 n2 t2 a2 L2 c2)) (by rfl) (by exact fun _ _ _ h => h) (by repeat (first | exact List.Mem.head _ | refine List.Mem.tail _ ?_)) Tryz.underlying24 rfl pol_info (stb_atb w3 _) (by exact fun _ hb => ⟨rfl, b_trans hB0 hb⟩) ?_
      refine g_callv1 (f := 19) (A := AtB w3 (pv k2 o2 n2 t2 a2 L2 c2)) (R := PVp 1 1 (Fo.cons k2 o2 n2 t2 F2 .nil)) (by rfl) Tryz.func19 (by kernel_rfl) rfl (stb_pvp 1 1 (Fo.cons k2 o2 n2 t2 F2 .nil)) (by exact fun _ _ _ h => h) (by exact fun _ _ _ h => h) CN2.out ?_
      refine g_callv2 (f := 21) (A := PVp 1 1 (Fo.cons k1 o1 n1 t1 F1 .nil)) (A' := PVp 1 1 (Fo.cons k2 o2 n2 t2 F2 .nil)) (R := PVp 3 2 (Fo.cons 1 0 e0 e0 (Fo.cons k1 o1 n1 t1 F1 .nil) (.cons 1 0 e0 e0 (Fo.cons k2 o2 n2 t2 F2 .nil) .nil))) (by rfl) Tryz.func21 (by kernel_rfl) rfl (stb_pvp 3 2 (Fo.cons 1 0 e0 e0 (Fo.cons k1 o1 n1 t1 F1 .nil) (.cons 1 0 e0 e0 (Fo.cons k2 o2 n2 t2 F2 .nil) .nil))) (by exact fun _ _ _ h => h) (by exact fun _ _ _ h => h) (by exact fun _ _ _ h => h) COR.out ?_
      refine g_ldw (g := gf) (cs := #[.string x.m, .string x.p, .slice x.a1 x.cl.length x.c1, .slice x.a2 x.ce.length x.c2]) (R := AtB w3 x.v) (by rfl) (by exact fun _ _ _ h => h) (by repeat (first | exact List.Mem.head _ | refine List.Mem.tail _ ?_)) Tryz.underlying27 rfl fac_info (stb_atb w3 _) (by exact fun _ hb => ⟨rfl, b_trans hB0 hb⟩) ?_
      refine g_call2 (A := PVp 3 2 (Fo.cons 1 0 e0 e0 (Fo.cons k1 o1 n1 t1 F1 .nil) (.cons 1 0 e0 e0 (Fo.cons k2 o2 n2 t2 F2 .nil) .nil))) (A' := AtB w3 x.v) (R := Is (.bool true)) (by rfl) Tryz.func13 (by kernel_rfl) rfl (stb_is _) (by exact fun _ _ _ h => h) (by exact fun _ _ _ h => h) DHR.out ?_
      refine g_bin (v := .bool true) (u := .bool true) (r := .bool true) (by rfl) (by exact fun _ _ _ h => h) (by exact fun _ _ _ h => h) (by rfl) (fun _ => rfl) ?_
      refine g_move (R := Is (.bool true)) (by rfl) (stb_is _) (by exact fun _ _ _ h => h) ?_
      refine g_build0 (by rfl) ?_
      refine g_ldw (g := gf) (cs := #[.string x.m, .string x.p, .slice x.a1 x.cl.length x.c1, .slice x.a2 x.ce.length x.c2]) (R := AtB w3 x.v) (by rfl) (by exact fun _ _ _ h => h) (by repeat (first | exact List.Mem.head _ | refine List.Mem.tail _ ?_)) Tryz.underlying27 rfl fac_info (stb_atb w3 _) (by exact fun _ hb => ⟨rfl, b_trans hB0 hb⟩) ?_
      refine g_call2 (A := Is (pv 0 0 e0 e0 none 0 0)) (A' := AtB w3 x.v) (R := Is (.bool true)) (by rfl) Tryz.func13 (by kernel_rfl) rfl (stb_is _) (by exact fun _ _ _ h => h) (by exact fun _ _ _ h => h) DHZ.out ?_
      refine g_pick (b := true) (R := Is (.bool true)) (by rfl) (by exact fun _ _ _ h => h) (stb_is _) (by exact fun _ _ _ h => h) ?_
      refine g_move (R := Is (.bool true)) (by rfl) (stb_is _) (by exact fun _ _ _ h => h) ?_
      refine g_call (f := 15) (xs := []) (R := Is (.bool true)) (by rfl) Tryz.func15 (by kernel_rfl) rfl (stb_is _) (by exact fun w _ _ _ => (fixed_any w).mono fun _ _ h => rp_b h) ?_
      refine g_pick (b := true) (R := Is (.bool true)) (by rfl) (by exact fun _ _ _ h => h) (stb_is _) (by exact fun _ _ _ h => h) ?_
      intro w7 hR hb7 v114 h114 v115 h115 v116 h116 v117 h117 v118 h118 v119 h119 v120 h120 v121 h121 v122 h122 v123 h123 v124 h124 v125 h125 v126 h126 v127 h127 v128 h128 v129 h129 v130 h130 v131 h131 v132 h132 v133 h133 v134 h134 v135 h135 v136 h136 v137 h137 v138 h138 v139 h139 v140 h140
      simp only [softEnd, Act.put, List.setIfInBounds_toArray, List.set_cons_succ, List.set_cons_zero, List.drop_succ_cons, List.drop_zero]
      have hB0 := b_trans hB0 hb7
      obtain rfl : v140 = .bool true := h140
      clear h114 h115 h116 h117 h118 h119 h120 h121 h122 h123 h124 h125 h126 h127 h128 h129 h130 h131 h132 h133 h134 h135 h136 h137 h138 h139
      go_wp2_with fail
      go_ret
      exact ⟨rfl, b_trans HB.out hB0⟩
    · skip
      go_upto_region 6 with fail
      refine wp_region_softG 7 (by kernel_rfl) (by kernel_rfl) (by rfl) hR ?_
      refine g_ldw (g := gp) (cs := #[.int .i64 k1, .int .i64 o1, .string n1, .string t1, .slice a1 L1 c1]) (R := AtB w3 (pv k1 o1 n1 t1 a1 L1 c1)) (by rfl) (by exact fun _ _ _ h => h) (by repeat (first | exact List.Mem.head _ | refine List.Mem.tail _ ?_)) Tryz.underlying24 rfl pol_info (stb_atb w3 _) (by exact fun _ hb => ⟨rfl, b_trans hB0 hb⟩) ?_
      refine g_ldw (g := gf) (cs := #[.string x.m, .string x.p, .slice x.a1 x.cl.length x.c1, .slice x.a2 x.ce.length x.c2]) (R := AtB w3 x.v) (by rfl) (by exact fun _ _ _ h => h) (by repeat (first | exact List.Mem.head _ | refine List.Mem.tail _ ?_)) Tryz.underlying27 rfl fac_info (stb_atb w3 _) (by exact fun _ hb => ⟨rfl, b_trans hB0 hb⟩) ?_
      refine g_call2 (A := AtB w3 (pv k1 o1 n1 t1 a1 L1 c1)) (A' := AtB w3 x.v) (R := Is (.bool false)) (by rfl) Tryz.func13 (by kernel_rfl) rfl (stb_is _) (by exact fun _ _ _ h => h) (by exact fun _ _ _ h => h) HHP.out ?_
      refine g_ldw (g := gq) (cs := #[.int .i64 k2, .int .i64 o2, .string n2, .string t2, .slice a2 L2 c2]) (R := AtB w3 (pv k2 o2 n2 t2 a2 L2 c2)) (by rfl) (by exact fun _ _ _ h => h) (by repeat (first | exact List.Mem.head _ | refine List.Mem.tail _ ?_)) Tryz.underlying24 rfl pol_info (stb_atb w3 _) (by exact fun _ hb => ⟨rfl, b_trans hB0 hb⟩) ?_
      refine g_ldw (g := gf) (cs := #[.string x.m, .string x.p, .slice x.a1 x.cl.length x.c1, .slice x.a2 x.ce.length x.c2]) (R := AtB w3 x.v) (by rfl) (by exact fun _ _ _ h => h) (by repeat (first | exact List.Mem.head _ | refine List.Mem.tail _ ?_)) Tryz.underlying27 rfl fac_info (stb_atb w3 _) (by exact fun _ hb => ⟨rfl, b_trans hB0 hb⟩) ?_
      refine g_call2 (A := AtB w3 (pv k2 o2 n2 t2 a2 L2 c2)) (A' := AtB w3 x.v) (R := Is (.bool true)) (by rfl) Tryz.func13 (by kernel_rfl) rfl (stb_is _) (by exact fun _ _ _ h => h) (by exact fun _ _ _ h => h) HHQ.out ?_
      refine g_assign (R := Is (.bool false)) (by rfl) (stb_is _) (by exact fun _ _ _ h => h) ?_
      intro w5 hR hb5 v38 h38 v39 h39 v40 h40 v41 h41 v42 h42 v43 h43 v10 h10
      simp only [softEnd, Act.put, List.setIfInBounds_toArray, List.set_cons_succ, List.set_cons_zero, List.drop_succ_cons, List.drop_zero]
      have hB0 := b_trans hB0 hb5
      obtain rfl : v10 = .bool false := h10
      clear h38 h39 h40 h41 h42
      obtain rfl : v43 = .bool true := h43
      go_upto_region 7 with fail
      dsimp only [List.append]
      refine wp_region_softG 69 (by kernel_rfl) (by kernel_rfl) (by rfl) hR ?_
      refine g_move (R := Is (.func (.func 19) #[] #[])) (by rfl) (stb_is _) (by exact fun _ _ _ h => h) ?_
      refine g_ldw (g := gp) (cs := #[.int .i64 k1, .int .i64 o1, .string n1, .string t1, .slice a1 L1 c1]) (R := AtB w3 (pv k1 o1 n1 t1 a1 L1 c1)) (by rfl) (by exact fun _ _ _ h => h) (by repeat (first | exact List.Mem.head _ | refine List.Mem.tail _ ?_)) Tryz.underlying24 rfl pol_info (stb_atb w3 _) (by exact fun _ hb => ⟨rfl, b_trans hB0 hb⟩) ?_
      refine g_callv1 (f := 19) (A := AtB w3 (pv k1 o1 n1 t1 a1 L1 c1)) (R := PVp 1 1 (Fo.cons k1 o1 n1 t1 F1 .nil)) (by rfl) Tryz.func19 (by kernel_rfl) rfl (stb_pvp 1 1 (Fo.cons k1 o1 n1 t1 F1 .nil)) (by exact fun _ _ _ h => h) (by exact fun _ _ _ h => h) CN1.out ?_
      refine g_ldw (g := gf) (cs := #[.string x.m, .string x.p, .slice x.a1 x.cl.length x.c1, .slice x.a2 x.ce.length x.c2]) (R := AtB w3 x.v) (by rfl) (by exact fun _ _ _ h => h) (by repeat (first | exact List.Mem.head _ | refine List.Mem.tail _ ?_)) Tryz.underlying27 rfl fac_info (stb_atb w3 _) (by exact fun _ hb => ⟨rfl, b_trans hB0 hb⟩) ?_
      refine g_call2 (A := PVp 1 1 (Fo.cons k1 o1 n1 t1 F1 .nil)) (A' := AtB w3 x.v) (R := Is (.bool true)) (by rfl) Tryz.func13 (by kernel_rfl) rfl (stb_is _) (by exact fun _ _ _ h => h) (by exact fun _ _ _ h => h) DHN.out ?_
      refine g_move (R := Is (.bool false)) (by rfl) (stb_is _) (by exact fun _ _ _ h => h) ?_
      refine g_bin (v := .bool true) (u := .bool false) (r := .bool false) (by rfl) (by exact fun _ _ _ h => h) (by exact fun _ _ _ h => h) (by rfl) (fun _ => rfl) ?_
      refine g_move (R := Is (.bool false)) (by rfl) (stb_is _) (by exact fun _ _ _ h => h) ?_
      refine g_move (R := Is (.func (.func 19) #[] #[])) (by rfl) (stb_is _) (by exact fun _ _ _ h => h) ?_
      refine g_move (R := Is (.func (.func 19) #[] #[])) (by rfl) (stb_is _) (by exact fun _ _ _ h => h) ?_
      refine g_ldw (g := gp) (cs := #[.int .i64 k1, .int .i64 o1, .string n1, .string t1, .slice a1 L1 c1]) (R := AtB w3 (pv k1 o1 n1 t1 a1 L1 c1)) (by rfl) (by exact fun _ _ _ h => h) (by repeat (first | exact List.Mem.head _ | refine List.Mem.tail _ ?_)) Tryz.underlying24 rfl pol_info (stb_atb w3 _) (by exact fun _ hb => ⟨rfl, b_trans hB0 hb⟩) ?_
      refine g_callv1 (f := 19) (A := AtB w3 (pv k1 o1 n1 t1 a1 L1 c1)) (R := PVp 1 1 (Fo.cons k1 o1 n1 t1 F1 .nil)) (by rfl) Tryz.func19 (by kernel_rfl) rfl (stb_pvp 1 1 (Fo.cons k1 o1 n1 t1 F1 .nil)) (by exact fun _ _ _ h => h) (by exact fun _ _ _ h => h) CN1.out ?_
      refine g_callv1 (f := 19) (A := PVp 1 1 (Fo.cons k1 o1 n1 t1 F1 .nil)) (R := PVp 1 1 (Fo.cons 1 0 e0 e0 (Fo.cons k1 o1 n1 t1 F1 .nil) .nil)) (by rfl) Tryz.func19 (by kernel_rfl) rfl (stb_pvp 1 1 (Fo.cons 1 0 e0 e0 (Fo.cons k1 o1 n1 t1 F1 .nil) .nil)) (by exact fun _ _ _ h => h) (by exact fun _ _ _ h => h) CG1.out ?_
      refine g_ldw (g := gf) (cs := #[.string x.m, .string x.p, .slice x.a1 x.cl.length x.c1, .slice x.a2 x.ce.length x.c2]) (R := AtB w3 x.v) (by rfl) (by exact fun _ _ _ h => h) (by repeat (first | exact List.Mem.head _ | refine List.Mem.tail _ ?_)) Tryz.underlying27 rfl fac_info (stb_atb w3 _) (by exact fun _ hb => ⟨rfl, b_trans hB0 hb⟩) ?_
      refine g_call2 (A := PVp 1 1 (Fo.cons 1 0 e0 e0 (Fo.cons k1 o1 n1 t1 F1 .nil) .nil)) (A' := AtB w3 x.v) (R := Is (.bool false)) (by rfl) Tryz.func13 (by kernel_rfl) rfl (stb_is _) (by exact fun _ _ _ h => h) (by exact fun _ _ _ h => h) DHG.out ?_
      refine g_move (R := Is (.bool false)) (by rfl) (stb_is _) (by exact fun _ _ _ h => h) ?_
      refine g_bin (v := .bool false) (u := .bool false) (r := .bool false) (by rfl) (by exact fun _ _ _ h => h) (by exact fun _ _ _ h => h) (by rfl) (fun _ => rfl) ?_
      refine g_pick (b := false) (R := Is (.bool false)) (by rfl) (by exact fun _ _ _ h => h) (stb_is _) (by exact fun _ _ _ h => h) ?_
      refine g_move (R := Is (.bool false)) (by rfl) (stb_is _) (by exact fun _ _ _ h => h) ?_
      refine g_move (R := Is (.func (.func 20) #[] #[])) (by rfl) (stb_is _) (by exact fun _ _ _ h => h) ?_
      refine g_ldw (g := gp) (cs := #[.int .i64 k1, .int .i64 o1, .string n1, .string t1, .slice a1 L1 c1]) (R := AtB w3 (pv k1 o1 n1 t1 a1 L1 c1)) (by rfl) (by exact fun _ _ _ h => h) (by repeat (first | exact List.Mem.head _ | refine List.Mem.tail _ ?_)) Tryz.underlying24 rfl pol_info (stb_atb w3 _) (by exact fun _ hb => ⟨rfl, b_trans hB0 hb⟩) ?_
      refine g_ldw (g := gq) (cs := #[.int .i64 k2, .int .i64 o2, .string n2, .string t2, .slice a2 L2 c2]) (R := AtB w3 (pv k2 o2 n2 t2 a2 L2 c2)) (by rfl) (by exact fun _ _ _ h => h) (by repeat (first | exact List.Mem.head _ | refine List.Mem.tail _ ?_)) Tryz.underlying24 rfl pol_info (stb_atb w3 _) (by exact fun _ hb => ⟨rfl, b_trans hB0 hb⟩) ?_
      refine g_callv2 (f := 20) (A := AtB w3 (pv k1 o1 n1 t1 a1 L1 c1)) (A' := AtB w3 (pv k2 o2 n2 t2 a2 L2 c2)) (R := PVp 2 2 (Fo.cons k1 o1 n1 t1 F1 (.cons k2 o2 n2 t2 F2 .nil))) (by rfl) Tryz.func20 (by kernel_rfl) rfl (stb_pvp 2 2 (Fo.cons k1 o1 n1 t1 F1 (.cons k2 o2 n2 t2 F2 .nil))) (by exact fun _ _ _ h => h) (by exact fun _ _ _ h => h) (by exact fun _ _ _ h => h) CA1.out ?_
      refine g_ldw (g := gf) (cs := #[.string x.m, .string x.p, .slice x.a1 x.cl.length x.c1, .slice x.a2 x.ce.length x.c2]) (R := AtB w3 x.v) (by rfl) (by exact fun _ _ _ h => h) (by repeat (first | exact List.Mem.head _ | refine List.Mem.tail _ ?_)) Tryz.underlying27 rfl fac_info (stb_atb w3 _) (by exact fun _ hb => ⟨rfl, b_trans hB0 hb⟩) ?_
      refine g_call2 (A := PVp 2 2 (Fo.cons k1 o1 n1 t1 F1 (.cons k2 o2 n2 t2 F2 .nil))) (A' := AtB w3 x.v) (R := Is (.bool false)) (by rfl) Tryz.func13 (by kernel_rfl) rfl (stb_is _) (by exact fun _ _ _ h => h) (by exact fun _ _ _ h => h) DHA.out ?_
      refine g_move (R := Is (.bool false)) (by rfl) (stb_is _) (by exact fun _ _ _ h => h) ?_
      refine g_move (R := Is (.bool false)) (by rfl) (stb_is _) (by exact fun _ _ _ h => h) ?_
      refine g_dead (dead_of rfl rfl (fun _ _ _ h => h) (by rfl)) ?_
      refine g_pick (b := false) (R := Is (.bool false)) (by rfl) (by exact fun _ _ _ h => h) (stb_is _) (by exact fun _ _ _ h => h) ?_
      refine g_bin (v := .bool false) (u := .bool false) (r := .bool false) (by rfl) (by exact fun _ _ _ h => h) (by exact fun _ _ _ h => h) (by rfl) (fun _ => rfl) ?_
      refine g_pick (b := false) (R := Is (.bool false)) (by rfl) (by exact fun _ _ _ h => h) (stb_is _) (by exact fun _ _ _ h => h) ?_
      refine g_move (R := Is (.bool false)) (by rfl) (stb_is _) (by exact fun _ _ _ h => h) ?_
      refine g_move (R := Is (.func (.func 21) #[] #[])) (by rfl) (stb_is _) (by exact fun _ _ _ h => h) ?_
      refine g_ldw (g := gp) (cs := #[.int .i64 k1, .int .i64 o1, .string n1, .string t1, .slice a1 L1 c1]) (R := AtB w3 (pv k1 o1 n1 t1 a1 L1 c1)) (by rfl) (by exact fun _ _ _ h => h) (by repeat (first | exact List.Mem.head _ | refine List.Mem.tail _ ?_)) Tryz.underlying24 rfl pol_info (stb_atb w3 _) (by exact fun _ hb => ⟨rfl, b_trans hB0 hb⟩) ?_
      refine g_ldw (g := gq) (cs := #[.int .i64 k2, .int .i64 o2, .string n2, .string t2, .slice a2 L2 c2]) (R := AtB w3 (pv k2 o2 n2 t2 a2 L2 c2)) (by rfl) (by exact fun _ _ _ h => h) (by repeat (first | exact List.Mem.head _ | refine List.Mem.tail _ ?_)) Tryz.underlying24 rfl pol_info (stb_atb w3 _) (by exact fun _ hb => ⟨rfl, b_trans hB0 hb⟩) ?_
      refine g_callv2 (f := 21) (A := AtB w3 (pv k1 o1 n1 t1 a1 L1 c1)) (A' := AtB w3 (pv k2 o2 n2 t2 a2 L2 c2)) (R := PVp 3 2 (Fo.cons k1 o1 n1 t1 F1 (.cons k2 o2 n2 t2 F2 .nil))) (by rfl) Tryz.func21 (by kernel_rfl) rfl (stb_pvp 3 2 (Fo.cons k1 o1 n1 t1 F1 (.cons k2 o2 n2 t2 F2 .nil))) (by exact fun _ _ _ h => h) (by exact fun _ _ _ h => h) (by exact fun _ _ _ h => h) CO1.out ?_
      refine g_ldw (g := gf) (cs := #[.string x.m, .string x.p, .slice x.a1 x.cl.length x.c1, .slice x.a2 x.ce.length x.c2]) (R := AtB w3 x.v) (by rfl) (by exact fun _ _ _ h => h) (by repeat (first | exact List.Mem.head _ | refine List.Mem.tail _ ?_)) Tryz.underlying27 rfl fac_info (stb_atb w3 _) (by exact fun _ hb => ⟨rfl, b_trans hB0 hb⟩) ?_
      refine g_call2 (A := PVp 3 2 (Fo.cons k1 o1 n1 t1 F1 (.cons k2 o2 n2 t2 F2 .nil))) (A' := AtB w3 x.v) (R := Is (.bool true)) (by rfl) Tryz.func13 (by kernel_rfl) rfl (stb_is _) (by exact fun _ _ _ h => h) (by exact fun _ _ _ h => h) DHO.out ?_
      refine g_move (R := Is (.bool false)) (by rfl) (stb_is _) (by exact fun _ _ _ h => h) ?_
      refine g_move (R := Is (.bool false)) (by rfl) (stb_is _) (by exact fun _ _ _ h => h) ?_
      refine g_move (R := Is (.bool true)) (by rfl) (stb_is _) (by exact fun _ _ _ h => h) ?_
      refine g_pick (b := false) (R := Is (.bool true)) (by rfl) (by exact fun _ _ _ h => h) (stb_is _) (by exact fun _ _ _ h => h) ?_
      refine g_bin (v := .bool true) (u := .bool true) (r := .bool false) (by rfl) (by exact fun _ _ _ h => h) (by exact fun _ _ _ h => h) (by rfl) (fun _ => rfl) ?_
      refine g_pick (b := false) (R := Is (.bool false)) (by rfl) (by exact fun _ _ _ h => h) (stb_is _) (by exact fun _ _ _ h => h) ?_
      refine g_move (R := Is (.bool false)) (by rfl) (stb_is _) (by exact fun _ _ _ h => h) ?_
      refine g_move (R := Is (.func (.func 20) #[] #[])) (by rfl) (stb_is _) (by exact fun _ _ _ h => h) ?_
      refine g_ldw (g := gq) (cs := #[.int .i64 k2, .int .i64 o2, .string n2, .string t2, .slice a2 L2 c2]) (R := AtB w3 (pv k2 o2 n2 t2 a2 L2 c2)) (by rfl) (by exact fun _ _ _ h => h) (by repeat (first | exact List.Mem.head _ | refine List.Mem.tail _ ?_)) Tryz.underlying24 rfl pol_info (stb_atb w3 _) (by exact fun _ hb => ⟨rfl, b_trans hB0 hb⟩) ?_
      refine g_ldw (g := gp) (cs := #[.int .i64 k1, .int .i64 o1, .string n1, .string t1, .slice a1 L1 c1]) (R := AtB w3 (pv k1 o1 n1 t1 a1 L1 c1)) (by rfl) (by exact fun _ _ _ h => h) (by repeat (first | exact List.Mem.head _ | refine List.Mem.tail _ ?_)) Tryz.underlying24 rfl pol_info (stb_atb w3 _) (by exact fun _ hb => ⟨rfl, b_trans hB0 hb⟩) ?_
      refine g_callv2 (f := 20) (A := AtB w3 (pv k2 o2 n2 t2 a2 L2 c2)) (A' := AtB w3 (pv k1 o1 n1 t1 a1 L1 c1)) (R := PVp 2 2 (Fo.cons k2 o2 n2 t2 F2 (.cons k1 o1 n1 t1 F1 .nil))) (by rfl) Tryz.func20 (by kernel_rfl) rfl (stb_pvp 2 2 (Fo.cons k2 o2 n2 t2 F2 (.cons k1 o1 n1 t1 F1 .nil))) (by exact fun _ _ _ h => h) (by exact fun _ _ _ h => h) (by exact fun _ _ _ h => h) CA2.out ?_
      refine g_ldw (g := gf) (cs := #[.string x.m, .string x.p, .slice x.a1 x.cl.length x.c1, .slice x.a2 x.ce.length x.c2]) (R := AtB w3 x.v) (by rfl) (by exact fun _ _ _ h => h) (by repeat (first | exact List.Mem.head _ | refine List.Mem.tail _ ?_)) Tryz.underlying27 rfl fac_info (stb_atb w3 _) (by exact fun _ hb => ⟨rfl, b_trans hB0 hb⟩) ?_
      refine g_call2 (A := PVp 2 2 (Fo.cons k2 o2 n2 t2 F2 (.cons k1 o1 n1 t1 F1 .nil))) (A' := AtB w3 x.v) (R := Is (.bool false)) (by rfl) Tryz.func13 (by kernel_rfl) rfl (stb_is _) (by exact fun _ _ _ h => h) (by exact fun _ _ _ h => h) DHA2.out ?_
      refine g_move (R := Is (.bool false)) (by rfl) (stb_is _) (by exact fun _ _ _ h => h) ?_
      refine g_move (R := Is (.bool false)) (by rfl) (stb_is _) (by exact fun _ _ _ h => h) ?_
      refine g_dead (dead_of rfl rfl (fun _ _ _ h => h) (by rfl)) ?_
      refine g_pick (b := false) (R := Is (.bool false)) (by rfl) (by exact fun _ _ _ h => h) (stb_is _) (by exact fun _ _ _ h => h) ?_
      refine g_bin (v := .bool false) (u := .bool false) (r := .bool false) (by rfl) (by exact fun _ _ _ h => h) (by exact fun _ _ _ h => h) (by rfl) (fun _ => rfl) ?_
      refine g_pick (b := false) (R := Is (.bool false)) (by rfl) (by exact fun _ _ _ h => h) (stb_is _) (by exact fun _ _ _ h => h) ?_
      refine g_move (R := Is (.bool false)) (by rfl) (stb_is _) (by exact fun _ _ _ h => h) ?_
      refine g_move (R := Is (.func (.func 21) #[] #[])) (by rfl) (stb_is _) (by exact fun _ _ _ h => h) ?_
      refine g_ldw (g := gq) (cs := #[.int .i64 k2, .int .i64 o2, .string n2, .string t2, .slice a2 L2 c2]) (R := AtB w3 (pv k2 o2 n2 t2 a2 L2 c2)) (by rfl) (by exact fun _ _ _ h => h) (by repeat (first | exact List.Mem.head _ | refine List.Mem.tail _ ?_)) Tryz.underlying24 rfl pol_info (stb_atb w3 _) (by exact fun _ hb => ⟨rfl, b_trans hB0 hb⟩) ?_
      refine g_ldw (g := gp) (cs := #[.int .i64 k1, .int .i64 o1, .string n1, .string t1, .slice a1 L1 c1]) (R := AtB w3 (pv k1 o1 n1 t1 a1 L1 c1)) (by rfl) (by exact fun _ _ _ h => h) (by repeat (first | exact List.Mem.head _ | refine List.Mem.tail _ ?_)) Tryz.underlying24 rfl pol_info (stb_atb w3 _) (by exact fun _ hb => ⟨rfl, b_trans hB0 hb⟩) ?_
      refine g_callv2 (f := 21) (A := AtB w3 (pv k2 o2 n2 t2 a2 L2 c2)) (A' := AtB w3 (pv k1 o1 n1 t1 a1 L1 c1)) (R := PVp 3 2 (Fo.cons k2 o2 n2 t2 F2 (.cons k1 o1 n1 t1 F1 .nil))) (by rfl) Tryz.func21 (by kernel_rfl) rfl (stb_pvp 3 2 (Fo.cons k2 o2 n2 t2 F2 (.cons k1 o1 n1 t1 F1 .nil))) (by exact fun _ _ _ h => h) (by exact fun _ _ _ h => h) (by exact fun _ _ _ h => h) CO2.out ?_
      refine g_ldw (g := gf) (cs := #[.string x.m, .string x.p, .slice x.a1 x.cl.length x.c1, .slice x.a2 x.ce.length x.c2]) (R := AtB w3 x.v) (by rfl) (by exact fun _ _ _ h => h) (by repeat (first | exact List.Mem.head _ | refine List.Mem.tail _ ?_)) Tryz.underlying27 rfl fac_info (stb_atb w3 _) (by exact fun _ hb => ⟨rfl, b_trans hB0 hb⟩) ?_
      refine g_call2 (A := PVp 3 2 (Fo.cons k2 o2 n2 t2 F2 (.cons k1 o1 n1 t1 F1 .nil))) (A' := AtB w3 x.v) (R := Is (.bool true)) (by rfl) Tryz.func13 (by kernel_rfl) rfl (stb_is _) (by exact fun _ _ _ h => h) (by exact fun _ _ _ h => h) DHO2.out ?_
      refine g_move (R := Is (.bool false)) (by rfl) (stb_is _) (by exact fun _ _ _ h => h) ?_
      refine g_move (R := Is (.bool false)) (by rfl) (stb_is _) (by exact fun _ _ _ h => h) ?_
      refine g_move (R := Is (.bool true)) (by rfl) (stb_is _) (by exact fun _ _ _ h => h) ?_
      refine g_pick (b := false) (R := Is (.bool true)) (by rfl) (by exact fun _ _ _ h => h) (stb_is _) (by exact fun _ _ _ h => h) ?_
      refine g_bin (v := .bool true) (u := .bool true) (r := .bool false) (by rfl) (by exact fun _ _ _ h => h) (by exact fun _ _ _ h => h) (by rfl) (fun _ => rfl) ?_
      intro w6 hR hb6 v44 h44 v45 h45 v46 h46 v47 h47 v48 h48 v49 h49 v50 h50 v51 h51 v52 h52 v53 h53 v54 h54 v55 h55 v56 h56 v57 h57 v58 h58 v59 h59 v60 h60 v61 h61 v62 h62 v63 h63 v64 h64 v65 h65 v66 h66 v67 h67 v68 h68 v69 h69 v70 h70 v71 h71 v72 h72 v73 h73 v74 h74 v75 h75 v76 h76 v77 h77 v78 h78 v79 h79 v80 h80 v81 h81 v82 h82 v83 h83 v84 h84 v85 h85 v86 h86 v87 h87 v88 h88 v89 h89 v90 h90 v91 h91 v92 h92 v93 h93 v94 h94 v95 h95 v96 h96 v97 h97 v98 h98 v99 h99 v100 h100 v101 h101 v102 h102 v103 h103 v104 h104 v105 h105 v106 h106 v107 h107 v108 h108 v109 h109 v110 h110 v111 h111 v112 h112
      simp only [softEnd, Act.put, List.setIfInBounds_toArray, List.set_cons_succ, List.set_cons_zero, List.drop_succ_cons, List.drop_zero]
      have hB0 := b_trans hB0 hb6
      obtain rfl : v101 = .bool false := h101
      obtain rfl : v112 = .bool false := h112
      clear h44 h45 h46 h47 h48 h49 h50 h51 h52 h53 h54 h55 h56 h57 h58 h59 h60 h61 h62 h63 h64 h65 h66 h67 h68 h69 h70 h71 h72 h73 h74 h75 h76 h77 h78 h79 h80 h81 h82 h83 h84 h85 h86 h87 h88 h89 h90 h91 h92 h93 h94 h95 h96 h97 h98 h99 h100 h102 h103 h104 h105 h106 h107 h108 h109 h110 h111
      go_upto_region 9 with fail
      refine wp_region_softG 27 (by kernel_rfl) (by kernel_rfl) (by rfl) hR ?_
      refine g_move (R := Is (.func (.func 19) #[] #[])) (by rfl) (stb_is _) (by exact fun _ _ _ h => h) ?_
      refine g_move (R := Is (.func (.func 20) #[] #[])) (by rfl) (stb_is _) (by exact fun _ _ _ h => h) ?_
      refine g_ldw (g := gp) (cs := #[.int .i64 k1, .int .i64 o1, .string n1, .string t1, .slice a1 L1 c1]) (R := AtB w3 (pv k1 o1 n1 t1 a1 L1 c1)) (by rfl) (by exact fun _ _ _ h => h) (by repeat (first | exact List.Mem.head _ | refine List.Mem.tail _ ?_)) Tryz.underlying24 rfl pol_info (stb_atb w3 _) (by exact fun _ hb => ⟨rfl, b_trans hB0 hb⟩) ?_
      refine g_ldw (g := gq) (cs := #[.int .i64 k2, .int .i64 o2, .string n2, .string t2, .slice a2 L2 c2]) (R := AtB w3 (pv k2 o2 n2 t2 a2 L2 c2)) (by rfl) (by exact fun _ _ _ h => h) (by repeat (first | exact List.Mem.head _ | refine List.Mem.tail _ ?_)) Tryz.underlying24 rfl pol_info (stb_atb w3 _) (by exact fun _ hb => ⟨rfl, b_trans hB0 hb⟩) ?_
      refine g_callv2 (f := 20) (A := AtB w3 (pv k1 o1 n1 t1 a1 L1 c1)) (A' := AtB w3 (pv k2 o2 n2 t2 a2 L2 c2)) (R := PVp 2 2 (Fo.cons k1 o1 n1 t1 F1 (.cons k2 o2 n2 t2 F2 .nil))) (by rfl) Tryz.func20 (by kernel_rfl) rfl (stb_pvp 2 2 (Fo.cons k1 o1 n1 t1 F1 (.cons k2 o2 n2 t2 F2 .nil))) (by exact fun _ _ _ h => h) (by exact fun _ _ _ h => h) (by exact fun _ _ _ h => h) CA1.out ?_
      refine g_callv1 (f := 19) (A := PVp 2 2 (Fo.cons k1 o1 n1 t1 F1 (.cons k2 o2 n2 t2 F2 .nil))) (R := PVp 1 1 (Fo.cons 2 0 e0 e0 (Fo.cons k1 o1 n1 t1 F1 (.cons k2 o2 n2 t2 F2 .nil)) .nil)) (by rfl) Tryz.func19 (by kernel_rfl) rfl (stb_pvp 1 1 (Fo.cons 2 0 e0 e0 (Fo.cons k1 o1 n1 t1 F1 (.cons k2 o2 n2 t2 F2 .nil)) .nil)) (by exact fun _ _ _ h => h) (by exact fun _ _ _ h => h) CM.out ?_
      refine g_ldw (g := gf) (cs := #[.string x.m, .string x.p, .slice x.a1 x.cl.length x.c1, .slice x.a2 x.ce.length x.c2]) (R := AtB w3 x.v) (by rfl) (by exact fun _ _ _ h => h) (by repeat (first | exact List.Mem.head _ | refine List.Mem.tail _ ?_)) Tryz.underlying27 rfl fac_info (stb_atb w3 _) (by exact fun _ hb => ⟨rfl, b_trans hB0 hb⟩) ?_
      refine g_call2 (A := PVp 1 1 (Fo.cons 2 0 e0 e0 (Fo.cons k1 o1 n1 t1 F1 (.cons k2 o2 n2 t2 F2 .nil)) .nil)) (A' := AtB w3 x.v) (R := Is (.bool true)) (by rfl) Tryz.func13 (by kernel_rfl) rfl (stb_is _) (by exact fun _ _ _ h => h) (by exact fun _ _ _ h => h) DHM.out ?_
      refine g_move (R := Is (.func (.func 21) #[] #[])) (by rfl) (stb_is _) (by exact fun _ _ _ h => h) ?_
      refine g_move (R := Is (.func (.func 19) #[] #[])) (by rfl) (stb_is _) (by exact fun _ _ _ h => h) ?_
      refine g_ldw (g := gp) (cs := #[.int .i64 k1, .int .i64 o1, .string n1, .string t1, .slice a1 L1 c1]) (R := AtB w3 (pv k1 o1 n1 t1 a1 L1 c1)) (by rfl) (by exact fun _ _ _ h => h) (by repeat (first | exact List.Mem.head _ | refine List.Mem.tail _ ?_)) Tryz.underlying24 rfl pol_info (stb_atb w3 _) (by exact fun _ hb => ⟨rfl, b_trans hB0 hb⟩) ?_
      refine g_callv1 (f := 19) (A := AtB w3 (pv k1 o1 n1 t1 a1 L1 c1)) (R := PVp 1 1 (Fo.cons k1 o1 n1 t1 F1 .nil)) (by rfl) Tryz.func19 (by kernel_rfl) rfl (stb_pvp 1 1 (Fo.cons k1 o1 n1 t1 F1 .nil)) (by exact fun _ _ _ h => h) (by exact fun _ _ _ h => h) CN1.out ?_
      refine g_move (R := Is (.func (.func 19) #[] #[])) (by rfl) (stb_is _) (by exact fun _ _ _ h => h) ?_
      refine g_ldw (g := gq) (cs := #[.int .i64 k2, .int .i64 o2, .string n2, .string t2, .slice a2 L2 c2]) (R := AtB w3 (pv k2 o2 n2 t2 a2 L2 c2)) (by rfl) (by exact fun _ _ _ h => h) (by repeat (first | exact List.Mem.head _ | refine List.Mem.tail _ ?_)) Tryz.underlying24 rfl pol_info (stb_atb w3 _) (by exact fun _ hb => ⟨rfl, b_trans hB0 hb⟩) ?_
      refine g_callv1 (f := 19) (A := AtB w3 (pv k2 o2 n2 t2 a2 L2 c2)) (R := PVp 1 1 (Fo.cons k2 o2 n2 t2 F2 .nil)) (by rfl) Tryz.func19 (by kernel_rfl) rfl (stb_pvp 1 1 (Fo.cons k2 o2 n2 t2 F2 .nil)) (by exact fun _ _ _ h => h) (by exact fun _ _ _ h => h) CN2.out ?_
      refine g_callv2 (f := 21) (A := PVp 1 1 (Fo.cons k1 o1 n1 t1 F1 .nil)) (A' := PVp 1 1 (Fo.cons k2 o2 n2 t2 F2 .nil)) (R := PVp 3 2 (Fo.cons 1 0 e0 e0 (Fo.cons k1 o1 n1 t1 F1 .nil) (.cons 1 0 e0 e0 (Fo.cons k2 o2 n2 t2 F2 .nil) .nil))) (by rfl) Tryz.func21 (by kernel_rfl) rfl (stb_pvp 3 2 (Fo.cons 1 0 e0 e0 (Fo.cons k1 o1 n1 t1 F1 .nil) (.cons 1 0 e0 e0 (Fo.cons k2 o2 n2 t2 F2 .nil) .nil))) (by exact fun _ _ _ h => h) (by exact fun _ _ _ h => h) (by exact fun _ _ _ h => h) COR.out ?_
      refine g_ldw (g := gf) (cs := #[.string x.m, .string x.p, .slice x.a1 x.cl.length x.c1, .slice x.a2 x.ce.length x.c2]) (R := AtB w3 x.v) (by rfl) (by exact fun _ _ _ h => h) (by repeat (first | exact List.Mem.head _ | refine List.Mem.tail _ ?_)) Tryz.underlying27 rfl fac_info (stb_atb w3 _) (by exact fun _ hb => ⟨rfl, b_trans hB0 hb⟩) ?_
      refine g_call2 (A := PVp 3 2 (Fo.cons 1 0 e0 e0 (Fo.cons k1 o1 n1 t1 F1 .nil) (.cons 1 0 e0 e0 (Fo.cons k2 o2 n2 t2 F2 .nil) .nil))) (A' := AtB w3 x.v) (R := Is (.bool true)) (by rfl) Tryz.func13 (by kernel_rfl) rfl (stb_is _) (by exact fun _ _ _ h => h) (by exact fun _ _ _ h => h) DHR.out ?_
      refine g_bin (v := .bool true) (u := .bool true) (r := .bool true) (by rfl) (by exact fun _ _ _ h => h) (by exact fun _ _ _ h => h) (by rfl) (fun _ => rfl) ?_
      refine g_move (R := Is (.bool true)) (by rfl) (stb_is _) (by exact fun _ _ _ h => h) ?_
      refine g_build0 (by rfl) ?_
      refine g_ldw (g := gf) (cs := #[.string x.m, .string x.p, .slice x.a1 x.cl.length x.c1, .slice x.a2 x.ce.length x.c2]) (R := AtB w3 x.v) (by rfl) (by exact fun _ _ _ h => h) (by repeat (first | exact List.Mem.head _ | refine List.Mem.tail _ ?_)) Tryz.underlying27 rfl fac_info (stb_atb w3 _) (by exact fun _ hb => ⟨rfl, b_trans hB0 hb⟩) ?_
      refine g_call2 (A := Is (pv 0 0 e0 e0 none 0 0)) (A' := AtB w3 x.v) (R := Is (.bool true)) (by rfl) Tryz.func13 (by kernel_rfl) rfl (stb_is _) (by exact fun _ _ _ h => h) (by exact fun _ _ _ h => h) DHZ.out ?_
      refine g_pick (b := true) (R := Is (.bool true)) (by rfl) (by exact fun _ _ _ h => h) (stb_is _) (by exact fun _ _ _ h => h) ?_
      refine g_move (R := Is (.bool true)) (by rfl) (stb_is _) (by exact fun _ _ _ h => h) ?_
      refine g_call (f := 15) (xs := []) (R := Is (.bool true)) (by rfl) Tryz.func15 (by kernel_rfl) rfl (stb_is _) (by exact fun w _ _ _ => (fixed_any w).mono fun _ _ h => rp_b h) ?_
      refine g_pick (b := true) (R := Is (.bool true)) (by rfl) (by exact fun _ _ _ h => h) (stb_is _) (by exact fun _ _ _ h => h) ?_
      intro w7 hR hb7 v114 h114 v115 h115 v116 h116 v117 h117 v118 h118 v119 h119 v120 h120 v121 h121 v122 h122 v123 h123 v124 h124 v125 h125 v126 h126 v127 h127 v128 h128 v129 h129 v130 h130 v131 h131 v132 h132 v133 h133 v134 h134 v135 h135 v136 h136 v137 h137 v138 h138 v139 h139 v140 h140
      simp only [softEnd, Act.put, List.setIfInBounds_toArray, List.set_cons_succ, List.set_cons_zero, List.drop_succ_cons, List.drop_zero]
      have hB0 := b_trans hB0 hb7
      obtain rfl : v140 = .bool true := h140
      clear h114 h115 h116 h117 h118 h119 h120 h121 h122 h123 h124 h125 h126 h127 h128 h129 h130 h131 h132 h133 h134 h135 h136 h137 h138 h139
      go_wp2_with fail
      go_ret
      exact ⟨rfl, b_trans HB.out hB0⟩
    · skip
      go_upto_region 6 with fail
      refine wp_region_softG 7 (by kernel_rfl) (by kernel_rfl) (by rfl) hR ?_
      refine g_ldw (g := gp) (cs := #[.int .i64 k1, .int .i64 o1, .string n1, .string t1, .slice a1 L1 c1]) (R := AtB w3 (pv k1 o1 n1 t1 a1 L1 c1)) (by rfl) (by exact fun _ _ _ h => h) (by repeat (first | exact List.Mem.head _ | refine List.Mem.tail _ ?_)) Tryz.underlying24 rfl pol_info (stb_atb w3 _) (by exact fun _ hb => ⟨rfl, b_trans hB0 hb⟩) ?_
      refine g_ldw (g := gf) (cs := #[.string x.m, .string x.p, .slice x.a1 x.cl.length x.c1, .slice x.a2 x.ce.length x.c2]) (R := AtB w3 x.v) (by rfl) (by exact fun _ _ _ h => h) (by repeat (first | exact List.Mem.head _ | refine List.Mem.tail _ ?_)) Tryz.underlying27 rfl fac_info (stb_atb w3 _) (by exact fun _ hb => ⟨rfl, b_trans hB0 hb⟩) ?_
      refine g_call2 (A := AtB w3 (pv k1 o1 n1 t1 a1 L1 c1)) (A' := AtB w3 x.v) (R := Is (.bool true)) (by rfl) Tryz.func13 (by kernel_rfl) rfl (stb_is _) (by exact fun _ _ _ h => h) (by exact fun _ _ _ h => h) HHP.out ?_
      refine g_ldw (g := gq) (cs := #[.int .i64 k2, .int .i64 o2, .string n2, .string t2, .slice a2 L2 c2]) (R := AtB w3 (pv k2 o2 n2 t2 a2 L2 c2)) (by rfl) (by exact fun _ _ _ h => h) (by repeat (first | exact List.Mem.head _ | refine List.Mem.tail _ ?_)) Tryz.underlying24 rfl pol_info (stb_atb w3 _) (by exact fun _ hb => ⟨rfl, b_trans hB0 hb⟩) ?_
      refine g_ldw (g := gf) (cs := #[.string x.m, .string x.p, .slice x.a1 x.cl.length x.c1, .slice x.a2 x.ce.length x.c2]) (R := AtB w3 x.v) (by rfl) (by exact fun _ _ _ h => h) (by repeat (first | exact List.Mem.head _ | refine List.Mem.tail _ ?_)) Tryz.underlying27 rfl fac_info (stb_atb w3 _) (by exact fun _ hb => ⟨rfl, b_trans hB0 hb⟩) ?_
      refine g_call2 (A := AtB w3 (pv k2 o2 n2 t2 a2 L2 c2)) (A' := AtB w3 x.v) (R := Is (.bool false)) (by rfl) Tryz.func13 (by kernel_rfl) rfl (stb_is _) (by exact fun _ _ _ h => h) (by exact fun _ _ _ h => h) HHQ.out ?_
      refine g_assign (R := Is (.bool true)) (by rfl) (stb_is _) (by exact fun _ _ _ h => h) ?_
      intro w5 hR hb5 v38 h38 v39 h39 v40 h40 v41 h41 v42 h42 v43 h43 v10 h10
      simp only [softEnd, Act.put, List.setIfInBounds_toArray, List.set_cons_succ, List.set_cons_zero, List.drop_succ_cons, List.drop_zero]
      have hB0 := b_trans hB0 hb5
      obtain rfl : v10 = .bool true := h10
      clear h38 h39 h40 h41 h42
      obtain rfl : v43 = .bool false := h43
      go_upto_region 7 with fail
      dsimp only [List.append]
      refine wp_region_softG 69 (by kernel_rfl) (by kernel_rfl) (by rfl) hR ?_
      refine g_move (R := Is (.func (.func 19) #[] #[])) (by rfl) (stb_is _) (by exact fun _ _ _ h => h) ?_
      refine g_ldw (g := gp) (cs := #[.int .i64 k1, .int .i64 o1, .string n1, .string t1, .slice a1 L1 c1]) (R := AtB w3 (pv k1 o1 n1 t1 a1 L1 c1)) (by rfl) (by exact fun _ _ _ h => h) (by repeat (first | exact List.Mem.head _ | refine List.Mem.tail _ ?_)) Tryz.underlying24 rfl pol_info (stb_atb w3 _) (by exact fun _ hb => ⟨rfl, b_trans hB0 hb⟩) ?_
      refine g_callv1 (f := 19) (A := AtB w3 (pv k1 o1 n1 t1 a1 L1 c1)) (R := PVp 1 1 (Fo.cons k1 o1 n1 t1 F1 .nil)) (by rfl) Tryz.func19 (by kernel_rfl) rfl (stb_pvp 1 1 (Fo.cons k1 o1 n1 t1 F1 .nil)) (by exact fun _ _ _ h => h) (by exact fun _ _ _ h => h) CN1.out ?_
      refine g_ldw (g := gf) (cs := #[.string x.m, .string x.p, .slice x.a1 x.cl.length x.c1, .slice x.a2 x.ce.length x.c2]) (R := AtB w3 x.v) (by rfl) (by exact fun _ _ _ h => h) (by repeat (first | exact List.Mem.head _ | refine List.Mem.tail _ ?_)) Tryz.underlying27 rfl fac_info (stb_atb w3 _) (by exact fun _ hb => ⟨rfl, b_trans hB0 hb⟩) ?_
      refine g_call2 (A := PVp 1 1 (Fo.cons k1 o1 n1 t1 F1 .nil)) (A' := AtB w3 x.v) (R := Is (.bool false)) (by rfl) Tryz.func13 (by kernel_rfl) rfl (stb_is _) (by exact fun _ _ _ h => h) (by exact fun _ _ _ h => h) DHN.out ?_
      refine g_move (R := Is (.bool true)) (by rfl) (stb_is _) (by exact fun _ _ _ h => h) ?_
      refine g_bin (v := .bool false) (u := .bool true) (r := .bool false) (by rfl) (by exact fun _ _ _ h => h) (by exact fun _ _ _ h => h) (by rfl) (fun _ => rfl) ?_
      refine g_move (R := Is (.bool false)) (by rfl) (stb_is _) (by exact fun _ _ _ h => h) ?_
      refine g_move (R := Is (.func (.func 19) #[] #[])) (by rfl) (stb_is _) (by exact fun _ _ _ h => h) ?_
      refine g_move (R := Is (.func (.func 19) #[] #[])) (by rfl) (stb_is _) (by exact fun _ _ _ h => h) ?_
      refine g_ldw (g := gp) (cs := #[.int .i64 k1, .int .i64 o1, .string n1, .string t1, .slice a1 L1 c1]) (R := AtB w3 (pv k1 o1 n1 t1 a1 L1 c1)) (by rfl) (by exact fun _ _ _ h => h) (by repeat (first | exact List.Mem.head _ | refine List.Mem.tail _ ?_)) Tryz.underlying24 rfl pol_info (stb_atb w3 _) (by exact fun _ hb => ⟨rfl, b_trans hB0 hb⟩) ?_
      refine g_callv1 (f := 19) (A := AtB w3 (pv k1 o1 n1 t1 a1 L1 c1)) (R := PVp 1 1 (Fo.cons k1 o1 n1 t1 F1 .nil)) (by rfl) Tryz.func19 (by kernel_rfl) rfl (stb_pvp 1 1 (Fo.cons k1 o1 n1 t1 F1 .nil)) (by exact fun _ _ _ h => h) (by exact fun _ _ _ h => h) CN1.out ?_
      refine g_callv1 (f := 19) (A := PVp 1 1 (Fo.cons k1 o1 n1 t1 F1 .nil)) (R := PVp 1 1 (Fo.cons 1 0 e0 e0 (Fo.cons k1 o1 n1 t1 F1 .nil) .nil)) (by rfl) Tryz.func19 (by kernel_rfl) rfl (stb_pvp 1 1 (Fo.cons 1 0 e0 e0 (Fo.cons k1 o1 n1 t1 F1 .nil) .nil)) (by exact fun _ _ _ h => h) (by exact fun _ _ _ h => h) CG1.out ?_
      refine g_ldw (g := gf) (cs := #[.string x.m, .string x.p, .slice x.a1 x.cl.length x.c1, .slice x.a2 x.ce.length x.c2]) (R := AtB w3 x.v) (by rfl) (by exact fun _ _ _ h => h) (by repeat (first | exact List.Mem.head _ | refine List.Mem.tail _ ?_)) Tryz.underlying27 rfl fac_info (stb_atb w3 _) (by exact fun _ hb => ⟨rfl, b_trans hB0 hb⟩) ?_
      refine g_call2 (A := PVp 1 1 (Fo.cons 1 0 e0 e0 (Fo.cons k1 o1 n1 t1 F1 .nil) .nil)) (A' := AtB w3 x.v) (R := Is (.bool true)) (by rfl) Tryz.func13 (by kernel_rfl) rfl (stb_is _) (by exact fun _ _ _ h => h) (by exact fun _ _ _ h => h) DHG.out ?_
      refine g_move (R := Is (.bool true)) (by rfl) (stb_is _) (by exact fun _ _ _ h => h) ?_
      refine g_bin (v := .bool true) (u := .bool true) (r := .bool false) (by rfl) (by exact fun _ _ _ h => h) (by exact fun _ _ _ h => h) (by rfl) (fun _ => rfl) ?_
      refine g_pick (b := false) (R := Is (.bool false)) (by rfl) (by exact fun _ _ _ h => h) (stb_is _) (by exact fun _ _ _ h => h) ?_
      refine g_move (R := Is (.bool false)) (by rfl) (stb_is _) (by exact fun _ _ _ h => h) ?_
      refine g_move (R := Is (.func (.func 20) #[] #[])) (by rfl) (stb_is _) (by exact fun _ _ _ h => h) ?_
      refine g_ldw (g := gp) (cs := #[.int .i64 k1, .int .i64 o1, .string n1, .string t1, .slice a1 L1 c1]) (R := AtB w3 (pv k1 o1 n1 t1 a1 L1 c1)) (by rfl) (by exact fun _ _ _ h => h) (by repeat (first | exact List.Mem.head _ | refine List.Mem.tail _ ?_)) Tryz.underlying24 rfl pol_info (stb_atb w3 _) (by exact fun _ hb => ⟨rfl, b_trans hB0 hb⟩) ?_
      refine g_ldw (g := gq) (cs := #[.int .i64 k2, .int .i64 o2, .string n2, .string t2, .slice a2 L2 c2]) (R := AtB w3 (pv k2 o2 n2 t2 a2 L2 c2)) (by rfl) (by exact fun _ _ _ h => h) (by repeat (first | exact List.Mem.head _ | refine List.Mem.tail _ ?_)) Tryz.underlying24 rfl pol_info (stb_atb w3 _) (by exact fun _ hb => ⟨rfl, b_trans hB0 hb⟩) ?_
      refine g_callv2 (f := 20) (A := AtB w3 (pv k1 o1 n1 t1 a1 L1 c1)) (A' := AtB w3 (pv k2 o2 n2 t2 a2 L2 c2)) (R := PVp 2 2 (Fo.cons k1 o1 n1 t1 F1 (.cons k2 o2 n2 t2 F2 .nil))) (by rfl) Tryz.func20 (by kernel_rfl) rfl (stb_pvp 2 2 (Fo.cons k1 o1 n1 t1 F1 (.cons k2 o2 n2 t2 F2 .nil))) (by exact fun _ _ _ h => h) (by exact fun _ _ _ h => h) (by exact fun _ _ _ h => h) CA1.out ?_
      refine g_ldw (g := gf) (cs := #[.string x.m, .string x.p, .slice x.a1 x.cl.length x.c1, .slice x.a2 x.ce.length x.c2]) (R := AtB w3 x.v) (by rfl) (by exact fun _ _ _ h => h) (by repeat (first | exact List.Mem.head _ | refine List.Mem.tail _ ?_)) Tryz.underlying27 rfl fac_info (stb_atb w3 _) (by exact fun _ hb => ⟨rfl, b_trans hB0 hb⟩) ?_
      refine g_call2 (A := PVp 2 2 (Fo.cons k1 o1 n1 t1 F1 (.cons k2 o2 n2 t2 F2 .nil))) (A' := AtB w3 x.v) (R := Is (.bool false)) (by rfl) Tryz.func13 (by kernel_rfl) rfl (stb_is _) (by exact fun _ _ _ h => h) (by exact fun _ _ _ h => h) DHA.out ?_
      refine g_move (R := Is (.bool true)) (by rfl) (stb_is _) (by exact fun _ _ _ h => h) ?_
      refine g_move (R := Is (.bool true)) (by rfl) (stb_is _) (by exact fun _ _ _ h => h) ?_
      refine g_move (R := Is (.bool false)) (by rfl) (stb_is _) (by exact fun _ _ _ h => h) ?_
      refine g_pick (b := true) (R := Is (.bool false)) (by rfl) (by exact fun _ _ _ h => h) (stb_is _) (by exact fun _ _ _ h => h) ?_
      refine g_bin (v := .bool false) (u := .bool false) (r := .bool false) (by rfl) (by exact fun _ _ _ h => h) (by exact fun _ _ _ h => h) (by rfl) (fun _ => rfl) ?_
      refine g_pick (b := false) (R := Is (.bool false)) (by rfl) (by exact fun _ _ _ h => h) (stb_is _) (by exact fun _ _ _ h => h) ?_
      refine g_move (R := Is (.bool false)) (by rfl) (stb_is _) (by exact fun _ _ _ h => h) ?_
      refine g_move (R := Is (.func (.func 21) #[] #[])) (by rfl) (stb_is _) (by exact fun _ _ _ h => h) ?_
      refine g_ldw (g := gp) (cs := #[.int .i64 k1, .int .i64 o1, .string n1, .string t1, .slice a1 L1 c1]) (R := AtB w3 (pv k1 o1 n1 t1 a1 L1 c1)) (by rfl) (by exact fun _ _ _ h => h) (by repeat (first | exact List.Mem.head _ | refine List.Mem.tail _ ?_)) Tryz.underlying24 rfl pol_info (stb_atb w3 _) (by exact fun _ hb => ⟨rfl, b_trans hB0 hb⟩) ?_
      refine g_ldw (g := gq) (cs := #[.int .i64 k2, .int .i64 o2, .string n2, .string t2, .slice a2 L2 c2]) (R := AtB w3 (pv k2 o2 n2 t2 a2 L2 c2)) (by rfl) (by exact fun _ _ _ h => h) (by repeat (first | exact List.Mem.head _ | refine List.Mem.tail _ ?_)) Tryz.underlying24 rfl pol_info (stb_atb w3 _) (by exact fun _ hb => ⟨rfl, b_trans hB0 hb⟩) ?_
      refine g_callv2 (f := 21) (A := AtB w3 (pv k1 o1 n1 t1 a1 L1 c1)) (A' := AtB w3 (pv k2 o2 n2 t2 a2 L2 c2)) (R := PVp 3 2 (Fo.cons k1 o1 n1 t1 F1 (.cons k2 o2 n2 t2 F2 .nil))) (by rfl) Tryz.func21 (by kernel_rfl) rfl (stb_pvp 3 2 (Fo.cons k1 o1 n1 t1 F1 (.cons k2 o2 n2 t2 F2 .nil))) (by exact fun _ _ _ h => h) (by exact fun _ _ _ h => h) (by exact fun _ _ _ h => h) CO1.out ?_
      refine g_ldw (g := gf) (cs := #[.string x.m, .string x.p, .slice x.a1 x.cl.length x.c1, .slice x.a2 x.ce.length x.c2]) (R := AtB w3 x.v) (by rfl) (by exact fun _ _ _ h => h) (by repeat (first | exact List.Mem.head _ | refine List.Mem.tail _ ?_)) Tryz.underlying27 rfl fac_info (stb_atb w3 _) (by exact fun _ hb => ⟨rfl, b_trans hB0 hb⟩) ?_
      refine g_call2 (A := PVp 3 2 (Fo.cons k1 o1 n1 t1 F1 (.cons k2 o2 n2 t2 F2 .nil))) (A' := AtB w3 x.v) (R := Is (.bool true)) (by rfl) Tryz.func13 (by kernel_rfl) rfl (stb_is _) (by exact fun _ _ _ h => h) (by exact fun _ _ _ h => h) DHO.out ?_
      refine g_move (R := Is (.bool true)) (by rfl) (stb_is _) (by exact fun _ _ _ h => h) ?_
      refine g_move (R := Is (.bool true)) (by rfl) (stb_is _) (by exact fun _ _ _ h => h) ?_
      refine g_dead (dead_of rfl rfl (fun _ _ _ h => h) (by rfl)) ?_
      refine g_pick (b := true) (R := Is (.bool true)) (by rfl) (by exact fun _ _ _ h => h) (stb_is _) (by exact fun _ _ _ h => h) ?_
      refine g_bin (v := .bool true) (u := .bool true) (r := .bool false) (by rfl) (by exact fun _ _ _ h => h) (by exact fun _ _ _ h => h) (by rfl) (fun _ => rfl) ?_
      refine g_pick (b := false) (R := Is (.bool false)) (by rfl) (by exact fun _ _ _ h => h) (stb_is _) (by exact fun _ _ _ h => h) ?_
      refine g_move (R := Is (.bool false)) (by rfl) (stb_is _) (by exact fun _ _ _ h => h) ?_
      refine g_move (R := Is (.func (.func 20) #[] #[])) (by rfl) (stb_is _) (by exact fun _ _ _ h => h) ?_
      refine g_ldw (g := gq) (cs := #[.int .i64 k2, .int .i64 o2, .string n2, .string t2, .slice a2 L2 c2]) (R := AtB w3 (pv k2 o2 n2 t2 a2 L2 c2)) (by rfl) (by exact fun _ _ _ h => h) (by repeat (first | exact List.Mem.head _ | refine List.Mem.tail _ ?_)) Tryz.underlying24 rfl pol_info (stb_atb w3 _) (by exact fun _ hb => ⟨rfl, b_trans hB0 hb⟩) ?_
      refine g_ldw (g := gp) (cs := #[.int .i64 k1, .int .i64 o1, .string n1, .string t1, .slice a1 L1 c1]) (R := AtB w3 (pv k1 o1 n1 t1 a1 L1 c1)) (by rfl) (by exact fun _ _ _ h => h) (by repeat (first | exact List.Mem.head _ | refine List.Mem.tail _ ?_)) Tryz.underlying24 rfl pol_info (stb_atb w3 _) (by exact fun _ hb => ⟨rfl, b_trans hB0 hb⟩) ?_
      refine g_callv2 (f := 20) (A := AtB w3 (pv k2 o2 n2 t2 a2 L2 c2)) (A' := AtB w3 (pv k1 o1 n1 t1 a1 L1 c1)) (R := PVp 2 2 (Fo.cons k2 o2 n2 t2 F2 (.cons k1 o1 n1 t1 F1 .nil))) (by rfl) Tryz.func20 (by kernel_rfl) rfl (stb_pvp 2 2 (Fo.cons k2 o2 n2 t2 F2 (.cons k1 o1 n1 t1 F1 .nil))) (by exact fun _ _ _ h => h) (by exact fun _ _ _ h => h) (by exact fun _ _ _ h => h) CA2.out ?_
      refine g_ldw (g := gf) (cs := #[.string x.m, .string x.p, .slice x.a1 x.cl.length x.c1, .slice x.a2 x.ce.length x.c2]) (R := AtB w3 x.v) (by rfl) (by exact fun _ _ _ h => h) (by repeat (first | exact List.Mem.head _ | refine List.Mem.tail _ ?_)) Tryz.underlying27 rfl fac_info (stb_atb w3 _) (by exact fun _ hb => ⟨rfl, b_trans hB0 hb⟩) ?_
      refine g_call2 (A := PVp 2 2 (Fo.cons k2 o2 n2 t2 F2 (.cons k1 o1 n1 t1 F1 .nil))) (A' := AtB w3 x.v) (R := Is (.bool false)) (by rfl) Tryz.func13 (by kernel_rfl) rfl (stb_is _) (by exact fun _ _ _ h => h) (by exact fun _ _ _ h => h) DHA2.out ?_
      refine g_move (R := Is (.bool true)) (by rfl) (stb_is _) (by exact fun _ _ _ h => h) ?_
      refine g_move (R := Is (.bool true)) (by rfl) (stb_is _) (by exact fun _ _ _ h => h) ?_
      refine g_move (R := Is (.bool false)) (by rfl) (stb_is _) (by exact fun _ _ _ h => h) ?_
      refine g_pick (b := true) (R := Is (.bool false)) (by rfl) (by exact fun _ _ _ h => h) (stb_is _) (by exact fun _ _ _ h => h) ?_
      refine g_bin (v := .bool false) (u := .bool false) (r := .bool false) (by rfl) (by exact fun _ _ _ h => h) (by exact fun _ _ _ h => h) (by rfl) (fun _ => rfl) ?_
      refine g_pick (b := false) (R := Is (.bool false)) (by rfl) (by exact fun _ _ _ h => h) (stb_is _) (by exact fun _ _ _ h => h) ?_
      refine g_move (R := Is (.bool false)) (by rfl) (stb_is _) (by exact fun _ _ _ h => h) ?_
      refine g_move (R := Is (.func (.func 21) #[] #[])) (by rfl) (stb_is _) (by exact fun _ _ _ h => h) ?_
      refine g_ldw (g := gq) (cs := #[.int .i64 k2, .int .i64 o2, .string n2, .string t2, .slice a2 L2 c2]) (R := AtB w3 (pv k2 o2 n2 t2 a2 L2 c2)) (by rfl) (by exact fun _ _ _ h => h) (by repeat (first | exact List.Mem.head _ | refine List.Mem.tail _ ?_)) Tryz.underlying24 rfl pol_info (stb_atb w3 _) (by exact fun _ hb => ⟨rfl, b_trans hB0 hb⟩) ?_
      refine g_ldw (g := gp) (cs := #[.int .i64 k1, .int .i64 o1, .string n1, .string t1, .slice a1 L1 c1]) (R := AtB w3 (pv k1 o1 n1 t1 a1 L1 c1)) (by rfl) (by exact fun _ _ _ h => h) (by repeat (first | exact List.Mem.head _ | refine List.Mem.tail _ ?_)) Tryz.underlying24 rfl pol_info (stb_atb w3 _) (by exact fun _ hb => ⟨rfl, b_trans hB0 hb⟩) ?_
      refine g_callv2 (f := 21) (A := AtB w3 (pv k2 o2 n2 t2 a2 L2 c2)) (A' := AtB w3 (pv k1 o1 n1 t1 a1 L1 c1)) (R := PVp 3 2 (Fo.cons k2 o2 n2 t2 F2 (.cons k1 o1 n1 t1 F1 .nil))) (by rfl) Tryz.func21 (by kernel_rfl) rfl (stb_pvp 3 2 (Fo.cons k2 o2 n2 t2 F2 (.cons k1 o1 n1 t1 F1 .nil))) (by exact fun _ _ _ h => h) (by exact fun _ _ _ h => h) (by exact fun _ _ _ h => h) CO2.out ?_
      refine g_ldw (g := gf) (cs := #[.string x.m, .string x.p, .slice x.a1 x.cl.length x.c1, .slice x.a2 x.ce.length x.c2]) (R := AtB w3 x.v) (by rfl) (by exact fun _ _ _ h => h) (by repeat (first | exact List.Mem.head _ | refine List.Mem.tail _ ?_)) Tryz.underlying27 rfl fac_info (stb_atb w3 _) (by exact fun _ hb => ⟨rfl, b_trans hB0 hb⟩) ?_
      refine g_call2 (A := PVp 3 2 (Fo.cons k2 o2 n2 t2 F2 (.cons k1 o1 n1 t1 F1 .nil))) (A' := AtB w3 x.v) (R := Is (.bool true)) (by rfl) Tryz.func13 (by kernel_rfl) rfl (stb_is _) (by exact fun _ _ _ h => h) (by exact fun _ _ _ h => h) DHO2.out ?_
      refine g_move (R := Is (.bool true)) (by rfl) (stb_is _) (by exact fun _ _ _ h => h) ?_
      refine g_move (R := Is (.bool true)) (by rfl) (stb_is _) (by exact fun _ _ _ h => h) ?_
      refine g_dead (dead_of rfl rfl (fun _ _ _ h => h) (by rfl)) ?_
      refine g_pick (b := true) (R := Is (.bool true)) (by rfl) (by exact fun _ _ _ h => h) (stb_is _) (by exact fun _ _ _ h => h) ?_
      refine g_bin (v := .bool true) (u := .bool true) (r := .bool false) (by rfl) (by exact fun _ _ _ h => h) (by exact fun _ _ _ h => h) (by rfl) (fun _ => rfl) ?_
      intro w6 hR hb6 v44 h44 v45 h45 v46 h46 v47 h47 v48 h48 v49 h49 v50 h50 v51 h51 v52 h52 v53 h53 v54 h54 v55 h55 v56 h56 v57 h57 v58 h58 v59 h59 v60 h60 v61 h61 v62 h62 v63 h63 v64 h64 v65 h65 v66 h66 v67 h67 v68 h68 v69 h69 v70 h70 v71 h71 v72 h72 v73 h73 v74 h74 v75 h75 v76 h76 v77 h77 v78 h78 v79 h79 v80 h80 v81 h81 v82 h82 v83 h83 v84 h84 v85 h85 v86 h86 v87 h87 v88 h88 v89 h89 v90 h90 v91 h91 v92 h92 v93 h93 v94 h94 v95 h95 v96 h96 v97 h97 v98 h98 v99 h99 v100 h100 v101 h101 v102 h102 v103 h103 v104 h104 v105 h105 v106 h106 v107 h107 v108 h108 v109 h109 v110 h110 v111 h111 v112 h112
      simp only [softEnd, Act.put, List.setIfInBounds_toArray, List.set_cons_succ, List.set_cons_zero, List.drop_succ_cons, List.drop_zero]
      have hB0 := b_trans hB0 hb6
      obtain rfl : v101 = .bool false := h101
      obtain rfl : v112 = .bool false := h112
      clear h44 h45 h46 h47 h48 h49 h50 h51 h52 h53 h54 h55 h56 h57 h58 h59 h60 h61 h62 h63 h64 h65 h66 h67 h68 h69 h70 h71 h72 h73 h74 h75 h76 h77 h78 h79 h80 h81 h82 h83 h84 h85 h86 h87 h88 h89 h90 h91 h92 h93 h94 h95 h96 h97 h98 h99 h100 h102 h103 h104 h105 h106 h107 h108 h109 h110 h111
      go_upto_region 9 with fail
      refine wp_region_softG 27 (by kernel_rfl) (by kernel_rfl) (by rfl) hR ?_
      refine g_move (R := Is (.func (.func 19) #[] #[])) (by rfl) (stb_is _) (by exact fun _ _ _ h => h) ?_
      refine g_move (R := Is (.func (.func 20) #[] #[])) (by rfl) (stb_is _) (by exact fun _ _ _ h => h) ?_
      refine g_ldw (g := gp) (cs := #[.int .i64 k1, .int .i64 o1, .string n1, .string t1, .slice a1 L1 c1]) (R := AtB w3 (pv k1 o1 n1 t1 a1 L1 c1)) (by rfl) (by exact fun _ _ _ h => h) (by repeat (first | exact List.Mem.head _ | refine List.Mem.tail _ ?_)) Tryz.underlying24 rfl pol_info (stb_atb w3 _) (by exact fun _ hb => ⟨rfl, b_trans hB0 hb⟩) ?_
      refine g_ldw (g := gq) (cs := #[.int .i64 k2, .int .i64 o2, .string n2, .string t2, .slice a2 L2 c2]) (R := AtB w3 (pv k2 o2 n2 t2 a2 L2 c2)) (by rfl) (by exact fun _ _ _ h => h) (by repeat (first | exact List.Mem.head _ | refine List.Mem.tail _ ?_)) Tryz.underlying24 rfl pol_info (stb_atb w3 _) (by exact fun _ hb => ⟨rfl, b_trans hB0 hb⟩) ?_
      refine g_callv2 (f := 20) (A := AtB w3 (pv k1 o1 n1 t1 a1 L1 c1)) (A' := AtB w3 (pv k2 o2 n2 t2 a2 L2 c2)) (R := PVp 2 2 (Fo.cons k1 o1 n1 t1 F1 (.cons k2 o2 n2 t2 F2 .nil))) (by rfl) Tryz.func20 (by kernel_rfl) rfl (stb_pvp 2 2 (Fo.cons k1 o1 n1 t1 F1 (.cons k2 o2 n2 t2 F2 .nil))) (by exact fun _ _ _ h => h) (by exact fun _ _ _ h => h) (by exact fun _ _ _ h => h) CA1.out ?_
      refine g_callv1 (f := 19) (A := PVp 2 2 (Fo.cons k1 o1 n1 t1 F1 (.cons k2 o2 n2 t2 F2 .nil))) (R := PVp 1 1 (Fo.cons 2 0 e0 e0 (Fo.cons k1 o1 n1 t1 F1 (.cons k2 o2 n2 t2 F2 .nil)) .nil)) (by rfl) Tryz.func19 (by kernel_rfl) rfl (stb_pvp 1 1 (Fo.cons 2 0 e0 e0 (Fo.cons k1 o1 n1 t1 F1 (.cons k2 o2 n2 t2 F2 .nil)) .nil)) (by exact fun _ _ _ h => h) (by exact fun _ _ _ h => h) CM.out ?_
      refine g_ldw (g := gf) (cs := #[.string x.m, .string x.p, .slice x.a1 x.cl.length x.c1, .slice x.a2 x.ce.length x.c2]) (R := AtB w3 x.v) (by rfl) (by exact fun _ _ _ h => h) (by repeat (first | exact List.Mem.head _ | refine List.Mem.tail _ ?_)) Tryz.underlying27 rfl fac_info (stb_atb w3 _) (by exact fun _ hb => ⟨rfl, b_trans hB0 hb⟩) ?_
      refine g_call2 (A := PVp 1 1 (Fo.cons 2 0 e0 e0 (Fo.cons k1 o1 n1 t1 F1 (.cons k2 o2 n2 t2 F2 .nil)) .nil)) (A' := AtB w3 x.v) (R := Is (.bool true)) (by rfl) Tryz.func13 (by kernel_rfl) rfl (stb_is _) (by exact fun _ _ _ h => h) (by exact fun _ _ _ h => h) DHM.out ?_
      refine g_move (R := Is (.func (.func 21) #[] #[])) (by rfl) (stb_is _) (by exact fun _ _ _ h => h) ?_
      refine g_move (R := Is (.func (.func 19) #[] #[])) (by rfl) (stb_is _) (by exact fun _ _ _ h => h) ?_
      refine g_ldw (g := gp) (cs := #[.int .i64 k1, .int .i64 o1, .string n1, .string t1, .slice a1 L1 c1]) (R := AtB w3 (pv k1 o1 n1 t1 a1 L1 c1)) (by rfl) (by exact fun _ _ _ h => h) (by repeat (first | exact List.Mem.head _ | refine List.Mem.tail _ ?_)) Tryz.underlying24 rfl pol_info (stb_atb w3 _) (by exact fun _ hb => ⟨rfl, b_trans hB0 hb⟩) ?_
      refine g_callv1 (f := 19) (A := AtB w3 (pv k1 o1 n1 t1 a1 L1 c1)) (R := PVp 1 1 (Fo.cons k1 o1 n1 t1 F1 .nil)) (by rfl) Tryz.func19 (by kernel_rfl) rfl (stb_pvp 1 1 (Fo.cons k1 o1 n1 t1 F1 .nil)) (by exact fun _ _ _ h => h) (by exact fun _ _ _ h => h) CN1.out ?_
      refine g_move (R := Is (.func (.func 19) #[] #[])) (by rfl) (stb_is _) (by exact fun _ _ _ h => h) ?_
      refine g_ldw (g := gq) (cs := #[.int .i64 k2, .int .i64 o2, .string n2, .string t2, .slice a2 L2 c2]) (R := AtB w3 (pv k2 o2 n2 t2 a2 L2 c2)) (by rfl) (by exact fun _ _ _ h => h) (by repeat (first | exact List.Mem.head _ | refine List.Mem.tail _ ?_)) Tryz.underlying24 rfl pol_info (stb_atb w3 _) (by exact fun _ hb => ⟨rfl, b_trans hB0 hb⟩) ?_
      refine g_callv1 (f := 19) (A := AtB w3 (pv k2 o2 n2 t2 a2 L2 c2)) (R := PVp 1 1 (Fo.cons k2 o2 n2 t2 F2 .nil)) (by rfl) Tryz.func19 (by kernel_rfl) rfl (stb_pvp 1 1 (Fo.cons k2 o2 n2 t2 F2 .nil)) (by exact fun _ _ _ h => h) (by exact fun _ _ _ h => h) CN2.out ?_
      refine g_callv2 (f := 21) (A := PVp 1 1 (Fo.cons k1 o1 n1 t1 F1 .nil)) (A' := PVp 1 1 (Fo.cons k2 o2 n2 t2 F2 .nil)) (R := PVp 3 2 (Fo.cons 1 0 e0 e0 (Fo.cons k1 o1 n1 t1 F1 .nil) (.cons 1 0 e0 e0 (Fo.cons k2 o2 n2 t2 F2 .nil) .nil))) (by rfl) Tryz.func21 (by kernel_rfl) rfl (stb_pvp 3 2 (Fo.cons 1 0 e0 e0 (Fo.cons k1 o1 n1 t1 F1 .nil) (.cons 1 0 e0 e0 (Fo.cons k2 o2 n2 t2 F2 .nil) .nil))) (by exact fun _ _ _ h => h) (by exact fun _ _ _ h => h) (by exact fun _ _ _ h => h) COR.out ?_
      refine g_ldw (g := gf) (cs := #[.string x.m, .string x.p, .slice x.a1 x.cl.length x.c1, .slice x.a2 x.ce.length x.c2]) (R := AtB w3 x.v) (by rfl) (by exact fun _ _ _ h => h) (by repeat (first | exact List.Mem.head _ | refine List.Mem.tail _ ?_)) Tryz.underlying27 rfl fac_info (stb_atb w3 _) (by exact fun _ hb => ⟨rfl, b_trans hB0 hb⟩) ?_
      refine g_call2 (A := PVp 3 2 (Fo.cons 1 0 e0 e0 (Fo.cons k1 o1 n1 t1 F1 .nil) (.cons 1 0 e0 e0 (Fo.cons k2 o2 n2 t2 F2 .nil) .nil))) (A' := AtB w3 x.v) (R := Is (.bool true)) (by rfl) Tryz.func13 (by kernel_rfl) rfl (stb_is _) (by exact fun _ _ _ h => h) (by exact fun _ _ _ h => h) DHR.out ?_
      refine g_bin (v := .bool true) (u := .bool true) (r := .bool true) (by rfl) (by exact fun _ _ _ h => h) (by exact fun _ _ _ h => h) (by rfl) (fun _ => rfl) ?_
      refine g_move (R := Is (.bool true)) (by rfl) (stb_is _) (by exact fun _ _ _ h => h) ?_
      refine g_build0 (by rfl) ?_
      refine g_ldw (g := gf) (cs := #[.string x.m, .string x.p, .slice x.a1 x.cl.length x.c1, .slice x.a2 x.ce.length x.c2]) (R := AtB w3 x.v) (by rfl) (by exact fun _ _ _ h => h) (by repeat (first | exact List.Mem.head _ | refine List.Mem.tail _ ?_)) Tryz.underlying27 rfl fac_info (stb_atb w3 _) (by exact fun _ hb => ⟨rfl, b_trans hB0 hb⟩) ?_
      refine g_call2 (A := Is (pv 0 0 e0 e0 none 0 0)) (A' := AtB w3 x.v) (R := Is (.bool true)) (by rfl) Tryz.func13 (by kernel_rfl) rfl (stb_is _) (by exact fun _ _ _ h => h) (by exact fun _ _ _ h => h) DHZ.out ?_
      refine g_pick (b := true) (R := Is (.bool true)) (by rfl) (by exact fun _ _ _ h => h) (stb_is _) (by exact fun _ _ _ h => h) ?_
      refine g_move (R := Is (.bool true)) (by rfl) (stb_is _) (by exact fun _ _ _ h => h) ?_
      refine g_call (f := 15) (xs := []) (R := Is (.bool true)) (by rfl) Tryz.func15 (by kernel_rfl) rfl (stb_is _) (by exact fun w _ _ _ => (fixed_any w).mono fun _ _ h => rp_b h) ?_
      refine g_pick (b := true) (R := Is (.bool true)) (by rfl) (by exact fun _ _ _ h => h) (stb_is _) (by exact fun _ _ _ h => h) ?_
      intro w7 hR hb7 v114 h114 v115 h115 v116 h116 v117 h117 v118 h118 v119 h119 v120 h120 v121 h121 v122 h122 v123 h123 v124 h124 v125 h125 v126 h126 v127 h127 v128 h128 v129 h129 v130 h130 v131 h131 v132 h132 v133 h133 v134 h134 v135 h135 v136 h136 v137 h137 v138 h138 v139 h139 v140 h140
      simp only [softEnd, Act.put, List.setIfInBounds_toArray, List.set_cons_succ, List.set_cons_zero, List.drop_succ_cons, List.drop_zero]
      have hB0 := b_trans hB0 hb7
      obtain rfl : v140 = .bool true := h140
      clear h114 h115 h116 h117 h118 h119 h120 h121 h122 h123 h124 h125 h126 h127 h128 h129 h130 h131 h132 h133 h134 h135 h136 h137 h138 h139
      go_wp2_with fail
      go_ret
      exact ⟨rfl, b_trans HB.out hB0⟩
    · skip
      go_upto_region 6 with fail
      refine wp_region_softG 7 (by kernel_rfl) (by kernel_rfl) (by rfl) hR ?_
      refine g_ldw (g := gp) (cs := #[.int .i64 k1, .int .i64 o1, .string n1, .string t1, .slice a1 L1 c1]) (R := AtB w3 (pv k1 o1 n1 t1 a1 L1 c1)) (by rfl) (by exact fun _ _ _ h => h) (by repeat (first | exact List.Mem.head _ | refine List.Mem.tail _ ?_)) Tryz.underlying24 rfl pol_info (stb_atb w3 _) (by exact fun _ hb => ⟨rfl, b_trans hB0 hb⟩) ?_
      refine g_ldw (g := gf) (cs := #[.string x.m, .string x.p, .slice x.a1 x.cl.length x.c1, .slice x.a2 x.ce.length x.c2]) (R := AtB w3 x.v) (by rfl) (by exact fun _ _ _ h => h) (by repeat (first | exact List.Mem.head _ | refine List.Mem.tail _ ?_)) Tryz.underlying27 rfl fac_info (stb_atb w3 _) (by exact fun _ hb => ⟨rfl, b_trans hB0 hb⟩) ?_
      refine g_call2 (A := AtB w3 (pv k1 o1 n1 t1 a1 L1 c1)) (A' := AtB w3 x.v) (R := Is (.bool true)) (by rfl) Tryz.func13 (by kernel_rfl) rfl (stb_is _) (by exact fun _ _ _ h => h) (by exact fun _ _ _ h => h) HHP.out ?_
      refine g_ldw (g := gq) (cs := #[.int .i64 k2, .int .i64 o2, .string n2, .string t2, .slice a2 L2 c2]) (R := AtB w3 (pv k2 o2 n2 t2 a2 L2 c2)) (by rfl) (by exact fun _ _ _ h => h) (by repeat (first | exact List.Mem.head _ | refine List.Mem.tail _ ?_)) Tryz.underlying24 rfl pol_info (stb_atb w3 _) (by exact fun _ hb => ⟨rfl, b_trans hB0 hb⟩) ?_
      refine g_ldw (g := gf) (cs := #[.string x.m, .string x.p, .slice x.a1 x.cl.length x.c1, .slice x.a2 x.ce.length x.c2]) (R := AtB w3 x.v) (by rfl) (by exact fun _ _ _ h => h) (by repeat (first | exact List.Mem.head _ | refine List.Mem.tail _ ?_)) Tryz.underlying27 rfl fac_info (stb_atb w3 _) (by exact fun _ hb => ⟨rfl, b_trans hB0 hb⟩) ?_
      refine g_call2 (A := AtB w3 (pv k2 o2 n2 t2 a2 L2 c2)) (A' := AtB w3 x.v) (R := Is (.bool true)) (by rfl) Tryz.func13 (by kernel_rfl) rfl (stb_is _) (by exact fun _ _ _ h => h) (by exact fun _ _ _ h => h) HHQ.out ?_
      refine g_assign (R := Is (.bool true)) (by rfl) (stb_is _) (by exact fun _ _ _ h => h) ?_
      intro w5 hR hb5 v38 h38 v39 h39 v40 h40 v41 h41 v42 h42 v43 h43 v10 h10
      simp only [softEnd, Act.put, List.setIfInBounds_toArray, List.set_cons_succ, List.set_cons_zero, List.drop_succ_cons, List.drop_zero]
      have hB0 := b_trans hB0 hb5
      obtain rfl : v10 = .bool true := h10
      clear h38 h39 h40 h41 h42
      obtain rfl : v43 = .bool true := h43
      go_upto_region 7 with fail
      dsimp only [List.append]
      refine wp_region_softG 69 (by kernel_rfl) (by kernel_rfl) (by rfl) hR ?_
      refine g_move (R := Is (.func (.func 19) #[] #[])) (by rfl) (stb_is _) (by exact fun _ _ _ h => h) ?_
      refine g_ldw (g := gp) (cs := #[.int .i64 k1, .int .i64 o1, .string n1, .string t1, .slice a1 L1 c1]) (R := AtB w3 (pv k1 o1 n1 t1 a1 L1 c1)) (by rfl) (by exact fun _ _ _ h => h) (by repeat (first | exact List.Mem.head _ | refine List.Mem.tail _ ?_)) Tryz.underlying24 rfl pol_info (stb_atb w3 _) (by exact fun _ hb => ⟨rfl, b_trans hB0 hb⟩) ?_
      refine g_callv1 (f := 19) (A := AtB w3 (pv k1 o1 n1 t1 a1 L1 c1)) (R := PVp 1 1 (Fo.cons k1 o1 n1 t1 F1 .nil)) (by rfl) Tryz.func19 (by kernel_rfl) rfl (stb_pvp 1 1 (Fo.cons k1 o1 n1 t1 F1 .nil)) (by exact fun _ _ _ h => h) (by exact fun _ _ _ h => h) CN1.out ?_
      refine g_ldw (g := gf) (cs := #[.string x.m, .string x.p, .slice x.a1 x.cl.length x.c1, .slice x.a2 x.ce.length x.c2]) (R := AtB w3 x.v) (by rfl) (by exact fun _ _ _ h => h) (by repeat (first | exact List.Mem.head _ | refine List.Mem.tail _ ?_)) Tryz.underlying27 rfl fac_info (stb_atb w3 _) (by exact fun _ hb => ⟨rfl, b_trans hB0 hb⟩) ?_
      refine g_call2 (A := PVp 1 1 (Fo.cons k1 o1 n1 t1 F1 .nil)) (A' := AtB w3 x.v) (R := Is (.bool false)) (by rfl) Tryz.func13 (by kernel_rfl) rfl (stb_is _) (by exact fun _ _ _ h => h) (by exact fun _ _ _ h => h) DHN.out ?_
      refine g_move (R := Is (.bool true)) (by rfl) (stb_is _) (by exact fun _ _ _ h => h) ?_
      refine g_bin (v := .bool false) (u := .bool true) (r := .bool false) (by rfl) (by exact fun _ _ _ h => h) (by exact fun _ _ _ h => h) (by rfl) (fun _ => rfl) ?_
      refine g_move (R := Is (.bool false)) (by rfl) (stb_is _) (by exact fun _ _ _ h => h) ?_
      refine g_move (R := Is (.func (.func 19) #[] #[])) (by rfl) (stb_is _) (by exact fun _ _ _ h => h) ?_
      refine g_move (R := Is (.func (.func 19) #[] #[])) (by rfl) (stb_is _) (by exact fun _ _ _ h => h) ?_
      refine g_ldw (g := gp) (cs := #[.int .i64 k1, .int .i64 o1, .string n1, .string t1, .slice a1 L1 c1]) (R := AtB w3 (pv k1 o1 n1 t1 a1 L1 c1)) (by rfl) (by exact fun _ _ _ h => h) (by repeat (first | exact List.Mem.head _ | refine List.Mem.tail _ ?_)) Tryz.underlying24 rfl pol_info (stb_atb w3 _) (by exact fun _ hb => ⟨rfl, b_trans hB0 hb⟩) ?_
      refine g_callv1 (f := 19) (A := AtB w3 (pv k1 o1 n1 t1 a1 L1 c1)) (R := PVp 1 1 (Fo.cons k1 o1 n1 t1 F1 .nil)) (by rfl) Tryz.func19 (by kernel_rfl) rfl (stb_pvp 1 1 (Fo.cons k1 o1 n1 t1 F1 .nil)) (by exact fun _ _ _ h => h) (by exact fun _ _ _ h => h) CN1.out ?_
      refine g_callv1 (f := 19) (A := PVp 1 1 (Fo.cons k1 o1 n1 t1 F1 .nil)) (R := PVp 1 1 (Fo.cons 1 0 e0 e0 (Fo.cons k1 o1 n1 t1 F1 .nil) .nil)) (by rfl) Tryz.func19 (by kernel_rfl) rfl (stb_pvp 1 1 (Fo.cons 1 0 e0 e0 (Fo.cons k1 o1 n1 t1 F1 .nil) .nil)) (by exact fun _ _ _ h => h) (by exact fun _ _ _ h => h) CG1.out ?_
      refine g_ldw (g := gf) (cs := #[.string x.m, .string x.p, .slice x.a1 x.cl.length x.c1, .slice x.a2 x.ce.length x.c2]) (R := AtB w3 x.v) (by rfl) (by exact fun _ _ _ h => h) (by repeat (first | exact List.Mem.head _ | refine List.Mem.tail _ ?_)) Tryz.underlying27 rfl fac_info (stb_atb w3 _) (by exact fun _ hb => ⟨rfl, b_trans hB0 hb⟩) ?_
      refine g_call2 (A := PVp 1 1 (Fo.cons 1 0 e0 e0 (Fo.cons k1 o1 n1 t1 F1 .nil) .nil)) (A' := AtB w3 x.v) (R := Is (.bool true)) (by rfl) Tryz.func13 (by kernel_rfl) rfl (stb_is _) (by exact fun _ _ _ h => h) (by exact fun _ _ _ h => h) DHG.out ?_
      refine g_move (R := Is (.bool true)) (by rfl) (stb_is _) (by exact fun _ _ _ h => h) ?_
      refine g_bin (v := .bool true) (u := .bool true) (r := .bool false) (by rfl) (by exact fun _ _ _ h => h) (by exact fun _ _ _ h => h) (by rfl) (fun _ => rfl) ?_
      refine g_pick (b := false) (R := Is (.bool false)) (by rfl) (by exact fun _ _ _ h => h) (stb_is _) (by exact fun _ _ _ h => h) ?_
      refine g_move (R := Is (.bool false)) (by rfl) (stb_is _) (by exact fun _ _ _ h => h) ?_
      refine g_move (R := Is (.func (.func 20) #[] #[])) (by rfl) (stb_is _) (by exact fun _ _ _ h => h) ?_
      refine g_ldw (g := gp) (cs := #[.int .i64 k1, .int .i64 o1, .string n1, .string t1, .slice a1 L1 c1]) (R := AtB w3 (pv k1 o1 n1 t1 a1 L1 c1)) (by rfl) (by exact fun _ _ _ h => h) (by repeat (first | exact List.Mem.head _ | refine List.Mem.tail _ ?_)) Tryz.underlying24 rfl pol_info (stb_atb w3 _) (by exact fun _ hb => ⟨rfl, b_trans hB0 hb⟩) ?_
      refine g_ldw (g := gq) (cs := #[.int .i64 k2, .int .i64 o2, .string n2, .string t2, .slice a2 L2 c2]) (R := AtB w3 (pv k2 o2 n2 t2 a2 L2 c2)) (by rfl) (by exact fun _ _ _ h => h) (by repeat (first | exact List.Mem.head _ | refine List.Mem.tail _ ?_)) Tryz.underlying24 rfl pol_info (stb_atb w3 _) (by exact fun _ hb => ⟨rfl, b_trans hB0 hb⟩) ?_
      refine g_callv2 (f := 20) (A := AtB w3 (pv k1 o1 n1 t1 a1 L1 c1)) (A' := AtB w3 (pv k2 o2 n2 t2 a2 L2 c2)) (R := PVp 2 2 (Fo.cons k1 o1 n1 t1 F1 (.cons k2 o2 n2 t2 F2 .nil))) (by rfl) Tryz.func20 (by kernel_rfl) rfl (stb_pvp 2 2 (Fo.cons k1 o1 n1 t1 F1 (.cons k2 o2 n2 t2 F2 .nil))) (by exact fun _ _ _ h => h) (by exact fun _ _ _ h => h) (by exact fun _ _ _ h => h) CA1.out ?_
      refine g_ldw (g := gf) (cs := #[.string x.m, .string x.p, .slice x.a1 x.cl.length x.c1, .slice x.a2 x.ce.length x.c2]) (R := AtB w3 x.v) (by rfl) (by exact fun _ _ _ h => h) (by repeat (first | exact List.Mem.head _ | refine List.Mem.tail _ ?_)) Tryz.underlying27 rfl fac_info (stb_atb w3 _) (by exact fun _ hb => ⟨rfl, b_trans hB0 hb⟩) ?_
      refine g_call2 (A := PVp 2 2 (Fo.cons k1 o1 n1 t1 F1 (.cons k2 o2 n2 t2 F2 .nil))) (A' := AtB w3 x.v) (R := Is (.bool true)) (by rfl) Tryz.func13 (by kernel_rfl) rfl (stb_is _) (by exact fun _ _ _ h => h) (by exact fun _ _ _ h => h) DHA.out ?_
      refine g_move (R := Is (.bool true)) (by rfl) (stb_is _) (by exact fun _ _ _ h => h) ?_
      refine g_move (R := Is (.bool true)) (by rfl) (stb_is _) (by exact fun _ _ _ h => h) ?_
      refine g_move (R := Is (.bool true)) (by rfl) (stb_is _) (by exact fun _ _ _ h => h) ?_
      refine g_pick (b := true) (R := Is (.bool true)) (by rfl) (by exact fun _ _ _ h => h) (stb_is _) (by exact fun _ _ _ h => h) ?_
      refine g_bin (v := .bool true) (u := .bool true) (r := .bool false) (by rfl) (by exact fun _ _ _ h => h) (by exact fun _ _ _ h => h) (by rfl) (fun _ => rfl) ?_
      refine g_pick (b := false) (R := Is (.bool false)) (by rfl) (by exact fun _ _ _ h => h) (stb_is _) (by exact fun _ _ _ h => h) ?_
      refine g_move (R := Is (.bool false)) (by rfl) (stb_is _) (by exact fun _ _ _ h => h) ?_
      refine g_move (R := Is (.func (.func 21) #[] #[])) (by rfl) (stb_is _) (by exact fun _ _ _ h => h) ?_
      refine g_ldw (g := gp) (cs := #[.int .i64 k1, .int .i64 o1, .string n1, .string t1, .slice a1 L1 c1]) (R := AtB w3 (pv k1 o1 n1 t1 a1 L1 c1)) (by rfl) (by exact fun _ _ _ h => h) (by repeat (first | exact List.Mem.head _ | refine List.Mem.tail _ ?_)) Tryz.underlying24 rfl pol_info (stb_atb w3 _) (by exact fun _ hb => ⟨rfl, b_trans hB0 hb⟩) ?_
      refine g_ldw (g := gq) (cs := #[.int .i64 k2, .int .i64 o2, .string n2, .string t2, .slice a2 L2 c2]) (R := AtB w3 (pv k2 o2 n2 t2 a2 L2 c2)) (by rfl) (by exact fun _ _ _ h => h) (by repeat (first | exact List.Mem.head _ | refine List.Mem.tail _ ?_)) Tryz.underlying24 rfl pol_info (stb_atb w3 _) (by exact fun _ hb => ⟨rfl, b_trans hB0 hb⟩) ?_
      refine g_callv2 (f := 21) (A := AtB w3 (pv k1 o1 n1 t1 a1 L1 c1)) (A' := AtB w3 (pv k2 o2 n2 t2 a2 L2 c2)) (R := PVp 3 2 (Fo.cons k1 o1 n1 t1 F1 (.cons k2 o2 n2 t2 F2 .nil))) (by rfl) Tryz.func21 (by kernel_rfl) rfl (stb_pvp 3 2 (Fo.cons k1 o1 n1 t1 F1 (.cons k2 o2 n2 t2 F2 .nil))) (by exact fun _ _ _ h => h) (by exact fun _ _ _ h => h) (by exact fun _ _ _ h => h) CO1.out ?_
      refine g_ldw (g := gf) (cs := #[.string x.m, .string x.p, .slice x.a1 x.cl.length x.c1, .slice x.a2 x.ce.length x.c2]) (R := AtB w3 x.v) (by rfl) (by exact fun _ _ _ h => h) (by repeat (first | exact List.Mem.head _ | refine List.Mem.tail _ ?_)) Tryz.underlying27 rfl fac_info (stb_atb w3 _) (by exact fun _ hb => ⟨rfl, b_trans hB0 hb⟩) ?_
      refine g_call2 (A := PVp 3 2 (Fo.cons k1 o1 n1 t1 F1 (.cons k2 o2 n2 t2 F2 .nil))) (A' := AtB w3 x.v) (R := Is (.bool true)) (by rfl) Tryz.func13 (by kernel_rfl) rfl (stb_is _) (by exact fun _ _ _ h => h) (by exact fun _ _ _ h => h) DHO.out ?_
      refine g_move (R := Is (.bool true)) (by rfl) (stb_is _) (by exact fun _ _ _ h => h) ?_
      refine g_move (R := Is (.bool true)) (by rfl) (stb_is _) (by exact fun _ _ _ h => h) ?_
      refine g_dead (dead_of rfl rfl (fun _ _ _ h => h) (by rfl)) ?_
      refine g_pick (b := true) (R := Is (.bool true)) (by rfl) (by exact fun _ _ _ h => h) (stb_is _) (by exact fun _ _ _ h => h) ?_
      refine g_bin (v := .bool true) (u := .bool true) (r := .bool false) (by rfl) (by exact fun _ _ _ h => h) (by exact fun _ _ _ h => h) (by rfl) (fun _ => rfl) ?_
      refine g_pick (b := false) (R := Is (.bool false)) (by rfl) (by exact fun _ _ _ h => h) (stb_is _) (by exact fun _ _ _ h => h) ?_
      refine g_move (R := Is (.bool false)) (by rfl) (stb_is _) (by exact fun _ _ _ h => h) ?_
      refine g_move (R := Is (.func (.func 20) #[] #[])) (by rfl) (stb_is _) (by exact fun _ _ _ h => h) ?_
      refine g_ldw (g := gq) (cs := #[.int .i64 k2, .int .i64 o2, .string n2, .string t2, .slice a2 L2 c2]) (R := AtB w3 (pv k2 o2 n2 t2 a2 L2 c2)) (by rfl) (by exact fun _ _ _ h => h) (by repeat (first | exact List.Mem.head _ | refine List.Mem.tail _ ?_)) Tryz.underlying24 rfl pol_info (stb_atb w3 _) (by exact fun _ hb => ⟨rfl, b_trans hB0 hb⟩) ?_
      refine g_ldw (g := gp) (cs := #[.int .i64 k1, .int .i64 o1, .string n1, .string t1, .slice a1 L1 c1]) (R := AtB w3 (pv k1 o1 n1 t1 a1 L1 c1)) (by rfl) (by exact fun _ _ _ h => h) (by repeat (first | exact List.Mem.head _ | refine List.Mem.tail _ ?_)) Tryz.underlying24 rfl pol_info (stb_atb w3 _) (by exact fun _ hb => ⟨rfl, b_trans hB0 hb⟩) ?_
      refine g_callv2 (f := 20) (A := AtB w3 (pv k2 o2 n2 t2 a2 L2 c2)) (A' := AtB w3 (pv k1 o1 n1 t1 a1 L1 c1)) (R := PVp 2 2 (Fo.cons k2 o2 n2 t2 F2 (.cons k1 o1 n1 t1 F1 .nil))) (by rfl) Tryz.func20 (by kernel_rfl) rfl (stb_pvp 2 2 (Fo.cons k2 o2 n2 t2 F2 (.cons k1 o1 n1 t1 F1 .nil))) (by exact fun _ _ _ h => h) (by exact fun _ _ _ h => h) (by exact fun _ _ _ h => h) CA2.out ?_
      refine g_ldw (g := gf) (cs := #[.string x.m, .string x.p, .slice x.a1 x.cl.length x.c1, .slice x.a2 x.ce.length x.c2]) (R := AtB w3 x.v) (by rfl) (by exact fun _ _ _ h => h) (by repeat (first | exact List.Mem.head _ | refine List.Mem.tail _ ?_)) Tryz.underlying27 rfl fac_info (stb_atb w3 _) (by exact fun _ hb => ⟨rfl, b_trans hB0 hb⟩) ?_
      refine g_call2 (A := PVp 2 2 (Fo.cons k2 o2 n2 t2 F2 (.cons k1 o1 n1 t1 F1 .nil))) (A' := AtB w3 x.v) (R := Is (.bool true)) (by rfl) Tryz.func13 (by kernel_rfl) rfl (stb_is _) (by exact fun _ _ _ h => h) (by exact fun _ _ _ h => h) DHA2.out ?_
      refine g_move (R := Is (.bool true)) (by rfl) (stb_is _) (by exact fun _ _ _ h => h) ?_
      refine g_move (R := Is (.bool true)) (by rfl) (stb_is _) (by exact fun _ _ _ h => h) ?_
      refine g_move (R := Is (.bool true)) (by rfl) (stb_is _) (by exact fun _ _ _ h => h) ?_
      refine g_pick (b := true) (R := Is (.bool true)) (by rfl) (by exact fun _ _ _ h => h) (stb_is _) (by exact fun _ _ _ h => h) ?_
      refine g_bin (v := .bool true) (u := .bool true) (r := .bool false) (by rfl) (by exact fun _ _ _ h => h) (by exact fun _ _ _ h => h) (by rfl) (fun _ => rfl) ?_
      refine g_pick (b := false) (R := Is (.bool false)) (by rfl) (by exact fun _ _ _ h => h) (stb_is _) (by exact fun _ _ _ h => h) ?_
      refine g_move (R := Is (.bool false)) (by rfl) (stb_is _) (by exact fun _ _ _ h => h) ?_
      refine g_move (R := Is (.func (.func 21) #[] #[])) (by rfl) (stb_is _) (by exact fun _ _ _ h => h) ?_
      refine g_ldw (g := gq) (cs := #[.int .i64 k2, .int .i64 o2, .string n2, .string t2, .slice a2 L2 c2]) (R := AtB w3 (pv k2 o2 n2 t2 a2 L2 c2)) (by rfl) (by exact fun _ _ _ h => h) (by repeat (first | exact List.Mem.head _ | refine List.Mem.tail _ ?_)) Tryz.underlying24 rfl pol_info (stb_atb w3 _) (by exact fun _ hb => ⟨rfl, b_trans hB0 hb⟩) ?_
      refine g_ldw (g := gp) (cs := #[.int .i64 k1, .int .i64 o1, .string n1, .string t1, .slice a1 L1 c1]) (R := AtB w3 (pv k1 o1 n1 t1 a1 L1 c1)) (by rfl) (by exact fun _ _ _ h => h) (by repeat (first | exact List.Mem.head _ | refine List.Mem.tail _ ?_)) Tryz.underlying24 rfl pol_info (stb_atb w3 _) (by exact fun _ hb => ⟨rfl, b_trans hB0 hb⟩) ?_
      refine g_callv2 (f := 21) (A := AtB w3 (pv k2 o2 n2 t2 a2 L2 c2)) (A' := AtB w3 (pv k1 o1 n1 t1 a1 L1 c1)) (R := PVp 3 2 (Fo.cons k2 o2 n2 t2 F2 (.cons k1 o1 n1 t1 F1 .nil))) (by rfl) Tryz.func21 (by kernel_rfl) rfl (stb_pvp 3 2 (Fo.cons k2 o2 n2 t2 F2 (.cons k1 o1 n1 t1 F1 .nil))) (by exact fun _ _ _ h => h) (by exact fun _ _ _ h => h) (by exact fun _ _ _ h => h) CO2.out ?_
      refine g_ldw (g := gf) (cs := #[.string x.m, .string x.p, .slice x.a1 x.cl.length x.c1, .slice x.a2 x.ce.length x.c2]) (R := AtB w3 x.v) (by rfl) (by exact fun _ _ _ h => h) (by repeat (first | exact List.Mem.head _ | refine List.Mem.tail _ ?_)) Tryz.underlying27 rfl fac_info (stb_atb w3 _) (by exact fun _ hb => ⟨rfl, b_trans hB0 hb⟩) ?_
      refine g_call2 (A := PVp 3 2 (Fo.cons k2 o2 n2 t2 F2 (.cons k1 o1 n1 t1 F1 .nil))) (A' := AtB w3 x.v) (R := Is (.bool true)) (by rfl) Tryz.func13 (by kernel_rfl) rfl (stb_is _) (by exact fun _ _ _ h => h) (by exact fun _ _ _ h => h) DHO2.out ?_
      refine g_move (R := Is (.bool true)) (by rfl) (stb_is _) (by exact fun _ _ _ h => h) ?_
      refine g_move (R := Is (.bool true)) (by rfl) (stb_is _) (by exact fun _ _ _ h => h) ?_
      refine g_dead (dead_of rfl rfl (fun _ _ _ h => h) (by rfl)) ?_
      refine g_pick (b := true) (R := Is (.bool true)) (by rfl) (by exact fun _ _ _ h => h) (stb_is _) (by exact fun _ _ _ h => h) ?_
      refine g_bin (v := .bool true) (u := .bool true) (r := .bool false) (by rfl) (by exact fun _ _ _ h => h) (by exact fun _ _ _ h => h) (by rfl) (fun _ => rfl) ?_
      intro w6 hR hb6 v44 h44 v45 h45 v46 h46 v47 h47 v48 h48 v49 h49 v50 h50 v51 h51 v52 h52 v53 h53 v54 h54 v55 h55 v56 h56 v57 h57 v58 h58 v59 h59 v60 h60 v61 h61 v62 h62 v63 h63 v64 h64 v65 h65 v66 h66 v67 h67 v68 h68 v69 h69 v70 h70 v71 h71 v72 h72 v73 h73 v74 h74 v75 h75 v76 h76 v77 h77 v78 h78 v79 h79 v80 h80 v81 h81 v82 h82 v83 h83 v84 h84 v85 h85 v86 h86 v87 h87 v88 h88 v89 h89 v90 h90 v91 h91 v92 h92 v93 h93 v94 h94 v95 h95 v96 h96 v97 h97 v98 h98 v99 h99 v100 h100 v101 h101 v102 h102 v103 h103 v104 h104 v105 h105 v106 h106 v107 h107 v108 h108 v109 h109 v110 h110 v111 h111 v112 h112
      simp only [softEnd, Act.put, List.setIfInBounds_toArray, List.set_cons_succ, List.set_cons_zero, List.drop_succ_cons, List.drop_zero]
      have hB0 := b_trans hB0 hb6
      obtain rfl : v101 = .bool false := h101
      obtain rfl : v112 = .bool false := h112
      clear h44 h45 h46 h47 h48 h49 h50 h51 h52 h53 h54 h55 h56 h57 h58 h59 h60 h61 h62 h63 h64 h65 h66 h67 h68 h69 h70 h71 h72 h73 h74 h75 h76 h77 h78 h79 h80 h81 h82 h83 h84 h85 h86 h87 h88 h89 h90 h91 h92 h93 h94 h95 h96 h97 h98 h99 h100 h102 h103 h104 h105 h106 h107 h108 h109 h110 h111
      go_upto_region 9 with fail
      refine wp_region_softG 27 (by kernel_rfl) (by kernel_rfl) (by rfl) hR ?_
      refine g_move (R := Is (.func (.func 19) #[] #[])) (by rfl) (stb_is _) (by exact fun _ _ _ h => h) ?_
      refine g_move (R := Is (.func (.func 20) #[] #[])) (by rfl) (stb_is _) (by exact fun _ _ _ h => h) ?_
      refine g_ldw (g := gp) (cs := #[.int .i64 k1, .int .i64 o1, .string n1, .string t1, .slice a1 L1 c1]) (R := AtB w3 (pv k1 o1 n1 t1 a1 L1 c1)) (by rfl) (by exact fun _ _ _ h => h) (by repeat (first | exact List.Mem.head _ | refine List.Mem.tail _ ?_)) Tryz.underlying24 rfl pol_info (stb_atb w3 _) (by exact fun _ hb => ⟨rfl, b_trans hB0 hb⟩) ?_
      refine g_ldw (g := gq) (cs := #[.int .i64 k2, .int .i64 o2, .string n2, .string t2, .slice a2 L2 c2]) (R := AtB w3 (pv k2 o2 n2 t2 a2 L2 c2)) (by rfl) (by exact fun _ _ _ h => h) (by repeat (first | exact List.Mem.head _ | refine List.Mem.tail _ ?_)) Tryz.underlying24 rfl pol_info (stb_atb w3 _) (by exact fun _ hb => ⟨rfl, b_trans hB0 hb⟩) ?_
      refine g_callv2 (f := 20) (A := AtB w3 (pv k1 o1 n1 t1 a1 L1 c1)) (A' := AtB w3 (pv k2 o2 n2 t2 a2 L2 c2)) (R := PVp 2 2 (Fo.cons k1 o1 n1 t1 F1 (.cons k2 o2 n2 t2 F2 .nil))) (by rfl) Tryz.func20 (by kernel_rfl) rfl (stb_pvp 2 2 (Fo.cons k1 o1 n1 t1 F1 (.cons k2 o2 n2 t2 F2 .nil))) (by exact fun _ _ _ h => h) (by exact fun _ _ _ h => h) (by exact fun _ _ _ h => h) CA1.out ?_
      refine g_callv1 (f := 19) (A := PVp 2 2 (Fo.cons k1 o1 n1 t1 F1 (.cons k2 o2 n2 t2 F2 .nil))) (R := PVp 1 1 (Fo.cons 2 0 e0 e0 (Fo.cons k1 o1 n1 t1 F1 (.cons k2 o2 n2 t2 F2 .nil)) .nil)) (by rfl) Tryz.func19 (by kernel_rfl) rfl (stb_pvp 1 1 (Fo.cons 2 0 e0 e0 (Fo.cons k1 o1 n1 t1 F1 (.cons k2 o2 n2 t2 F2 .nil)) .nil)) (by exact fun _ _ _ h => h) (by exact fun _ _ _ h => h) CM.out ?_
      refine g_ldw (g := gf) (cs := #[.string x.m, .string x.p, .slice x.a1 x.cl.length x.c1, .slice x.a2 x.ce.length x.c2]) (R := AtB w3 x.v) (by rfl) (by exact fun _ _ _ h => h) (by repeat (first | exact List.Mem.head _ | refine List.Mem.tail _ ?_)) Tryz.underlying27 rfl fac_info (stb_atb w3 _) (by exact fun _ hb => ⟨rfl, b_trans hB0 hb⟩) ?_
      refine g_call2 (A := PVp 1 1 (Fo.cons 2 0 e0 e0 (Fo.cons k1 o1 n1 t1 F1 (.cons k2 o2 n2 t2 F2 .nil)) .nil)) (A' := AtB w3 x.v) (R := Is (.bool false)) (by rfl) Tryz.func13 (by kernel_rfl) rfl (stb_is _) (by exact fun _ _ _ h => h) (by exact fun _ _ _ h => h) DHM.out ?_
      refine g_move (R := Is (.func (.func 21) #[] #[])) (by rfl) (stb_is _) (by exact fun _ _ _ h => h) ?_
      refine g_move (R := Is (.func (.func 19) #[] #[])) (by rfl) (stb_is _) (by exact fun _ _ _ h => h) ?_
      refine g_ldw (g := gp) (cs := #[.int .i64 k1, .int .i64 o1, .string n1, .string t1, .slice a1 L1 c1]) (R := AtB w3 (pv k1 o1 n1 t1 a1 L1 c1)) (by rfl) (by exact fun _ _ _ h => h) (by repeat (first | exact List.Mem.head _ | refine List.Mem.tail _ ?_)) Tryz.underlying24 rfl pol_info (stb_atb w3 _) (by exact fun _ hb => ⟨rfl, b_trans hB0 hb⟩) ?_
      refine g_callv1 (f := 19) (A := AtB w3 (pv k1 o1 n1 t1 a1 L1 c1)) (R := PVp 1 1 (Fo.cons k1 o1 n1 t1 F1 .nil)) (by rfl) Tryz.func19 (by kernel_rfl) rfl (stb_pvp 1 1 (Fo.cons k1 o1 n1 t1 F1 .nil)) (by exact fun _ _ _ h => h) (by exact fun _ _ _ h => h) CN1.out ?_
      refine g_move (R := Is (.func (.func 19) #[] #[])) (by rfl) (stb_is _) (by exact fun _ _ _ h => h) ?_
      refine g_ldw (g := gq) (cs := #[.int .i64 k2, .int .i64 o2, .string n2, .string t2, .slice a2 L2 c2]) (R := AtB w3 (pv k2 o2 n2 t2 a2 L2 c2)) (by rfl) (by exact fun _ _ _ h => h) (by repeat (first | exact List.Mem.head _ | refine List.Mem.tail _ ?_)) Tryz.underlying24 rfl pol_info (stb_atb w3 _) (by exact fun _ hb => ⟨rfl, b_trans hB0 hb⟩) ?_
      refine g_callv1 (f := 19) (A := AtB w3 (pv k2 o2 n2 t2 a2 L2 c2)) (R := PVp 1 1 (Fo.cons k2 o2 n2 t2 F2 .nil)) (by rfl) Tryz.func19 (by kernel_rfl) rfl (stb_pvp 1 1 (Fo.cons k2 o2 n2 t2 F2 .nil)) (by exact fun _ _ _ h => h) (by exact fun _ _ _ h => h) CN2.out ?_
      refine g_callv2 (f := 21) (A := PVp 1 1 (Fo.cons k1 o1 n1 t1 F1 .nil)) (A' := PVp 1 1 (Fo.cons k2 o2 n2 t2 F2 .nil)) (R := PVp 3 2 (Fo.cons 1 0 e0 e0 (Fo.cons k1 o1 n1 t1 F1 .nil) (.cons 1 0 e0 e0 (Fo.cons k2 o2 n2 t2 F2 .nil) .nil))) (by rfl) Tryz.func21 (by kernel_rfl) rfl (stb_pvp 3 2 (Fo.cons 1 0 e0 e0 (Fo.cons k1 o1 n1 t1 F1 .nil) (.cons 1 0 e0 e0 (Fo.cons k2 o2 n2 t2 F2 .nil) .nil))) (by exact fun _ _ _ h => h) (by exact fun _ _ _ h => h) (by exact fun _ _ _ h => h) COR.out ?_
      refine g_ldw (g := gf) (cs := #[.string x.m, .string x.p, .slice x.a1 x.cl.length x.c1, .slice x.a2 x.ce.length x.c2]) (R := AtB w3 x.v) (by rfl) (by exact fun _ _ _ h => h) (by repeat (first | exact List.Mem.head _ | refine List.Mem.tail _ ?_)) Tryz.underlying27 rfl fac_info (stb_atb w3 _) (by exact fun _ hb => ⟨rfl, b_trans hB0 hb⟩) ?_
      refine g_call2 (A := PVp 3 2 (Fo.cons 1 0 e0 e0 (Fo.cons k1 o1 n1 t1 F1 .nil) (.cons 1 0 e0 e0 (Fo.cons k2 o2 n2 t2 F2 .nil) .nil))) (A' := AtB w3 x.v) (R := Is (.bool false)) (by rfl) Tryz.func13 (by kernel_rfl) rfl (stb_is _) (by exact fun _ _ _ h => h) (by exact fun _ _ _ h => h) DHR.out ?_
      refine g_bin (v := .bool false) (u := .bool false) (r := .bool true) (by rfl) (by exact fun _ _ _ h => h) (by exact fun _ _ _ h => h) (by rfl) (fun _ => rfl) ?_
      refine g_move (R := Is (.bool true)) (by rfl) (stb_is _) (by exact fun _ _ _ h => h) ?_
      refine g_build0 (by rfl) ?_
      refine g_ldw (g := gf) (cs := #[.string x.m, .string x.p, .slice x.a1 x.cl.length x.c1, .slice x.a2 x.ce.length x.c2]) (R := AtB w3 x.v) (by rfl) (by exact fun _ _ _ h => h) (by repeat (first | exact List.Mem.head _ | refine List.Mem.tail _ ?_)) Tryz.underlying27 rfl fac_info (stb_atb w3 _) (by exact fun _ hb => ⟨rfl, b_trans hB0 hb⟩) ?_
      refine g_call2 (A := Is (pv 0 0 e0 e0 none 0 0)) (A' := AtB w3 x.v) (R := Is (.bool true)) (by rfl) Tryz.func13 (by kernel_rfl) rfl (stb_is _) (by exact fun _ _ _ h => h) (by exact fun _ _ _ h => h) DHZ.out ?_
      refine g_pick (b := true) (R := Is (.bool true)) (by rfl) (by exact fun _ _ _ h => h) (stb_is _) (by exact fun _ _ _ h => h) ?_
      refine g_move (R := Is (.bool true)) (by rfl) (stb_is _) (by exact fun _ _ _ h => h) ?_
      refine g_call (f := 15) (xs := []) (R := Is (.bool true)) (by rfl) Tryz.func15 (by kernel_rfl) rfl (stb_is _) (by exact fun w _ _ _ => (fixed_any w).mono fun _ _ h => rp_b h) ?_
      refine g_pick (b := true) (R := Is (.bool true)) (by rfl) (by exact fun _ _ _ h => h) (stb_is _) (by exact fun _ _ _ h => h) ?_
      intro w7 hR hb7 v114 h114 v115 h115 v116 h116 v117 h117 v118 h118 v119 h119 v120 h120 v121 h121 v122 h122 v123 h123 v124 h124 v125 h125 v126 h126 v127 h127 v128 h128 v129 h129 v130 h130 v131 h131 v132 h132 v133 h133 v134 h134 v135 h135 v136 h136 v137 h137 v138 h138 v139 h139 v140 h140
      simp only [softEnd, Act.put, List.setIfInBounds_toArray, List.set_cons_succ, List.set_cons_zero, List.drop_succ_cons, List.drop_zero]
      have hB0 := b_trans hB0 hb7
      obtain rfl : v140 = .bool true := h140
      clear h114 h115 h116 h117 h118 h119 h120 h121 h122 h123 h124 h125 h126 h127 h128 h129 h130 h131 h132 h133 h134 h135 h136 h137 h138 h139
      go_wp2_with fail
      go_ret
      exact ⟨rfl, b_trans HB.out hB0⟩
  · have hCz : (C != 0) = true := by simp [hC]
    have hF := HSF.out _ hB0
    obtain ⟨y0, y1, y2, y3, y4, y5, y6, y7, y8, y9, y10, y11, y12, y13⟩ := hF
    by_cases hC1 : C1 = 0
    · subst hC1
      go_wp2_with (first
        | (go_at_call 11; refine (HCP.out _ hB0).mono ?_; rintro e u ⟨rfl, hb⟩; have hB0 := b_trans hB0 hb)
        | (go_at_call 15; refine (fixed_any _).mono ?_; rintro e u ⟨rfl, hb⟩; have hB0 := b_trans hB0 hb))
      go_ret
      exact ⟨rfl, b_trans HB.out hB0⟩
    · have hbd := HBD.out hC1
      have hC1z : (C1 == 0) = false := by simp [hC1]
      rw [hbd] at HP
      go_wp2_with (first
        | (go_at_call 11; refine (HCP.out _ hB0).mono ?_; rintro e u ⟨rfl, hb⟩; have hB0 := b_trans hB0 hb; obtain ⟨y0, y1, y2, y3, y4, y5, y6, y7, y8, y9, y10, y11, y12, y13⟩ := HSF.out _ hB0)
        | (go_at_call 13; refine (HP.out _ hB0).mono ?_; rintro e u ⟨rfl, hb⟩; have hB0 := b_trans hB0 hb)
        | (go_at_call 15; refine (fixed_any _).mono ?_; rintro e u ⟨rfl, hb⟩; have hB0 := b_trans hB0 hb))
      go_ret
      exact ⟨rfl, b_trans HB.out hB0⟩
end Go.Proofs.YthpagppipifgeaaGreatDoor.policyLogic
