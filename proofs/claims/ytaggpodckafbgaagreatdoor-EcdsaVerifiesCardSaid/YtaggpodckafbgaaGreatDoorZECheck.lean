/- Check, Add, Times: what the program answers. -/
import Derived.Test.YtaggpodckafbgaaGreatDoorZEKey
import Derived.Test.YtaggpodckafbgaaGreatDoorZEO
import Derived.Test.YtaggpodckafbgaaGreatDoorZN2
import Derived.Test.YtaggpodckafbgaaGreatDoorZPM
import Derived.Test.YtaggpodckafbgaaGreatDoorZA0
namespace Go.Proofs.YtaggpodckafbgaaGreatDoor
open Go.RowKit
def checkR (kx ky : ByteArray) : Int := match inK kx ky with
  | some (.at _ _) => 0
  | _ => 50
def addR (kx ky lx ly : ByteArray) : (ByteArray × ByteArray) × Int := match inK kx ky, inK lx ly with
  | some A, some B => (outK (Ec.addA A B), 0)
  | _, _ => ((⟨#[]⟩, ⟨#[]⟩), 50)
def timesR (n kx ky : ByteArray) : (ByteArray × ByteArray) × Int :=
  if 32 < n.size then ((⟨#[]⟩, ⟨#[]⟩), 51) else match inK kx ky with
  | some A => (outK (Ec.mulN A (nv n)), 0)
  | none => ((⟨#[]⟩, ⟨#[]⟩), 50)
def retK (r : (ByteArray × ByteArray) × Int) : Ending := .returned (.tuple #[.agg (kvc r.1.1 r.1.2), .int .i64 r.2])
theorem inK_some_size {kx ky : ByteArray} {A : Ec.Pt Ec.P} (h : inK kx ky = some A) : (kx.size = 0 ∧ ky.size = 0 ∧ A = .inf) ∨ (¬ (kx.size = 0 ∧ ky.size = 0) ∧ ∃ x y, A = .at x y) := by
  unfold inK at h
  split at h
  · rename_i h0; left; exact ⟨h0.1, h0.2, (Option.some.inj h).symm⟩
  · rename_i h0
    split at h
    · right; exact ⟨h0, _, _, (Option.some.inj h).symm⟩
    · cases h
theorem nil_iff (a : ByteArray) : a.toList = [] ↔ a.size = 0 := by
  have h := toList_nil a
  have e : (⟨#[]⟩ : ByteArray).toList = [] := (by exact Go.ByteArray.toList_eq _ : (⟨#[]⟩ : ByteArray).toList = (⟨#[]⟩ : ByteArray).data.toList)
  rw [e] at h
  by_cases h0 : a.size = 0
  · rw [decide_eq_true h0] at h; exact ⟨fun _ => h0, fun _ => eq_of_beq h⟩
  · rw [decide_eq_false h0] at h; exact ⟨fun h' => absurd (by rw [h']; rfl) (ne_true_of_eq_false h), fun h' => absurd h' h0⟩
theorem of_some {kx ky : ByteArray} {A : Ec.Pt Ec.P} (h : inK kx ky = some A) (w : World) : Calls Tryz.prog 31 #[.agg (kvc kx ky)] w fun e w' => e = .returned (.tuple #[.agg (jv (Ec.Jac.of A)), .bool true]) ∧ Below w.heap.size w w' :=
  (of_any kx ky w).mono fun e w' ⟨pv, _, _, he, hA, hb⟩ => ⟨by rw [he, hA A h, h]; rfl, hb⟩
theorem of_none {kx ky : ByteArray} (h : inK kx ky = none) (w : World) : Calls Tryz.prog 31 #[.agg (kvc kx ky)] w fun e w' => ∃ pv : Array Value, pv.size = 12 ∧ pv.all (·.oneCell') = true ∧ e = .returned (.tuple #[.agg pv, .bool false]) ∧ Below w.heap.size w w' :=
  (of_any kx ky w).mono fun e w' ⟨pv, hs, hc, he, _, hb⟩ => ⟨pv, hs, hc, by rw [he, h]; rfl, hb⟩
set_option maxRecDepth 100000 in
theorem Check_any (kx ky : ByteArray) (w : World) : Calls Tryz.prog 11 #[.agg (kvc kx ky)] w fun e w' => e = .returned (.int .i64 (checkR kx ky)) ∧ Below w.heap.size w w' := by
  unfold checkR
  cases hA : inK kx ky with
  | none =>
    have h1 := fun w => of_none hA w
    have H1 := Lib.hid h1
    clear h1 hA
    have hR0 := Rws.start w
    go_enter Tryz.func11, Tryz.ntmps11
    go_wp2_with (first
      | (refine wK_box rfl (by rfl) (by assumption) rfl ?_; intro gk w1 hR)
      | (refine wP_alloc rfl (by rfl) (by assumption) ?_; intro gr w1 hR)
      | (refine wK_load rfl (by rfl) (by assumption) rfl (by repeat (first | exact pzH | refine pzM ?_)) rfl ?_)
      | (go_at_call 31; refine (H1.out _).mono ?_; rintro e w1 ⟨pv, hs, hc, rfl, hb1⟩; have hR := Rws.call (by assumption) hb1)
      | (refine wP_store rfl (by rfl) (by assumption) rfl rfl (by repeat (first | exact Pick.here | apply Pick.there)) (by rfl) (by assumption) (by assumption) ?_; intro w1 hR))
    go_ret
    exact ⟨rfl, Rws.below (by assumption)⟩
  | some A =>
    have hsz := inK_some_size hA
    have h1 := fun w => of_some hA w
    have hR0 := Rws.start w
    generalize hj : Ec.Jac.of A = j at *
    have H1 := Lib.hid h1
    rcases hsz with ⟨e1, e2, rfl⟩ | ⟨h0, x, y, rfl⟩
    · have n1 := (nil_iff kx).2 e1
      have n2 := (nil_iff ky).2 e2
      clear h1 hA e1 e2 hj
      go_enter Tryz.func11, Tryz.ntmps11
      go_upto_region 2 with (first
        | (refine wK_box rfl (by rfl) (by assumption) rfl ?_; intro gk w1 hR)
        | (refine wP_alloc rfl (by rfl) (by assumption) ?_; intro gr w1 hR)
        | (refine wK_load rfl (by rfl) (by assumption) rfl (by repeat (first | exact pzH | refine pzM ?_)) rfl ?_)
        | (go_at_call 31; refine (H1.out _).mono ?_; rintro e w1 ⟨rfl, hb1⟩; have hR := Rws.call (by assumption) hb1)
        | (refine wP_store rfl (by rfl) (by assumption) rfl rfl (by repeat (first | exact Pick.here | apply Pick.there)) (by rfl) (by exact jv_size _) (by exact jv_cells _) ?_; intro w1 hR))
      have c0 : w1.cell? ⟨gk, 0, none⟩ = some (.string kx) := cell_of_row w1 gk 0 _ _ _ (hR.row _ (List.Mem.tail _ (List.Mem.head _))).2
      have c1 : w1.cell? ⟨gk, 1, none⟩ = some (.string ky) := cell_of_row w1 gk 1 _ _ _ (hR.row _ (List.Mem.tail _ (List.Mem.head _))).2
      have hbz : ∀ w : World, (Instr.build 23 #[]).run Tryz.prog w = .ok (.agg zkey) w := fun w => run_build w _ _ zkey built_key0
      go_wp2_with fail
      go_ret
      exact ⟨rfl, Rws.below (by assumption)⟩
    · by_cases g1 : kx.size = 0
      · have n1 := (nil_iff kx).2 g1
        have n2 : ¬ ky.toList = [] := fun h => h0 ⟨g1, (nil_iff ky).1 h⟩
        clear h0 g1
        clear h1 hA hj
        go_enter Tryz.func11, Tryz.ntmps11
        go_upto_region 2 with (first
          | (refine wK_box rfl (by rfl) (by assumption) rfl ?_; intro gk w1 hR)
          | (refine wP_alloc rfl (by rfl) (by assumption) ?_; intro gr w1 hR)
          | (refine wK_load rfl (by rfl) (by assumption) rfl (by repeat (first | exact pzH | refine pzM ?_)) rfl ?_)
          | (go_at_call 31; refine (H1.out _).mono ?_; rintro e w1 ⟨rfl, hb1⟩; have hR := Rws.call (by assumption) hb1)
          | (refine wP_store rfl (by rfl) (by assumption) rfl rfl (by repeat (first | exact Pick.here | apply Pick.there)) (by rfl) (by exact jv_size _) (by exact jv_cells _) ?_; intro w1 hR))
        have c0 : w1.cell? ⟨gk, 0, none⟩ = some (.string kx) := cell_of_row w1 gk 0 _ _ _ (hR.row _ (List.Mem.tail _ (List.Mem.head _))).2
        have c1 : w1.cell? ⟨gk, 1, none⟩ = some (.string ky) := cell_of_row w1 gk 1 _ _ _ (hR.row _ (List.Mem.tail _ (List.Mem.head _))).2
        have hbz : ∀ w : World, (Instr.build 23 #[]).run Tryz.prog w = .ok (.agg zkey) w := fun w => run_build w _ _ zkey built_key0
        go_wp2_with fail
        go_ret
        exact ⟨rfl, Rws.below (by assumption)⟩
      · have n1 : ¬ kx.toList = [] := fun h => g1 ((nil_iff kx).1 h)
        clear h0 g1
        clear h1 hA hj
        go_enter Tryz.func11, Tryz.ntmps11
        go_upto_region 2 with (first
          | (refine wK_box rfl (by rfl) (by assumption) rfl ?_; intro gk w1 hR)
          | (refine wP_alloc rfl (by rfl) (by assumption) ?_; intro gr w1 hR)
          | (refine wK_load rfl (by rfl) (by assumption) rfl (by repeat (first | exact pzH | refine pzM ?_)) rfl ?_)
          | (go_at_call 31; refine (H1.out _).mono ?_; rintro e w1 ⟨rfl, hb1⟩; have hR := Rws.call (by assumption) hb1)
          | (refine wP_store rfl (by rfl) (by assumption) rfl rfl (by repeat (first | exact Pick.here | apply Pick.there)) (by rfl) (by exact jv_size _) (by exact jv_cells _) ?_; intro w1 hR))
        have c0 : w1.cell? ⟨gk, 0, none⟩ = some (.string kx) := cell_of_row w1 gk 0 _ _ _ (hR.row _ (List.Mem.tail _ (List.Mem.head _))).2
        have c1 : w1.cell? ⟨gk, 1, none⟩ = some (.string ky) := cell_of_row w1 gk 1 _ _ _ (hR.row _ (List.Mem.tail _ (List.Mem.head _))).2
        have hbz : ∀ w : World, (Instr.build 23 #[]).run Tryz.prog w = .ok (.agg zkey) w := fun w => run_build w _ _ zkey built_key0
        go_wp2_with fail
        go_ret
        exact ⟨rfl, Rws.below (by assumption)⟩
theorem end_key {B : Nat} {w0 w : World} {L : List (Nat × Array Value × TypeId)} {a : Act} {fn : Func} {R : Ending → World → Prop} {p q : Tmp} {g : Nat} {cs : Array Value} {e : Int} (hf : fn.results = #[.cell p 23, .tmp q]) (h : Rws B w0 w L) (hp : a.tmps.getD p undef = .pointer (some ⟨g, 0, none⟩)) (hm : (g, cs, 23) ∈ L) (hs : cs.size = 2) (hq : a.tmps.getD q undef = .int .i64 e)
    (hdef : a.defers = []) (hR : Below B w0 w → R (.returned (.tuple #[.agg cs, .int .i64 e])) w) : bodyPost Tryz.prog fn R .ret a w :=
  bodyPost_rws2 hf h g hp cs _ hm _ Tryz.underlying23 rfl (key_info hs) _ hq hdef hR
set_option maxRecDepth 100000 in
set_option maxHeartbeats 800000 in
theorem ecAdd_any (kx ky lx ly : ByteArray) (w : World) : Calls Tryz.prog 12 #[.agg (kvc kx ky), .agg (kvc lx ly)] w fun e w' => e = retK (addR kx ky lx ly) ∧ Below w.heap.size w w' := by
  unfold addR
  cases hA : inK kx ky with
  | none =>
    have h1 := fun w => of_none hA w
    have H1 := Lib.hid h1
    have HF := Lib.hid (show Ending.returned (.tuple #[.agg zkey, .int .i64 50]) = retK ((⟨#[]⟩, ⟨#[]⟩), 50) from rfl)
    clear h1 hA
    have h2 := fun w => of_any lx ly w
    unfold OfPost at h2
    have H2 := Lib.hid h2
    clear h2
    have hR0 := Rws.start w
    go_enter Tryz.func12, Tryz.ntmps12
    go_upto_region 2 with (first
      | (refine wK_box rfl (by rfl) (by assumption) rfl ?_; intro gk w1 hR)
      | (refine wK_alloc rfl (by rfl) (by assumption) ?_; intro gr w1 hR)
      | (refine wP_alloc rfl (by rfl) (by assumption) ?_; intro gr w1 hR)
      | (refine wK_load rfl (by rfl) (by assumption) rfl (by repeat (first | exact pzH | refine pzM ?_)) rfl ?_)
      | (go_at_call 31; (refine (H1.out _).mono ?_; rintro e w1 ⟨pv, hs, hc, rfl, hb1⟩; have hR := Rws.call (by assumption) hb1))
      | (refine wB_build (xs := []) (cs := zkey) rfl (by rfl) (by exact built_key0) ?_)
      | (refine wK_store rfl (by rfl) (by assumption) rfl rfl (by repeat (first | exact Pick.here | apply Pick.there)) (by rfl) (by rfl) (by exact kvc_cells _ _) ?_; intro w1 hR)
      | (refine wP_store rfl (by rfl) (by assumption) rfl rfl (by repeat (first | exact Pick.here | apply Pick.there)) (by rfl) (by assumption) (by assumption) ?_; intro w1 hR))
    go_wp2_with (first
      | (refine wK_box rfl (by rfl) (by assumption) rfl ?_; intro gk w1 hR)
      | (refine wK_alloc rfl (by rfl) (by assumption) ?_; intro gr w1 hR)
      | (refine wP_alloc rfl (by rfl) (by assumption) ?_; intro gr w1 hR)
      | (refine wK_load rfl (by rfl) (by assumption) rfl (by repeat (first | exact pzH | refine pzM ?_)) rfl ?_)
      | (go_at_call 31; (refine (H2.out _).mono ?_; rintro e w1 ⟨qv, hs2, hc2, rfl, hz2, hb1⟩; clear hz2; have hR := Rws.call (by assumption) hb1))
      | (refine wB_build (xs := []) (cs := zkey) rfl (by rfl) (by exact built_key0) ?_)
      | (refine wK_store rfl (by rfl) (by assumption) rfl rfl (by repeat (first | exact Pick.here | apply Pick.there)) (by rfl) (by rfl) (by exact kvc_cells _ _) ?_; intro w1 hR)
      | (refine wP_store rfl (by rfl) (by assumption) rfl rfl (by repeat (first | exact Pick.here | apply Pick.there)) (by rfl) (by assumption) (by assumption) ?_; intro w1 hR))
    exact end_key Tryz.results12 (by assumption) rfl (List.Mem.head _) rfl rfl rfl fun hb => ⟨HF.out, hb⟩
  | some A =>
    have h1 := fun w => of_some hA w
    have oA := inK_on hA
    have rA := Ec.rep_of Ec.hP A
    clear hA
    cases hB : inK lx ly with
    | none =>
      have h2 := fun w => of_none hB w
      generalize Ec.Jac.of A = j at *
      have H1 := Lib.hid h1
      have H2 := Lib.hid h2
      have HF := Lib.hid (show Ending.returned (.tuple #[.agg zkey, .int .i64 50]) = retK ((⟨#[]⟩, ⟨#[]⟩), 50) from rfl)
      clear h1 h2 hB oA rA
      have hR0 := Rws.start w
      go_enter Tryz.func12, Tryz.ntmps12
      go_upto_region 2 with (first
        | (refine wK_box rfl (by rfl) (by assumption) rfl ?_; intro gk w1 hR)
        | (refine wK_alloc rfl (by rfl) (by assumption) ?_; intro gr w1 hR)
        | (refine wP_alloc rfl (by rfl) (by assumption) ?_; intro gr w1 hR)
        | (refine wK_load rfl (by rfl) (by assumption) rfl (by repeat (first | exact pzH | refine pzM ?_)) rfl ?_)
        | (go_at_call 31; (refine (H1.out _).mono ?_; rintro e w1 ⟨rfl, hb1⟩; have hR := Rws.call (by assumption) hb1))
        | (refine wB_build (xs := []) (cs := zkey) rfl (by rfl) (by exact built_key0) ?_)
        | (refine wK_store rfl (by rfl) (by assumption) rfl rfl (by repeat (first | exact Pick.here | apply Pick.there)) (by rfl) (by rfl) (by exact kvc_cells _ _) ?_; intro w1 hR)
        | (refine wP_store rfl (by rfl) (by assumption) rfl rfl (by repeat (first | exact Pick.here | apply Pick.there)) (by rfl) (by first | assumption | exact jv_size _) (by first | assumption | exact jv_cells _) ?_; intro w1 hR))
      go_wp2_with (first
        | (refine wK_box rfl (by rfl) (by assumption) rfl ?_; intro gk w1 hR)
        | (refine wK_alloc rfl (by rfl) (by assumption) ?_; intro gr w1 hR)
        | (refine wP_alloc rfl (by rfl) (by assumption) ?_; intro gr w1 hR)
        | (refine wK_load rfl (by rfl) (by assumption) rfl (by repeat (first | exact pzH | refine pzM ?_)) rfl ?_)
        | (go_at_call 31; (refine (H2.out _).mono ?_; rintro e w1 ⟨qv, hs2, hc2, rfl, hb1⟩; have hR := Rws.call (by assumption) hb1))
        | (refine wB_build (xs := []) (cs := zkey) rfl (by rfl) (by exact built_key0) ?_)
        | (refine wK_store rfl (by rfl) (by assumption) rfl rfl (by repeat (first | exact Pick.here | apply Pick.there)) (by rfl) (by rfl) (by exact kvc_cells _ _) ?_; intro w1 hR)
        | (refine wP_store rfl (by rfl) (by assumption) rfl rfl (by repeat (first | exact Pick.here | apply Pick.there)) (by rfl) (by first | assumption | exact jv_size _) (by first | assumption | exact jv_cells _) ?_; intro w1 hR))
      exact end_key Tryz.results12 (by assumption) rfl (List.Mem.head _) rfl rfl rfl fun hb => ⟨HF.out, hb⟩
    | some B =>
      have h2 := fun w => of_some hB w
      have oB := inK_on hB
      have rB := Ec.rep_of Ec.hP B
      clear hB
      have rS : Ec.Rep ((Ec.Jac.of A).add (Ec.Jac.of B)) (Ec.addA A B) := Ec.Rep.add Ec.hP Ec.two_ne rA rB oA oB
      have h3 := fun w => padd_any (Ec.Jac.of A) (Ec.Jac.of B) w
      have h4 := fun w => key_rep _ _ rS w
      obtain ⟨ok, hok⟩ : ∃ o, o = outK (Ec.addA A B) := ⟨_, rfl⟩
      rw [← hok] at h4
      have HF := Lib.hid (show Ending.returned (.tuple #[.agg (kvc ok.1 ok.2), .int .i64 0]) = retK (outK (Ec.addA A B), 0) by rw [hok]; rfl)
      clear rS oA oB rA rB hok
      generalize (Ec.Jac.of A).add (Ec.Jac.of B) = s at *
      generalize Ec.Jac.of A = j at *
      generalize Ec.Jac.of B = k at *
      have H1 := Lib.hid h1; have H2 := Lib.hid h2; have H3 := Lib.hid h3; have H4 := Lib.hid h4
      clear h1 h2 h3 h4
      have hR0 := Rws.start w
      go_enter Tryz.func12, Tryz.ntmps12
      go_upto_region 2 with (first
        | (refine wK_box rfl (by rfl) (by assumption) rfl ?_; intro gk w1 hR)
        | (refine wK_alloc rfl (by rfl) (by assumption) ?_; intro gr w1 hR)
        | (refine wP_alloc rfl (by rfl) (by assumption) ?_; intro gr w1 hR)
        | (refine wK_load rfl (by rfl) (by assumption) rfl (by repeat (first | exact pzH | refine pzM ?_)) rfl ?_)
        | (refine wP_loadAll rfl (by rfl) (by assumption) rfl (by repeat (first | exact pzH | refine pzM ?_)) (by exact jv_size _) ?_)
        | (go_at_call 31; (refine (H1.out _).mono ?_; rintro e w1 ⟨rfl, hb1⟩; have hR := Rws.call (by assumption) hb1))
        | (go_at_call 32; refine (H3.out _).mono ?_; rintro e w1 ⟨rfl, hb1⟩; have hR := Rws.call (by assumption) hb1)
        | (go_at_call 33; refine (H4.out _).mono ?_; rintro e w1 ⟨rfl, hb1⟩; have hR := Rws.call (by assumption) hb1)
        | (refine wK_store rfl (by rfl) (by assumption) rfl rfl (by repeat (first | exact Pick.here | apply Pick.there)) (by rfl) (by rfl) (by exact kvc_cells _ _) ?_; intro w1 hR)
        | (refine wP_store rfl (by rfl) (by assumption) rfl rfl (by repeat (first | exact Pick.here | apply Pick.there)) (by rfl) (by first | assumption | exact jv_size _) (by first | assumption | exact jv_cells _) ?_; intro w1 hR))
      go_wp2_with (first
        | (refine wK_box rfl (by rfl) (by assumption) rfl ?_; intro gk w1 hR)
        | (refine wK_alloc rfl (by rfl) (by assumption) ?_; intro gr w1 hR)
        | (refine wP_alloc rfl (by rfl) (by assumption) ?_; intro gr w1 hR)
        | (refine wK_load rfl (by rfl) (by assumption) rfl (by repeat (first | exact pzH | refine pzM ?_)) rfl ?_)
        | (refine wP_loadAll rfl (by rfl) (by assumption) rfl (by repeat (first | exact pzH | refine pzM ?_)) (by exact jv_size _) ?_)
        | (go_at_call 31; (refine (H2.out _).mono ?_; rintro e w1 ⟨rfl, hb1⟩; have hR := Rws.call (by assumption) hb1))
        | (go_at_call 32; refine (H3.out _).mono ?_; rintro e w1 ⟨rfl, hb1⟩; have hR := Rws.call (by assumption) hb1)
        | (go_at_call 33; refine (H4.out _).mono ?_; rintro e w1 ⟨rfl, hb1⟩; have hR := Rws.call (by assumption) hb1)
        | (refine wK_store rfl (by rfl) (by assumption) rfl rfl (by repeat (first | exact Pick.here | apply Pick.there)) (by rfl) (by rfl) (by exact kvc_cells _ _) ?_; intro w1 hR)
        | (refine wP_store rfl (by rfl) (by assumption) rfl rfl (by repeat (first | exact Pick.here | apply Pick.there)) (by rfl) (by first | assumption | exact jv_size _) (by first | assumption | exact jv_cells _) ?_; intro w1 hR))
      exact end_key Tryz.results12 (by assumption) rfl (List.Mem.head _) rfl rfl rfl fun hb => ⟨HF.out, hb⟩
theorem pad_size {n : ByteArray} (h : n.size ≤ 32) : PadR n 32 = (List.replicate (32 - Dg.len 256 (nv n)) 0 ++ fm (nv n), 0) ∧ (List.replicate (32 - Dg.len 256 (nv n)) 0 ++ fm (nv n)).length = 32 := by
  have hL : Dg.len 256 (nv n) ≤ n.size := by
    refine (Dg.len_le_iff (by omega) _ _).2 ?_
    have h := bv_lt n.data.toList
    have e : n.data.toList.length = n.size := by simp
    rw [e] at h; exact h
  refine ⟨?_, ?_⟩
  · unfold PadR
    rw [if_neg (by omega)]
    rfl
  · rw [List.length_append, List.length_replicate, fm_length]; omega
theorem bv_rep (n : Nat) (l : List UInt8) : bv (List.replicate n 0 ++ l) = bv l := by
  induction n with
  | zero => rfl
  | succ n ih => rw [List.replicate_succ, List.cons_append, bv_cons, ih]; simp
theorem nv_lt32 {s : ByteArray} (h : s.size ≤ 32) : nv s < 115792089237316195423570985008687907853269984665640564039457584007913129639936 := by
  have h1 := bv_lt s.data.toList
  have e : s.data.toList.length = s.size := by simp
  rw [e] at h1
  exact Nat.lt_of_lt_of_le h1 (Nat.pow_le_pow_right (by omega) h)
set_option maxRecDepth 100000 in
set_option maxHeartbeats 800000 in
theorem ecTimes_any (n kx ky : ByteArray) (w : World) : Calls Tryz.prog 17 #[.string n, .agg (kvc kx ky)] w fun e w' => e = retK (timesR n kx ky) ∧ Below w.heap.size w w' := by
  unfold timesR
  by_cases hn : 32 < n.size
  · rw [if_pos hn]
    have HF := Lib.hid (show Ending.returned (.tuple #[.agg zkey, .int .i64 51]) = retK ((⟨#[]⟩, ⟨#[]⟩), 51) from rfl)
    have hn' : (32 : Int) < n.size := by omega
    clear hn
    have hR0 := Rws.start w
    go_enter Tryz.func17, Tryz.ntmps17
    go_wp2_with (first
      | (refine wK_box rfl (by rfl) (by assumption) rfl ?_; intro gk w1 hR)
      | (refine wK_alloc rfl (by rfl) (by assumption) ?_; intro gr w1 hR)
      | (refine wB_build (xs := []) (cs := zkey) rfl (by rfl) (by exact built_key0) ?_)
      | (refine wK_store rfl (by rfl) (by assumption) rfl rfl (by repeat (first | exact Pick.here | apply Pick.there)) (by rfl) (by rfl) (by exact kvc_cells _ _) ?_; intro w1 hR))
    exact end_key Tryz.results17 (by assumption) rfl (List.Mem.head _) rfl rfl rfl fun hb => ⟨HF.out, hb⟩
  · rw [if_neg hn]
    have hn' : ¬ (32 : Int) < n.size := by omega
    cases hA : inK kx ky with
    | none =>
      have h1 := fun w => of_none hA w
      have H1 := Lib.hid h1
      have HF := Lib.hid (show Ending.returned (.tuple #[.agg zkey, .int .i64 50]) = retK ((⟨#[]⟩, ⟨#[]⟩), 50) from rfl)
      clear h1 hA hn
      have hR0 := Rws.start w
      go_enter Tryz.func17, Tryz.ntmps17
      go_wp2_with (first
        | (refine wK_box rfl (by rfl) (by assumption) rfl ?_; intro gk w1 hR)
        | (refine wK_alloc rfl (by rfl) (by assumption) ?_; intro gr w1 hR)
        | (refine wP_alloc rfl (by rfl) (by assumption) ?_; intro gr w1 hR)
        | (refine wK_load rfl (by rfl) (by assumption) rfl (by repeat (first | exact pzH | refine pzM ?_)) rfl ?_)
        | (go_at_call 31; refine (H1.out _).mono ?_; rintro e w1 ⟨pv, hs, hc, rfl, hb1⟩; have hR := Rws.call (by assumption) hb1)
        | (refine wB_build (xs := []) (cs := zkey) rfl (by rfl) (by exact built_key0) ?_)
        | (refine wK_store rfl (by rfl) (by assumption) rfl rfl (by repeat (first | exact Pick.here | apply Pick.there)) (by rfl) (by rfl) (by exact kvc_cells _ _) ?_; intro w1 hR)
        | (refine wP_store rfl (by rfl) (by assumption) rfl rfl (by repeat (first | exact Pick.here | apply Pick.there)) (by rfl) (by assumption) (by assumption) ?_; intro w1 hR))
      exact end_key Tryz.results17 (by assumption) rfl (List.Mem.head _) rfl rfl rfl fun hb => ⟨HF.out, hb⟩
    | some A =>
      have h1 := fun w => of_some hA w
      have oA := inK_on hA
      have rA := Ec.rep_of Ec.hP A
      have hlt := nv_lt32 (show n.size ≤ 32 by omega)
      have rS : Ec.Rep (Ec.mulJ (Ec.Jac.of A) 256 (nv n)) (Ec.mulN A (nv n)) := Ec.rep_mulJ Ec.hP Ec.two_ne oA rA 256 (nv n) hlt
      have h3 := fun w => multiple_any (Ec.Jac.of A) (nv n) w hlt
      have h4 := fun w => key_rep _ _ rS w
      obtain ⟨ep, el⟩ := pad_size (show n.size ≤ 32 by omega)
      have h5 := fun w => Pad_any n 32 w (by omega)
      have e6 : nv ⟨(List.replicate (32 - Dg.len 256 (nv n)) 0 ++ fm (nv n)).toArray⟩ = nv n := by
        show bv (List.replicate (32 - Dg.len 256 (nv n)) 0 ++ fm (nv n)) = nv n
        rw [bv_rep, bv_fm]
      have h6 := fun w => number_any ⟨(List.replicate (32 - Dg.len 256 (nv n)) 0 ++ fm (nv n)).toArray⟩ (by rw [str_size]; exact el) w
      rw [e6] at h6
      rw [ep] at h5
      unfold ret2 at h5
      obtain ⟨ok, hok⟩ : ∃ o, o = outK (Ec.mulN A (nv n)) := ⟨_, rfl⟩
      rw [← hok] at h4
      have HF := Lib.hid (show Ending.returned (.tuple #[.agg (kvc ok.1 ok.2), .int .i64 0]) = retK (outK (Ec.mulN A (nv n)), 0) by rw [hok]; rfl)
      clear rS oA rA hok ep el e6 hlt hn hA
      generalize Ec.mulJ (Ec.Jac.of A) 256 (nv n) = s at *
      generalize Ec.Jac.of A = j at *
      simp only [] at h5
      generalize (⟨(List.replicate (32 - Dg.len 256 (nv n)) 0 ++ fm (nv n)).toArray⟩ : ByteArray) = pd at *
      have H1 := Lib.hid h1; have H3 := Lib.hid h3; have H4 := Lib.hid h4; have H5 := Lib.hid h5; have H6 := Lib.hid h6
      clear h1 h3 h4 h5 h6
      have hR0 := Rws.start w
      go_enter Tryz.func17, Tryz.ntmps17
      go_upto_region 7 with (first
        | (refine wK_box rfl (by rfl) (by assumption) rfl ?_; intro gk w1 hR)
        | (refine wK_alloc rfl (by rfl) (by assumption) ?_; intro gr w1 hR)
        | (refine wP_alloc rfl (by rfl) (by assumption) ?_; intro gr w1 hR)
        | (refine wK_load rfl (by rfl) (by assumption) rfl (by repeat (first | exact pzH | refine pzM ?_)) rfl ?_)
        | (go_at_call 31; refine (H1.out _).mono ?_; rintro e w1 ⟨rfl, hb1⟩; have hR := Rws.call (by assumption) hb1)
        | (go_at_call 24; refine (H5.out _).mono ?_; rintro e w1 ⟨rfl, hb1⟩; have hR := Rws.call (by assumption) hb1)
        | (refine wP_store rfl (by rfl) (by assumption) rfl rfl (by repeat (first | exact Pick.here | apply Pick.there)) (by rfl) (by exact jv_size _) (by exact jv_cells _) ?_; intro w1 hR))
      refine wp_region_calm 5 (by kernel_rfl) (by kernel_rfl) (by assumption) ?_
      refine cP_loadAll (by rfl) rfl (by repeat (first | exact pzH | refine pzM ?_)) (by exact jv_size _) ?_
      simp only [Act.put, pzT, pzA, pzB]
      repeat (first | (refine lexC_alloc (by rfl) ?_; simp only [Act.put, pzT, pzA, pzB]) | (refine cP_fx (by rfl) rfl ?_; simp only [Act.put, pzT, pzA, pzB]) | (refine cP_fy (by rfl) rfl ?_; simp only [Act.put, pzT, pzA, pzB]) | (refine cP_fz (by rfl) rfl ?_; simp only [Act.put, pzT, pzA, pzB]) | (refine cN_load (by rfl) rfl (by repeat (first | exact pzH | refine pzM ?_)) rfl ?_; simp only [Act.put, pzT, pzA, pzB]) | (refine cP_lx (by rfl) rfl (by repeat (first | exact pzH | refine pzM ?_)) ?_; simp only [Act.put, pzT, pzA, pzB]) | (refine cP_ly (by rfl) rfl (by repeat (first | exact pzH | refine pzM ?_)) ?_; simp only [Act.put, pzT, pzA, pzB]) | (refine cP_lz (by rfl) rfl (by repeat (first | exact pzH | refine pzM ?_)) ?_; simp only [Act.put, pzT, pzA, pzB]) | (refine lexC_move (by rfl) rfl ?_; simp only [Act.put, pzT, pzA, pzB]) | (refine lexC_assign (by rfl) rfl ?_; simp only [Act.put, pzT, pzA, pzB]))
      refine lexC_call rfl Tryz.func45 (by kernel_rfl) rfl rfl (fun w _ => H6.out w) ?_
      simp only [Act.put, pzT, pzA, pzB]
      repeat (first | (refine lexC_alloc (by rfl) ?_; simp only [Act.put, pzT, pzA, pzB]) | (refine cP_fx (by rfl) rfl ?_; simp only [Act.put, pzT, pzA, pzB]) | (refine cP_fy (by rfl) rfl ?_; simp only [Act.put, pzT, pzA, pzB]) | (refine cP_fz (by rfl) rfl ?_; simp only [Act.put, pzT, pzA, pzB]) | (refine cN_load (by rfl) rfl (by repeat (first | exact pzH | refine pzM ?_)) rfl ?_; simp only [Act.put, pzT, pzA, pzB]) | (refine cP_lx (by rfl) rfl (by repeat (first | exact pzH | refine pzM ?_)) ?_; simp only [Act.put, pzT, pzA, pzB]) | (refine cP_ly (by rfl) rfl (by repeat (first | exact pzH | refine pzM ?_)) ?_; simp only [Act.put, pzT, pzA, pzB]) | (refine cP_lz (by rfl) rfl (by repeat (first | exact pzH | refine pzM ?_)) ?_; simp only [Act.put, pzT, pzA, pzB]) | (refine lexC_move (by rfl) rfl ?_; simp only [Act.put, pzT, pzA, pzB]) | (refine lexC_assign (by rfl) rfl ?_; simp only [Act.put, pzT, pzA, pzB]))
      refine lexC_call rfl Tryz.func44 (by kernel_rfl) rfl rfl (fun w _ => H3.out w) ?_
      simp only [Act.put, pzT, pzA, pzB]
      repeat (first | (refine lexC_alloc (by rfl) ?_; simp only [Act.put, pzT, pzA, pzB]) | (refine cP_fx (by rfl) rfl ?_; simp only [Act.put, pzT, pzA, pzB]) | (refine cP_fy (by rfl) rfl ?_; simp only [Act.put, pzT, pzA, pzB]) | (refine cP_fz (by rfl) rfl ?_; simp only [Act.put, pzT, pzA, pzB]) | (refine cN_load (by rfl) rfl (by repeat (first | exact pzH | refine pzM ?_)) rfl ?_; simp only [Act.put, pzT, pzA, pzB]) | (refine cP_lx (by rfl) rfl (by repeat (first | exact pzH | refine pzM ?_)) ?_; simp only [Act.put, pzT, pzA, pzB]) | (refine cP_ly (by rfl) rfl (by repeat (first | exact pzH | refine pzM ?_)) ?_; simp only [Act.put, pzT, pzA, pzB]) | (refine cP_lz (by rfl) rfl (by repeat (first | exact pzH | refine pzM ?_)) ?_; simp only [Act.put, pzT, pzA, pzB]) | (refine lexC_move (by rfl) rfl ?_; simp only [Act.put, pzT, pzA, pzB]) | (refine lexC_assign (by rfl) rfl ?_; simp only [Act.put, pzT, pzA, pzB]))
      refine lexC_call rfl Tryz.func33 (by kernel_rfl) rfl rfl (fun w _ => H4.out w) ?_
      simp only [Act.put, pzT, pzA, pzB]
      refine lexC_zero ?_; simp only [pzC, pzD, pzE, pzF]; (repeat (first | (refine aN_cons (by rfl) ?_; intro g; simp only [Act.put, pzT, pzA, pzB]) | (refine afterAl_skip (by rfl) ?_))); refine afterAl_nil ?_; intro w1 hR
      go_wp2_with (refine wK_store rfl (by rfl) (by assumption) rfl rfl (by repeat (first | exact Pick.here | apply Pick.there)) (by rfl) (by rfl) (by exact kvc_cells _ _) ?_; intro w1 hR)
      exact end_key Tryz.results17 (by assumption) rfl (List.Mem.head _) rfl rfl rfl fun hb => ⟨HF.out, hb⟩
end Go.Proofs.YtaggpodckafbgaaGreatDoor
