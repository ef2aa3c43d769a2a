/- EFixed0 EFixed, in one text. -/
import Derived.Test.YtaggpodckafbgaaGreatDoorZECheck
import Derived.Test.YtaggpodckafbgaaGreatDoorZA0
/- fixed: calls whose answers the document fixes. -/
namespace Go.Proofs.YtaggpodckafbgaaGreatDoor
open Go.RowKit
theorem nv_pb {v : Nat} (h : v < 115792089237316195423570985008687907853269984665640564039457584007913129639936) : nv ⟨(pb v 32).toArray⟩ = v := by
  show bv (pb v 32) = v
  rw [bv_pb]
  exact Nat.mod_eq_of_lt h
theorem pb_size (v n : Nat) : (⟨(pb v n).toArray⟩ : ByteArray).size = n := by rw [str_size]; exact pb_length v n
theorem inK_out {A : Ec.Pt Ec.P} (h : A.on Ec.cb) : inK (outK A).1 (outK A).2 = some A := by
  cases A with
  | inf => exact if_pos ⟨rfl, rfl⟩
  | «at» x y =>
    have ex : (outK (.at x y)).1.size = 32 := pb_size _ _
    have ey : (outK (.at x y)).2.size = 32 := pb_size _ _
    have vx : nv (outK (.at x y)).1 = x.val := nv_pb (F_lt x)
    have vy : nv (outK (.at x y)).2 = y.val := nv_pb (F_lt y)
    unfold inK
    rw [if_neg (fun h => by have := h.1; omega), vx, vy, if_pos ⟨ex, ey, x.isLt, y.isLt, by rw [toF_of, toF_of]; exact h⟩, toF_of, toF_of]
def tgx : List UInt8 := [107, 23, 209, 242, 225, 44, 66, 71, 248, 188, 230, 229, 99, 164, 64, 242, 119, 3, 125, 129, 45, 235, 51, 160, 244, 161, 57, 69, 216, 152, 194, 150]
def tgy : List UInt8 := [79, 227, 66, 226, 254, 26, 127, 155, 142, 231, 235, 74, 124, 15, 158, 22, 43, 206, 51, 87, 107, 49, 94, 206, 203, 182, 64, 104, 55, 191, 81, 245]
def t2x : List UInt8 := [124, 242, 123, 24, 141, 3, 79, 126, 138, 82, 56, 3, 4, 181, 26, 195, 192, 137, 105, 226, 119, 242, 27, 53, 166, 11, 72, 252, 71, 102, 153, 120]
def t2y : List UInt8 := [7, 119, 85, 16, 219, 142, 208, 64, 41, 61, 154, 198, 159, 116, 48, 219, 186, 125, 173, 230, 60, 233, 130, 41, 158, 4, 183, 157, 34, 120, 115, 209]
def tn : List UInt8 := [255, 255, 255, 255, 0, 0, 0, 0, 255, 255, 255, 255, 255, 255, 255, 255, 188, 230, 250, 173, 167, 23, 158, 132, 243, 185, 202, 194, 252, 99, 37, 81]
theorem out_G : outK Ec.G = (⟨tgx.toArray⟩, ⟨tgy.toArray⟩) := by
  have e1 : pb Ec.gx.val 32 = tgx := by decide +kernel
  have e2 : pb Ec.gy.val 32 = tgy := by decide +kernel
  show ((⟨(pb Ec.gx.val 32).toArray⟩ : ByteArray), (⟨(pb Ec.gy.val 32).toArray⟩ : ByteArray)) = _
  rw [e1, e2]
theorem out_2G : outK (.at Ec.g2x Ec.g2y) = (⟨t2x.toArray⟩, ⟨t2y.toArray⟩) := by
  have e1 : pb Ec.g2x.val 32 = t2x := by decide +kernel
  have e2 : pb Ec.g2y.val 32 = t2y := by decide +kernel
  show ((⟨(pb Ec.g2x.val 32).toArray⟩ : ByteArray), (⟨(pb Ec.g2y.val 32).toArray⟩ : ByteArray)) = _
  rw [e1, e2]
theorem out_N : pb Ec.N 32 = tn := by decide +kernel
theorem in_G : inK ⟨tgx.toArray⟩ ⟨tgy.toArray⟩ = some Ec.G := by
  have h := inK_out Ec.G_on
  rw [out_G] at h
  exact h
set_option maxRecDepth 100000 in
theorem Verify_len (kx ky s sig : ByteArray) (w : World) (hl : sig.size ≠ 64) : Calls Tryz.prog 19 #[.agg (kvc kx ky), .string s, .string sig] w fun e w' => e = .returned (.bool false) ∧ Below w.heap.size w w' := by
  have HC := Lib.hid (fun w => Check_any kx ky w)
  have hl' : ¬ (sig.size : Int) = 64 := by omega
  have hR0 := Rws.start w
  by_cases h0 : checkR kx ky = 0
  · have H0 := Lib.hid h0
    clear h0 hl
    go_enter Tryz.func19, Tryz.ntmps19
    go_wp2_with (first
      | (refine wK_box rfl (by rfl) (by assumption) rfl ?_; intro gk w1 hR)
      | (refine wK_load rfl (by rfl) (by assumption) rfl (by repeat (first | exact pzH | refine pzM ?_)) rfl ?_)
      | (go_at_call 11; refine (HC.out _).mono ?_; rintro e w1 ⟨rfl, hb1⟩; rw [H0.out]; have hR := Rws.call (by assumption) hb1))
    go_ret
    exact ⟨rfl, Rws.below (by assumption)⟩
  · clear hl
    go_enter Tryz.func19, Tryz.ntmps19
    go_wp2_with (first
      | (refine wK_box rfl (by rfl) (by assumption) rfl ?_; intro gk w1 hR)
      | (refine wK_load rfl (by rfl) (by assumption) rfl (by repeat (first | exact pzH | refine pzM ?_)) rfl ?_)
      | (go_at_call 11; refine (HC.out _).mono ?_; rintro e w1 ⟨rfl, hb1⟩; have hR := Rws.call (by assumption) hb1))
    go_ret
    exact ⟨rfl, Rws.below (by assumption)⟩
end Go.Proofs.YtaggpodckafbgaaGreatDoor
/- fixed of the law: the walk. -/
namespace Go.Proofs.YtaggpodckafbgaaGreatDoor
open Go.RowKit
def zs (n : Nat) : ByteArray := ⟨(List.replicate n (0 : UInt8)).toArray⟩
theorem zs_size (n : Nat) : (zs n).size = n := by unfold zs; rw [str_size]; simp
set_option maxRecDepth 100000 in
theorem run_string_zeros {w : World} {g n : Nat} (h : Own w .u8 5 g n (fun _ => 0)) :
    (convert 50 9 (.slice (some ⟨g, 0, none⟩) n n)).run Tryz.prog w = .ok (.string (zs n)) w := by
  have hr := run_convert_bytes_arg w 50 5 Tryz.underlying50 Tryz.underlying5 g 0 n n (List.replicate n (0 : Int)) (by simp) (fun i hi => by
      have hi' : i < n := by simpa using hi
      rw [Nat.zero_add, h.cell i hi']
      simp [List.getD, hi']) 9 Tryz.underlying9
  rw [hr]
  congr 2
  unfold strOfNums zs
  simp
def z33 : Array Value := madeCells #[.int .u8 0] 33
set_option maxRecDepth 100000 in
theorem run_make33 (u : World) : (Instr.makeSlice 50 (.int .i64 33) (.int .i64 33)).run Tryz.prog u = .ok (.slice (some ⟨u.heap.size, 0, none⟩) 33 33) (u.alloc (.cells z33 5)) := by
  obtain ⟨i0, hi, hz0, hz1, hz2⟩ := info_parts info8
  have h := run_make (P := Tryz.prog) u 50 5 i0 (.int .u8 0) Tryz.underlying50 hi hz0 .i64 .i64 33 33 (by omega) (Int.le_refl _) (by rw [hz2]; omega) (by omega)
  simpa [hz1, Value.cells, z33] using h
set_option maxRecDepth 100000 in
theorem run_string33 (u : World) (g : Nat) (h : u.heap[g]? = some (.cells z33 5 (0, 0))) :
    (convert 50 9 (.slice (some ⟨g, 0, none⟩) 33 33)).run Tryz.prog u = .ok (.string (zs 33)) u := by
  refine run_string_zeros (g := g) (n := 33) ⟨z33, h, ?_, by omega, fun j hj => ?_⟩
  · simp [z33, madeCells]
  · rw [← Array.getElem?_toList, z33, toList_madeCells_one, List.getElem?_replicate, if_pos hj]; rfl
theorem store_key0 {B : Nat} {w0 w : World} {L : List (Nat × Array Value × TypeId)} {g : Nat} (hR : Rws B w0 w ((g, zkey, 23) :: L)) : ∃ w3, (storeCells ⟨g, 0, none⟩ zkey.toList).run Tryz.prog w = .ok () w3 ∧ Rws B w0 w3 L := by
  have h := run_storeCells_from (P := Tryz.prog) g 23 zkey.toList 0 zkey _ (hR.row _ (List.Mem.head _)).2 (by simp) (fun v hv => (Array.all_eq_true_iff_forall_mem.1 (kvc_cells ⟨#[]⟩ ⟨#[]⟩)) v (by exact Array.mem_toList_iff.1 hv))
  exact ⟨_, h, (hR.set Pick.here _).sub (List.sublist_cons_self _ _)⟩
theorem store_keyN {B : Nat} {w0 w : World} {L : List (Nat × Array Value × TypeId)} (hR : Rws B w0 w L) : ∃ w3, (storeCells ⟨w.heap.size, 0, none⟩ zkey.toList).run Tryz.prog (w.alloc (.cells #[.string ⟨#[]⟩, .string ⟨#[]⟩] 23)) = .ok () w3 ∧ Rws B w0 w3 L := store_key0 (hR.alloc zkey _)
def z33o : Obj := .cells z33 5
theorem add_far (A : Ec.Pt Ec.P) : Ec.addA A .inf = A := by cases A <;> rfl
set_option maxRecDepth 100000 in
set_option maxHeartbeats 3200000 in
theorem fixed_core (bx b_y tx t_y bn : ByteArray) (w : World)
    (h41 : ∀ w : World, Calls Tryz.prog 41 #[] w fun e w' => e = .returned (.agg (kvc bx b_y)) ∧ Below w.heap.size w w')
    (h21 : ∀ w : World, Calls Tryz.prog 21 #[] w fun e w' => e = .returned (.string bn) ∧ Below w.heap.size w w')
    (hT2 : ∀ w : World, Calls Tryz.prog 17 #[.string ⟨#[2]⟩, .agg (kvc bx b_y)] w fun e w' => e = .returned (.tuple #[.agg (kvc tx t_y), .int .i64 0]) ∧ Below w.heap.size w w')
    (hTN : ∀ w : World, Calls Tryz.prog 17 #[.string bn, .agg (kvc bx b_y)] w fun e w' => e = .returned (.tuple #[.agg zkey, .int .i64 0]) ∧ Below w.heap.size w w')
    (hS : ∀ w : World, Calls Tryz.prog 12 #[.agg (kvc bx b_y), .agg zkey] w fun e w' => e = .returned (.tuple #[.agg (kvc bx b_y), .int .i64 0]) ∧ Below w.heap.size w w')
    (h33 : ∀ w : World, Calls Tryz.prog 17 #[.string (zs 33), .agg (kvc bx b_y)] w fun e w' => e = .returned (.tuple #[.agg zkey, .int .i64 51]) ∧ Below w.heap.size w w')
    (hX : ∀ w : World, Calls Tryz.prog 12 #[.agg (kvc bx b_y), .agg (kvc ⟨#[120]⟩ ⟨#[]⟩)] w fun e w' => e = .returned (.tuple #[.agg zkey, .int .i64 50]) ∧ Below w.heap.size w w')
    (hC : ∀ w : World, Calls Tryz.prog 11 #[.agg (kvc bx b_y)] w fun e w' => e = .returned (.int .i64 0) ∧ Below w.heap.size w w')
    (hC0 : ∀ w : World, Calls Tryz.prog 11 #[.agg zkey] w fun e w' => e = .returned (.int .i64 50) ∧ Below w.heap.size w w')
    (hV : ∀ w : World, Calls Tryz.prog 19 #[.agg (kvc bx b_y), .string ⟨#[]⟩, .string ⟨#[]⟩] w fun e w' => e = .returned (.bool false) ∧ Below w.heap.size w w')
    (hbn : (bn.size : Int) = 32) (hbx : (bx.size : Int) = 32) (htx : (tx.size : Int) = 32)
    (hs1 : (bn.extract 28 bn.size).toList = [252, 99, 37, 81]) (hs2 : (bx.extract 0 4).toList = [107, 23, 209, 242]) (hs3 : (tx.extract 0 4).toList = [124, 242, 123, 24]) (hs4 : (tx.extract 28 tx.size).toList = [71, 102, 153, 120])
    : Calls Tryz.prog 14 #[] w fun e w' => e = .returned (.bool true) ∧ Below w.heap.size w w' := by
  have H41 := Lib.hid h41; have H21 := Lib.hid h21; have HT2 := Lib.hid hT2; have HTN := Lib.hid hTN; have HS := Lib.hid hS; have H33 := Lib.hid h33; have HX := Lib.hid hX; have HC := Lib.hid hC; have HC0 := Lib.hid hC0; have HV := Lib.hid hV
  clear h41 h21 hT2 hTN hS h33 hX hC hC0 hV
  have hR0 := Rws.start w
  go_enter Tryz.func14, Tryz.ntmps14
  go_upto_region 2 with (first
    | (refine wK_alloc rfl (by rfl) (by assumption) ?_; intro g1 w1 hR)
    | (refine wK_store rfl (by rfl) (by assumption) rfl rfl (by repeat (first | exact Pick.here | apply Pick.there)) (by rfl) (by rfl) (by exact kvc_cells _ _) ?_; intro w1 hR)
    | (go_at_call 41; refine (H41.out _).mono ?_; rintro e w1 ⟨rfl, hb1⟩; have hR := Rws.call (by assumption) hb1)
    | (go_at_call 21; refine (H21.out _).mono ?_; rintro e w1 ⟨rfl, hb1⟩; have hR := Rws.call (by assumption) hb1))
  go_upto_region 3 with (first
    | (refine wK_alloc rfl (by rfl) (by assumption) ?_; intro g2 w1 hR)
    | (refine wK_load rfl (by rfl) (by assumption) rfl (by repeat (first | exact pzH | refine pzM ?_)) rfl ?_)
    | (refine wK_store rfl (by rfl) (by assumption) rfl rfl (by repeat (first | exact Pick.here | apply Pick.there)) (by rfl) (by rfl) (by exact kvc_cells _ _) ?_; intro w1 hR)
    | (go_at_call 17; refine (HT2.out _).mono ?_; rintro e w1 ⟨rfl, hb1⟩; have hR := Rws.call (by assumption) hb1))
  go_upto_region 4 with (first
    | (refine wK_alloc rfl (by rfl) (by assumption) ?_; intro g3 w1 hR)
    | (refine wK_load rfl (by rfl) (by assumption) rfl (by repeat (first | exact pzH | refine pzM ?_)) rfl ?_)
    | (refine wK_store rfl (by rfl) (by assumption) rfl rfl (by repeat (first | exact Pick.here | apply Pick.there)) (by rfl) (by rfl) (by exact kvc_cells _ _) ?_; intro w1 hR)
    | (go_at_call 17; refine (HTN.out _).mono ?_; rintro e w1 ⟨rfl, hb1⟩; have hR := Rws.call (by assumption) hb1))
  go_upto_region 5 with (first
    | (refine wK_alloc rfl (by rfl) (by assumption) ?_; intro g4 w1 hR)
    | (refine wK_load rfl (by rfl) (by assumption) rfl (by repeat (first | exact pzH | refine pzM ?_)) rfl ?_)
    | (refine wB_build (xs := []) (cs := zkey) rfl (by rfl) (by exact built_key0) ?_)
    | (refine wK_store rfl (by rfl) (by assumption) rfl rfl (by repeat (first | exact Pick.here | apply Pick.there)) (by rfl) (by rfl) (by exact kvc_cells _ _) ?_; intro w1 hR)
    | (go_at_call 12; refine (HS.out _).mono ?_; rintro e w1 ⟨rfl, hb1⟩; have hR := Rws.call (by assumption) hb1))
  go_cut [10] (fun s10 wx => s10 = .int .i64 51 ∧ Rws w.heap.size w wx [(g4, kvc bx b_y, 23), (g3, zkey, 23), (g2, kvc tx t_y, 23), (g1, kvc bx b_y, 23)])
  case first =>
    have hin := List.Mem.tail (g4, kvc bx b_y, 23) (List.Mem.tail (g3, zkey, 23) (List.Mem.tail (g2, kvc tx t_y, 23) (List.Mem.head [] (a := (g1, kvc bx b_y, 23)))))
    have c0 : w1.cell? ⟨g1, 0, none⟩ = some (.string bx) := cell_of_row w1 _ 0 _ _ _ (hR.row _ hin).2
    have c1 : w1.cell? ⟨g1, 1, none⟩ = some (.string b_y) := cell_of_row w1 _ 1 _ _ _ (hR.row _ hin).2
    have hlt : g1 < w1.heap.size := hR.lt hin
    have hlt2 : ∀ X, g1 < (w1.alloc X).heap.size := fun X => by simp; omega
    have hmk := run_make33
    have kcA : (convert 50 9 (.slice (some ⟨w1.heap.size, 0, none⟩) 33 33)).run Tryz.prog (w1.alloc (.cells z33 5)).drew = .ok (.string (zs 33)) (w1.alloc (.cells z33 5)).drew := run_string33 _ _ (heap_alloc_new w1 _)
    have kcB : ∀ X : Obj, (convert 50 9 (.slice (some ⟨w1.heap.size, 0, none⟩) 33 33)).run Tryz.prog ((w1.alloc (.cells z33 5)).alloc X).drew = .ok (.string (zs 33)) ((w1.alloc (.cells z33 5)).alloc X).drew := fun X => run_string33 _ _ (heap_alloc2_old w1 _ _)
    have kcC : ∀ X : Obj, (convert 50 9 (.slice (some ⟨w1.heap.size + 1, 0, none⟩) 33 33)).run Tryz.prog ((w1.alloc X).alloc (.cells z33 5)).drew = .ok (.string (zs 33)) ((w1.alloc X).alloc (.cells z33 5)).drew := fun X => run_string33 _ _ (heap_alloc2_new w1 _ _)
    have c0a : ∀ X, (w1.alloc X).drew.cell? ⟨g1, 0, none⟩ = some (.string bx) := fun X => (World.cell?_alloc_lt w1 X _ hlt).trans c0
    have c1a : ∀ X, (w1.alloc X).drew.cell? ⟨g1, 1, none⟩ = some (.string b_y) := fun X => (World.cell?_alloc_lt w1 X _ hlt).trans c1
    have c0b : ∀ X Y, ((w1.alloc X).alloc Y).drew.cell? ⟨g1, 0, none⟩ = some (.string bx) := fun X Y => (World.cell?_alloc_lt _ Y _ (hlt2 X)).trans (c0a X)
    have c1b : ∀ X Y, ((w1.alloc X).alloc Y).drew.cell? ⟨g1, 1, none⟩ = some (.string b_y) := fun X Y => (World.cell?_alloc_lt _ Y _ (hlt2 X)).trans (c1a X)
    clear hlt hlt2 hin
    go_region_with (go_at_call 17; refine (H33.out _).mono ?_; rintro e w2 ⟨rfl, hb2⟩; first
      | (refine Exists.elim (store_keyN (Rws.call (hR.alloc0 z33o).drew hb2)) ?_; rintro w3 ⟨hst, hR3⟩)
      | (refine Exists.elim (store_key0 (Rws.call (((hR.alloc0 z33o).alloc' (g := w1.heap.size + 1) (by simp [z33o]) zkey 23).drew) hb2)) ?_; rintro w3 ⟨hst, hR3⟩)
      | (refine Exists.elim (store_key0 (Rws.call (((hR.alloc zkey 23).alloc0 z33o).drew) hb2)) ?_; rintro w3 ⟨hst, hR3⟩))
    all_goals
      go_wp2_with fail
      go_meet
      exact ⟨rfl, hR3⟩
  case rest =>
    obtain ⟨rfl, hR5⟩ := hcut
    clear hR
    go_upto_region 7 with (first
      | (refine wK_alloc rfl (by rfl) (by assumption) ?_; intro g6 w1 hR)
      | (refine wK_load rfl (by rfl) (by assumption) rfl (by repeat (first | exact pzH | refine pzM ?_)) rfl ?_)
      | (refine wB_build (xs := [(0, .const (.string ⟨#[120]⟩))]) (cs := kvc ⟨#[120]⟩ ⟨#[]⟩) rfl (by rfl) (by kernel_rfl) ?_)
      | (refine wK_store rfl (by rfl) (by assumption) rfl rfl (by repeat (first | exact Pick.here | apply Pick.there)) (by rfl) (by rfl) (by exact kvc_cells _ _) ?_; intro w1 hR)
      | (go_at_call 12; refine (HX.out _).mono ?_; rintro e w1 ⟨rfl, hb1⟩; have hR := Rws.call (by assumption) hb1))
    have i1 := List.Mem.tail (g6, zkey, 23) (List.Mem.tail (g4, kvc bx b_y, 23) (List.Mem.tail (g3, zkey, 23) (List.Mem.tail (g2, kvc tx t_y, 23) (List.Mem.head [] (a := (g1, kvc bx b_y, 23))))))
    have i2 := List.Mem.tail (g6, zkey, 23) (List.Mem.tail (g4, kvc bx b_y, 23) (List.Mem.tail (g3, zkey, 23) (List.Mem.head [(g1, kvc bx b_y, 23)] (a := (g2, kvc tx t_y, 23)))))
    have i3 := List.Mem.tail (g6, zkey, 23) (List.Mem.tail (g4, kvc bx b_y, 23) (List.Mem.head [(g2, kvc tx t_y, 23), (g1, kvc bx b_y, 23)] (a := (g3, zkey, 23))))
    have i4 := List.Mem.tail (g6, zkey, 23) (List.Mem.head [(g3, zkey, 23), (g2, kvc tx t_y, 23), (g1, kvc bx b_y, 23)] (a := (g4, kvc bx b_y, 23)))
    have c10 : w1.cell? ⟨g1, 0, none⟩ = some (.string bx) := cell_of_row w1 _ 0 _ _ _ (hR.row _ i1).2
    have c11 : w1.cell? ⟨g1, 1, none⟩ = some (.string b_y) := cell_of_row w1 _ 1 _ _ _ (hR.row _ i1).2
    have c20 : w1.cell? ⟨g2, 0, none⟩ = some (.string tx) := cell_of_row w1 _ 0 _ _ _ (hR.row _ i2).2
    have c30 : w1.cell? ⟨g3, 0, none⟩ = some (.string ⟨#[]⟩) := cell_of_row w1 _ 0 _ _ _ (hR.row _ i3).2
    have c31 : w1.cell? ⟨g3, 1, none⟩ = some (.string ⟨#[]⟩) := cell_of_row w1 _ 1 _ _ _ (hR.row _ i3).2
    have c40 : w1.cell? ⟨g4, 0, none⟩ = some (.string bx) := cell_of_row w1 _ 0 _ _ _ (hR.row _ i4).2
    have c41 : w1.cell? ⟨g4, 1, none⟩ = some (.string b_y) := cell_of_row w1 _ 1 _ _ _ (hR.row _ i4).2
    clear i2 i3 i4
    go_wp2_with fail
    refine (HC.out _).mono ?_
    rintro e w2 ⟨rfl, hb2⟩
    have hR2 := hR.call hb2
    clear c10 c11 c20 c30 c31 c40 c41 hR
    have c10 : w2.cell? ⟨g1, 0, none⟩ = some (.string bx) := cell_of_row w2 _ 0 _ _ _ (hR2.row _ i1).2
    have c11 : w2.cell? ⟨g1, 1, none⟩ = some (.string b_y) := cell_of_row w2 _ 1 _ _ _ (hR2.row _ i1).2
    go_wp2_with fail
    refine (HC0.out _).mono ?_
    rintro e w3 ⟨rfl, hb3⟩
    have hR3 := hR2.call hb3
    clear c10 c11 hR2
    have c10 : w3.cell? ⟨g1, 0, none⟩ = some (.string bx) := cell_of_row w3 _ 0 _ _ _ (hR3.row _ i1).2
    have c11 : w3.cell? ⟨g1, 1, none⟩ = some (.string b_y) := cell_of_row w3 _ 1 _ _ _ (hR3.row _ i1).2
    go_wp2_with fail
    refine (HV.out _).mono ?_
    rintro e w4 ⟨rfl, hb4⟩
    have hR4 := hR3.call hb4
    clear c10 c11 hR3
    go_wp2_with fail
    go_ret
    exact ⟨rfl, hR4.below⟩
theorem toL {a : ByteArray} {l : List UInt8} (h : a.data.toList = l) : a.toList = l := (by exact Go.ByteArray.toList_eq a : a.toList = a.data.toList).trans h
theorem checkR_G : checkR ⟨tgx.toArray⟩ ⟨tgy.toArray⟩ = 0 := by
  unfold checkR; rw [in_G]; rfl
theorem fixed_any (w : World) : Calls Tryz.prog 14 #[] w fun e w' => e = .returned (.bool true) ∧ Below w.heap.size w w' := by
  have hcG := checkR_G
  have iG := in_G
  have i0 : inK ⟨#[]⟩ ⟨#[]⟩ = some .inf := if_pos ⟨rfl, rfl⟩
  have ix : inK ⟨#[120]⟩ ⟨#[]⟩ = none := by
    unfold inK
    rw [if_neg (fun h => absurd h.1 (by decide)), if_neg (fun h => absurd h.1 (by decide))]
  have n2 : nv ⟨#[2]⟩ = 2 := rfl
  have t2 : timesR ⟨#[2]⟩ ⟨tgx.toArray⟩ ⟨tgy.toArray⟩ = ((⟨t2x.toArray⟩, ⟨t2y.toArray⟩), 0) := by
    unfold timesR
    rw [if_neg (by decide), iG, n2]
    show (outK (Ec.mulN Ec.G 2), 0) = _
    rw [Ec.G2, out_2G]
  have nn : nv ⟨tn.toArray⟩ = Ec.N := by rw [← out_N]; exact nv_pb (by decide)
  have tN : timesR ⟨tn.toArray⟩ ⟨tgx.toArray⟩ ⟨tgy.toArray⟩ = ((⟨#[]⟩, ⟨#[]⟩), 0) := by
    unfold timesR
    rw [if_neg (by decide), iG, nn]
    show (outK (Ec.mulN Ec.G Ec.N), 0) = _
    rw [Ec.NG]; rfl
  have aS : addR ⟨tgx.toArray⟩ ⟨tgy.toArray⟩ ⟨#[]⟩ ⟨#[]⟩ = ((⟨tgx.toArray⟩, ⟨tgy.toArray⟩), 0) := by
    unfold addR
    rw [iG, i0]
    show (outK (Ec.addA Ec.G .inf), 0) = _
    rw [add_far, out_G]
  have t33 : timesR (zs 33) ⟨tgx.toArray⟩ ⟨tgy.toArray⟩ = ((⟨#[]⟩, ⟨#[]⟩), 51) := by
    unfold timesR
    rw [if_pos (by rw [zs_size]; omega)]
  have aX : addR ⟨tgx.toArray⟩ ⟨tgy.toArray⟩ ⟨#[120]⟩ ⟨#[]⟩ = ((⟨#[]⟩, ⟨#[]⟩), 50) := by
    unfold addR
    rw [iG, ix]
  have c0 : checkR ⟨#[]⟩ ⟨#[]⟩ = 50 := by unfold checkR; rw [i0]
  refine fixed_core ⟨tgx.toArray⟩ ⟨tgy.toArray⟩ ⟨t2x.toArray⟩ ⟨t2y.toArray⟩ ⟨tn.toArray⟩ w ?_ ?_ ?_ ?_ ?_ ?_ ?_ ?_ ?_ ?_ rfl rfl rfl (toL rfl) (toL rfl) (toL rfl) (toL rfl)
  · intro w; have h := base_any w; rw [out_G] at h; exact h
  · intro w; have h := order_any w; rw [out_N] at h; exact h
  · intro w; have h := ecTimes_any ⟨#[2]⟩ ⟨tgx.toArray⟩ ⟨tgy.toArray⟩ w; rw [t2] at h; exact h
  · intro w; have h := ecTimes_any ⟨tn.toArray⟩ ⟨tgx.toArray⟩ ⟨tgy.toArray⟩ w; rw [tN] at h; exact h
  · intro w; have h := ecAdd_any ⟨tgx.toArray⟩ ⟨tgy.toArray⟩ ⟨#[]⟩ ⟨#[]⟩ w; rw [aS] at h; exact h
  · intro w; have h := ecTimes_any (zs 33) ⟨tgx.toArray⟩ ⟨tgy.toArray⟩ w; rw [t33] at h; exact h
  · intro w; have h := ecAdd_any ⟨tgx.toArray⟩ ⟨tgy.toArray⟩ ⟨#[120]⟩ ⟨#[]⟩ w; rw [aX] at h; exact h
  · intro w; have h := Check_any ⟨tgx.toArray⟩ ⟨tgy.toArray⟩ w; rw [hcG] at h; exact h
  · intro w; have h := Check_any ⟨#[]⟩ ⟨#[]⟩ w; rw [c0] at h; exact h
  · intro w; exact Verify_len ⟨tgx.toArray⟩ ⟨tgy.toArray⟩ ⟨#[]⟩ ⟨#[]⟩ w (by decide)
end Go.Proofs.YtaggpodckafbgaaGreatDoor
