/- EcdsaSigns: its ways, by the contracts of what it calls. -/
import Derived.Test.YtaggpodckafbgaaGreatDoorZETwins
namespace Go.Proofs.YtaggpodckafbgaaGreatDoor
open Go.RowKit

/-- 32 bytes 0, as 'make' lays them. -/
def z32 : Array Value := madeCells #[.int .u8 0] 32
set_option maxRecDepth 100000 in
theorem run_make32 (u : World) : (Instr.makeSlice 50 (.int .i64 32) (.int .i64 32)).run Tryz.prog u = .ok (.slice (some ⟨u.heap.size, 0, none⟩) 32 32) (u.alloc (.cells z32 5)) := by
  obtain ⟨i0, hi, hz0, hz1, hz2⟩ := info_parts info8
  have h := run_make (P := Tryz.prog) u 50 5 i0 (.int .u8 0) Tryz.underlying50 hi hz0 .i64 .i64 32 32 (by omega) (Int.le_refl _) (by rw [hz2]; omega) (by omega)
  simpa [hz1, Value.cells, z32] using h
set_option maxRecDepth 100000 in
theorem run_string32 (u : World) : (convert 50 9 (.slice (some ⟨u.heap.size, 0, none⟩) 32 32)).run Tryz.prog (u.alloc (.cells z32 5)) = .ok (.string (zs 32)) (u.alloc (.cells z32 5)) := by
  refine run_string_zeros (g := u.heap.size) (n := 32) ⟨z32, heap_alloc_new u _, ?_, by omega, fun j hj => ?_⟩
  · simp [z32, madeCells]
  · rw [← Array.getElem?_toList, z32, toList_madeCells_one, List.getElem?_replicate, if_pos hj]; rfl

set_option maxRecDepth 100000 in
set_option maxHeartbeats 6400000 in
theorem signs_long1 (d k s : ByteArray) (w : World) (hl : ¬ (d.size : Int) ≤ 100)
    (h0 : ∀ w : World, Calls Tryz.prog 14 #[] w fun e w' => e = .returned (.bool true) ∧ Below w.heap.size w w') :
    Calls Tryz.prog 10 #[.string d, .string k, .string s] w fun e w' => e = .returned (.bool true) ∧ Below w.heap.size w w' := by
  have H0 := Lib.hid h0
  clear h0
  have hR0 := Rws.start w
  go_enter Tryz.func10, Tryz.ntmps10
  go_wp2_with fail
  refine (H0.out _).mono ?_
  rintro e w1 ⟨rfl, hb1⟩
  have hR := Rws.call hR0 hb1
  clear hb1
  go_wp2_with fail
  go_ret
  exact ⟨rfl, Rws.below (by assumption)⟩

set_option maxRecDepth 100000 in
set_option maxHeartbeats 6400000 in
theorem signs_long2 (d k s : ByteArray) (w : World) (hd : (d.size : Int) ≤ 100) (hl : ¬ (k.size : Int) ≤ 100)
    (h0 : ∀ w : World, Calls Tryz.prog 14 #[] w fun e w' => e = .returned (.bool true) ∧ Below w.heap.size w w') :
    Calls Tryz.prog 10 #[.string d, .string k, .string s] w fun e w' => e = .returned (.bool true) ∧ Below w.heap.size w w' := by
  have H0 := Lib.hid h0
  clear h0
  have hR0 := Rws.start w
  go_enter Tryz.func10, Tryz.ntmps10
  go_wp2_with fail
  refine (H0.out _).mono ?_
  rintro e w1 ⟨rfl, hb1⟩
  have hR := Rws.call hR0 hb1
  clear hb1
  go_wp2_with fail
  go_ret
  exact ⟨rfl, Rws.below (by assumption)⟩

set_option maxRecDepth 100000 in
set_option maxHeartbeats 6400000 in
theorem signs_d0 (d k s n qd ld qk lk : ByteArray) (w : World) (hd : (d.size : Int) ≤ 100) (hk : (k.size : Int) ≤ 100) (hz : ld.toList = [])
    (h0 : ∀ w : World, Calls Tryz.prog 14 #[] w fun e w' => e = .returned (.bool true) ∧ Below w.heap.size w w')
    (h1 : ∀ w : World, Calls Tryz.prog 21 #[] w fun e w' => e = .returned (.string n) ∧ Below w.heap.size w w')
    (h2 : ∀ w : World, Calls Tryz.prog 25 #[.string d, .string n] w fun e w' => e = .returned (.tuple #[.string qd, .string ld, .int .i64 0]) ∧ Below w.heap.size w w')
    (h3 : ∀ w : World, Calls Tryz.prog 25 #[.string k, .string n] w fun e w' => e = .returned (.tuple #[.string qk, .string lk, .int .i64 0]) ∧ Below w.heap.size w w') :
    Calls Tryz.prog 10 #[.string d, .string k, .string s] w fun e w' => e = .returned (.bool true) ∧ Below w.heap.size w w' := by
  have H0 := Lib.hid h0; have H1 := Lib.hid h1; have H2 := Lib.hid h2; have H3 := Lib.hid h3
  clear h0 h1 h2 h3
  have hR0 := Rws.start w
  go_enter Tryz.func10, Tryz.ntmps10
  go_wp2_with fail
  refine (H0.out _).mono ?_
  rintro e w1 ⟨rfl, hb1⟩
  have hR := Rws.call hR0 hb1
  clear hb1
  go_wp2_with (first | (refine wK_box rfl (by rfl) (by assumption) rfl ?_; intro gk w1 hR) | (refine wK_alloc rfl (by rfl) (by assumption) ?_; intro g0 w1 hR) | (refine wK_load rfl (by rfl) (by assumption) rfl (by repeat (first | exact List.Mem.head _ | refine List.Mem.tail _ ?_)) rfl ?_) | (refine wK_store rfl (by rfl) (by assumption) rfl rfl (by repeat (first | exact Pick.here | apply Pick.there)) (by rfl) (by rfl) (by exact kvc_cells _ _) ?_; intro w1 hR))
  refine (H1.out _).mono ?_
  rintro e w1 ⟨rfl, hb1⟩
  have hR := Rws.call (by assumption) hb1
  clear hb1
  go_wp2_with (first | (refine wK_box rfl (by rfl) (by assumption) rfl ?_; intro gk w1 hR) | (refine wK_alloc rfl (by rfl) (by assumption) ?_; intro g0 w1 hR) | (refine wK_load rfl (by rfl) (by assumption) rfl (by repeat (first | exact List.Mem.head _ | refine List.Mem.tail _ ?_)) rfl ?_) | (refine wK_store rfl (by rfl) (by assumption) rfl rfl (by repeat (first | exact Pick.here | apply Pick.there)) (by rfl) (by rfl) (by exact kvc_cells _ _) ?_; intro w1 hR))
  refine (H2.out _).mono ?_
  rintro e w1 ⟨rfl, hb1⟩
  have hR := Rws.call (by assumption) hb1
  clear hb1
  go_wp2_with (first | (refine wK_box rfl (by rfl) (by assumption) rfl ?_; intro gk w1 hR) | (refine wK_alloc rfl (by rfl) (by assumption) ?_; intro g0 w1 hR) | (refine wK_load rfl (by rfl) (by assumption) rfl (by repeat (first | exact List.Mem.head _ | refine List.Mem.tail _ ?_)) rfl ?_) | (refine wK_store rfl (by rfl) (by assumption) rfl rfl (by repeat (first | exact Pick.here | apply Pick.there)) (by rfl) (by rfl) (by exact kvc_cells _ _) ?_; intro w1 hR))
  refine (H3.out _).mono ?_
  rintro e w1 ⟨rfl, hb1⟩
  have hR := Rws.call (by assumption) hb1
  clear hb1
  go_wp2_with fail
  go_ret
  exact ⟨rfl, Rws.below (by assumption)⟩

set_option maxRecDepth 100000 in
set_option maxHeartbeats 6400000 in
theorem signs_k0 (d k s n qd ld qk lk : ByteArray) (w : World) (hd : (d.size : Int) ≤ 100) (hk : (k.size : Int) ≤ 100) (hz0 : ld.toList.isEmpty = false) (hz : lk.toList = [])
    (h0 : ∀ w : World, Calls Tryz.prog 14 #[] w fun e w' => e = .returned (.bool true) ∧ Below w.heap.size w w')
    (h1 : ∀ w : World, Calls Tryz.prog 21 #[] w fun e w' => e = .returned (.string n) ∧ Below w.heap.size w w')
    (h2 : ∀ w : World, Calls Tryz.prog 25 #[.string d, .string n] w fun e w' => e = .returned (.tuple #[.string qd, .string ld, .int .i64 0]) ∧ Below w.heap.size w w')
    (h3 : ∀ w : World, Calls Tryz.prog 25 #[.string k, .string n] w fun e w' => e = .returned (.tuple #[.string qk, .string lk, .int .i64 0]) ∧ Below w.heap.size w w') :
    Calls Tryz.prog 10 #[.string d, .string k, .string s] w fun e w' => e = .returned (.bool true) ∧ Below w.heap.size w w' := by
  have H0 := Lib.hid h0; have H1 := Lib.hid h1; have H2 := Lib.hid h2; have H3 := Lib.hid h3
  clear h0 h1 h2 h3
  have hR0 := Rws.start w
  go_enter Tryz.func10, Tryz.ntmps10
  go_wp2_with fail
  refine (H0.out _).mono ?_
  rintro e w1 ⟨rfl, hb1⟩
  have hR := Rws.call hR0 hb1
  clear hb1
  go_wp2_with (first | (refine wK_box rfl (by rfl) (by assumption) rfl ?_; intro gk w1 hR) | (refine wK_alloc rfl (by rfl) (by assumption) ?_; intro g0 w1 hR) | (refine wK_load rfl (by rfl) (by assumption) rfl (by repeat (first | exact List.Mem.head _ | refine List.Mem.tail _ ?_)) rfl ?_) | (refine wK_store rfl (by rfl) (by assumption) rfl rfl (by repeat (first | exact Pick.here | apply Pick.there)) (by rfl) (by rfl) (by exact kvc_cells _ _) ?_; intro w1 hR))
  refine (H1.out _).mono ?_
  rintro e w1 ⟨rfl, hb1⟩
  have hR := Rws.call (by assumption) hb1
  clear hb1
  go_wp2_with (first | (refine wK_box rfl (by rfl) (by assumption) rfl ?_; intro gk w1 hR) | (refine wK_alloc rfl (by rfl) (by assumption) ?_; intro g0 w1 hR) | (refine wK_load rfl (by rfl) (by assumption) rfl (by repeat (first | exact List.Mem.head _ | refine List.Mem.tail _ ?_)) rfl ?_) | (refine wK_store rfl (by rfl) (by assumption) rfl rfl (by repeat (first | exact Pick.here | apply Pick.there)) (by rfl) (by rfl) (by exact kvc_cells _ _) ?_; intro w1 hR))
  refine (H2.out _).mono ?_
  rintro e w1 ⟨rfl, hb1⟩
  have hR := Rws.call (by assumption) hb1
  clear hb1
  go_wp2_with (first | (refine wK_box rfl (by rfl) (by assumption) rfl ?_; intro gk w1 hR) | (refine wK_alloc rfl (by rfl) (by assumption) ?_; intro g0 w1 hR) | (refine wK_load rfl (by rfl) (by assumption) rfl (by repeat (first | exact List.Mem.head _ | refine List.Mem.tail _ ?_)) rfl ?_) | (refine wK_store rfl (by rfl) (by assumption) rfl rfl (by repeat (first | exact Pick.here | apply Pick.there)) (by rfl) (by rfl) (by exact kvc_cells _ _) ?_; intro w1 hR))
  refine (H3.out _).mono ?_
  rintro e w1 ⟨rfl, hb1⟩
  have hR := Rws.call (by assumption) hb1
  clear hb1
  go_wp2_with fail
  go_ret
  exact ⟨rfl, Rws.below (by assumption)⟩

set_option maxRecDepth 100000 in
set_option maxHeartbeats 6400000 in
theorem signs_r0 (d k s n qd ld qk lk kx ky px p_y qr r rd h sm i ti qt t : ByteArray) (w : World) (hd : (d.size : Int) ≤ 100) (hk : (k.size : Int) ≤ 100) (hz0 : ld.toList.isEmpty = false) (hz1 : lk.toList.isEmpty = false) (hz : r.toList = [])
    (h0 : ∀ w : World, Calls Tryz.prog 14 #[] w fun e w' => e = .returned (.bool true) ∧ Below w.heap.size w w')
    (h1 : ∀ w : World, Calls Tryz.prog 21 #[] w fun e w' => e = .returned (.string n) ∧ Below w.heap.size w w')
    (h2 : ∀ w : World, Calls Tryz.prog 25 #[.string d, .string n] w fun e w' => e = .returned (.tuple #[.string qd, .string ld, .int .i64 0]) ∧ Below w.heap.size w w')
    (h3 : ∀ w : World, Calls Tryz.prog 25 #[.string k, .string n] w fun e w' => e = .returned (.tuple #[.string qk, .string lk, .int .i64 0]) ∧ Below w.heap.size w w')
    (h4 : ∀ w : World, Calls Tryz.prog 28 #[.string ld] w fun e w' => e = .returned (.tuple #[.agg (kvc kx ky), .bool true]) ∧ Below w.heap.size w w')
    (h5 : ∀ w : World, Calls Tryz.prog 28 #[.string lk] w fun e w' => e = .returned (.tuple #[.agg (kvc px p_y), .bool true]) ∧ Below w.heap.size w w')
    (h6 : ∀ w : World, Calls Tryz.prog 25 #[.string px, .string n] w fun e w' => e = .returned (.tuple #[.string qr, .string r, .int .i64 0]) ∧ Below w.heap.size w w')
    (h7 : ∀ w : World, Calls Tryz.prog 27 #[.string r, .string ld] w fun e w' => e = .returned (.tuple #[.string rd, .int .i64 0]) ∧ Below w.heap.size w w')
    (h8 : ∀ w : World, Calls Tryz.prog 29 #[.string s] w fun e w' => e = .returned (.string h) ∧ Below w.heap.size w w')
    (h9 : ∀ w : World, Calls Tryz.prog 26 #[.string h, .string rd] w fun e w' => e = .returned (.tuple #[.string sm, .int .i64 0]) ∧ Below w.heap.size w w')
    (h10 : ∀ w : World, Calls Tryz.prog 30 #[.string lk, .string n] w fun e w' => e = .returned (.tuple #[.string i, .int .i64 0]) ∧ Below w.heap.size w w')
    (h11 : ∀ w : World, Calls Tryz.prog 27 #[.string sm, .string i] w fun e w' => e = .returned (.tuple #[.string ti, .int .i64 0]) ∧ Below w.heap.size w w')
    (h12 : ∀ w : World, Calls Tryz.prog 25 #[.string ti, .string n] w fun e w' => e = .returned (.tuple #[.string qt, .string t, .int .i64 0]) ∧ Below w.heap.size w w')
    (h13 : ∀ w : World, Calls Tryz.prog 11 #[.agg (kvc kx ky)] w fun e w' => e = .returned (.int .i64 0) ∧ Below w.heap.size w w') :
    Calls Tryz.prog 10 #[.string d, .string k, .string s] w fun e w' => e = .returned (.bool true) ∧ Below w.heap.size w w' := by
  have H0 := Lib.hid h0; have H1 := Lib.hid h1; have H2 := Lib.hid h2; have H3 := Lib.hid h3; have H4 := Lib.hid h4; have H5 := Lib.hid h5; have H6 := Lib.hid h6; have H7 := Lib.hid h7; have H8 := Lib.hid h8; have H9 := Lib.hid h9; have H10 := Lib.hid h10; have H11 := Lib.hid h11; have H12 := Lib.hid h12; have H13 := Lib.hid h13
  clear h0 h1 h2 h3 h4 h5 h6 h7 h8 h9 h10 h11 h12 h13
  have hR0 := Rws.start w
  go_enter Tryz.func10, Tryz.ntmps10
  go_wp2_with fail
  refine (H0.out _).mono ?_
  rintro e w1 ⟨rfl, hb1⟩
  have hR := Rws.call hR0 hb1
  clear hb1
  go_wp2_with (first | (refine wK_box rfl (by rfl) (by assumption) rfl ?_; intro gk w1 hR) | (refine wK_alloc rfl (by rfl) (by assumption) ?_; intro g0 w1 hR) | (refine wK_load rfl (by rfl) (by assumption) rfl (by repeat (first | exact List.Mem.head _ | refine List.Mem.tail _ ?_)) rfl ?_) | (refine wK_store rfl (by rfl) (by assumption) rfl rfl (by repeat (first | exact Pick.here | apply Pick.there)) (by rfl) (by rfl) (by exact kvc_cells _ _) ?_; intro w1 hR))
  refine (H1.out _).mono ?_
  rintro e w1 ⟨rfl, hb1⟩
  have hR := Rws.call (by assumption) hb1
  clear hb1
  go_wp2_with (first | (refine wK_box rfl (by rfl) (by assumption) rfl ?_; intro gk w1 hR) | (refine wK_alloc rfl (by rfl) (by assumption) ?_; intro g0 w1 hR) | (refine wK_load rfl (by rfl) (by assumption) rfl (by repeat (first | exact List.Mem.head _ | refine List.Mem.tail _ ?_)) rfl ?_) | (refine wK_store rfl (by rfl) (by assumption) rfl rfl (by repeat (first | exact Pick.here | apply Pick.there)) (by rfl) (by rfl) (by exact kvc_cells _ _) ?_; intro w1 hR))
  refine (H2.out _).mono ?_
  rintro e w1 ⟨rfl, hb1⟩
  have hR := Rws.call (by assumption) hb1
  clear hb1
  go_wp2_with (first | (refine wK_box rfl (by rfl) (by assumption) rfl ?_; intro gk w1 hR) | (refine wK_alloc rfl (by rfl) (by assumption) ?_; intro g0 w1 hR) | (refine wK_load rfl (by rfl) (by assumption) rfl (by repeat (first | exact List.Mem.head _ | refine List.Mem.tail _ ?_)) rfl ?_) | (refine wK_store rfl (by rfl) (by assumption) rfl rfl (by repeat (first | exact Pick.here | apply Pick.there)) (by rfl) (by rfl) (by exact kvc_cells _ _) ?_; intro w1 hR))
  refine (H3.out _).mono ?_
  rintro e w1 ⟨rfl, hb1⟩
  have hR := Rws.call (by assumption) hb1
  clear hb1
  go_wp2_with (first | (refine wK_box rfl (by rfl) (by assumption) rfl ?_; intro gk w1 hR) | (refine wK_alloc rfl (by rfl) (by assumption) ?_; intro g0 w1 hR) | (refine wK_load rfl (by rfl) (by assumption) rfl (by repeat (first | exact List.Mem.head _ | refine List.Mem.tail _ ?_)) rfl ?_) | (refine wK_store rfl (by rfl) (by assumption) rfl rfl (by repeat (first | exact Pick.here | apply Pick.there)) (by rfl) (by rfl) (by exact kvc_cells _ _) ?_; intro w1 hR))
  refine (H4.out _).mono ?_
  rintro e w1 ⟨rfl, hb1⟩
  have hR := Rws.call (by assumption) hb1
  clear hb1
  go_wp2_with (first | (refine wK_box rfl (by rfl) (by assumption) rfl ?_; intro gk w1 hR) | (refine wK_alloc rfl (by rfl) (by assumption) ?_; intro ga w1 hR) | (refine wK_load rfl (by rfl) (by assumption) rfl (by repeat (first | exact List.Mem.head _ | refine List.Mem.tail _ ?_)) rfl ?_) | (refine wK_store rfl (by rfl) (by assumption) rfl rfl (by repeat (first | exact Pick.here | apply Pick.there)) (by rfl) (by rfl) (by exact kvc_cells _ _) ?_; intro w1 hR))
  refine (H5.out _).mono ?_
  rintro e w1 ⟨rfl, hb1⟩
  have hR := Rws.call (by assumption) hb1
  clear hb1
  go_upto_region 14 with (first | (refine wK_box rfl (by rfl) (by assumption) rfl ?_; intro gk w1 hR) | (refine wK_alloc rfl (by rfl) (by assumption) ?_; intro gb w1 hR) | (refine wK_load rfl (by rfl) (by assumption) rfl (by repeat (first | exact List.Mem.head _ | refine List.Mem.tail _ ?_)) rfl ?_) | (refine wK_store rfl (by rfl) (by assumption) rfl rfl (by repeat (first | exact Pick.here | apply Pick.there)) (by rfl) (by rfl) (by exact kvc_cells _ _) ?_; intro w1 hR))
  have c0 : w1.cell? ⟨gb, 0, none⟩ = some (.string px) := cell_of_row w1 gb 0 _ _ _ (hR.row (gb, kvc px p_y, 23) (by repeat (first | exact List.Mem.head _ | refine List.Mem.tail _ ?_))).2
  go_wp2_with (first | (refine wK_box rfl (by rfl) (by assumption) rfl ?_; intro gk w1 hR) | (refine wK_alloc rfl (by rfl) (by assumption) ?_; intro g0 w1 hR) | (refine wK_load rfl (by rfl) (by assumption) rfl (by repeat (first | exact List.Mem.head _ | refine List.Mem.tail _ ?_)) rfl ?_) | (refine wK_store rfl (by rfl) (by assumption) rfl rfl (by repeat (first | exact Pick.here | apply Pick.there)) (by rfl) (by rfl) (by exact kvc_cells _ _) ?_; intro w1 hR))
  refine (H6.out _).mono ?_
  rintro e w1 ⟨rfl, hb1⟩
  have hR := Rws.call (by assumption) hb1
  clear hb1 c0
  go_wp2_with (first | (refine wK_box rfl (by rfl) (by assumption) rfl ?_; intro gk w1 hR) | (refine wK_alloc rfl (by rfl) (by assumption) ?_; intro g0 w1 hR) | (refine wK_load rfl (by rfl) (by assumption) rfl (by repeat (first | exact List.Mem.head _ | refine List.Mem.tail _ ?_)) rfl ?_) | (refine wK_store rfl (by rfl) (by assumption) rfl rfl (by repeat (first | exact Pick.here | apply Pick.there)) (by rfl) (by rfl) (by exact kvc_cells _ _) ?_; intro w1 hR))
  refine (H7.out _).mono ?_
  rintro e w1 ⟨rfl, hb1⟩
  have hR := Rws.call (by assumption) hb1
  clear hb1
  go_wp2_with (first | (refine wK_box rfl (by rfl) (by assumption) rfl ?_; intro gk w1 hR) | (refine wK_alloc rfl (by rfl) (by assumption) ?_; intro g0 w1 hR) | (refine wK_load rfl (by rfl) (by assumption) rfl (by repeat (first | exact List.Mem.head _ | refine List.Mem.tail _ ?_)) rfl ?_) | (refine wK_store rfl (by rfl) (by assumption) rfl rfl (by repeat (first | exact Pick.here | apply Pick.there)) (by rfl) (by rfl) (by exact kvc_cells _ _) ?_; intro w1 hR))
  refine (H8.out _).mono ?_
  rintro e w1 ⟨rfl, hb1⟩
  have hR := Rws.call (by assumption) hb1
  clear hb1
  go_wp2_with (first | (refine wK_box rfl (by rfl) (by assumption) rfl ?_; intro gk w1 hR) | (refine wK_alloc rfl (by rfl) (by assumption) ?_; intro g0 w1 hR) | (refine wK_load rfl (by rfl) (by assumption) rfl (by repeat (first | exact List.Mem.head _ | refine List.Mem.tail _ ?_)) rfl ?_) | (refine wK_store rfl (by rfl) (by assumption) rfl rfl (by repeat (first | exact Pick.here | apply Pick.there)) (by rfl) (by rfl) (by exact kvc_cells _ _) ?_; intro w1 hR))
  refine (H9.out _).mono ?_
  rintro e w1 ⟨rfl, hb1⟩
  have hR := Rws.call (by assumption) hb1
  clear hb1
  go_wp2_with (first | (refine wK_box rfl (by rfl) (by assumption) rfl ?_; intro gk w1 hR) | (refine wK_alloc rfl (by rfl) (by assumption) ?_; intro g0 w1 hR) | (refine wK_load rfl (by rfl) (by assumption) rfl (by repeat (first | exact List.Mem.head _ | refine List.Mem.tail _ ?_)) rfl ?_) | (refine wK_store rfl (by rfl) (by assumption) rfl rfl (by repeat (first | exact Pick.here | apply Pick.there)) (by rfl) (by rfl) (by exact kvc_cells _ _) ?_; intro w1 hR))
  refine (H10.out _).mono ?_
  rintro e w1 ⟨rfl, hb1⟩
  have hR := Rws.call (by assumption) hb1
  clear hb1
  go_wp2_with (first | (refine wK_box rfl (by rfl) (by assumption) rfl ?_; intro gk w1 hR) | (refine wK_alloc rfl (by rfl) (by assumption) ?_; intro g0 w1 hR) | (refine wK_load rfl (by rfl) (by assumption) rfl (by repeat (first | exact List.Mem.head _ | refine List.Mem.tail _ ?_)) rfl ?_) | (refine wK_store rfl (by rfl) (by assumption) rfl rfl (by repeat (first | exact Pick.here | apply Pick.there)) (by rfl) (by rfl) (by exact kvc_cells _ _) ?_; intro w1 hR))
  refine (H11.out _).mono ?_
  rintro e w1 ⟨rfl, hb1⟩
  have hR := Rws.call (by assumption) hb1
  clear hb1
  go_wp2_with (first | (refine wK_box rfl (by rfl) (by assumption) rfl ?_; intro gk w1 hR) | (refine wK_alloc rfl (by rfl) (by assumption) ?_; intro g0 w1 hR) | (refine wK_load rfl (by rfl) (by assumption) rfl (by repeat (first | exact List.Mem.head _ | refine List.Mem.tail _ ?_)) rfl ?_) | (refine wK_store rfl (by rfl) (by assumption) rfl rfl (by repeat (first | exact Pick.here | apply Pick.there)) (by rfl) (by rfl) (by exact kvc_cells _ _) ?_; intro w1 hR))
  refine (H12.out _).mono ?_
  rintro e w1 ⟨rfl, hb1⟩
  have hR := Rws.call (by assumption) hb1
  clear hb1
  have ca : w1.cell? ⟨ga, 0, none⟩ = some (.string kx) := cell_of_row w1 ga 0 _ _ _ (hR.row (ga, kvc kx ky, 23) (by repeat (first | exact List.Mem.head _ | refine List.Mem.tail _ ?_))).2
  have cb : w1.cell? ⟨ga, 1, none⟩ = some (.string ky) := cell_of_row w1 ga 1 _ _ _ (hR.row (ga, kvc kx ky, 23) (by repeat (first | exact List.Mem.head _ | refine List.Mem.tail _ ?_))).2
  go_wp2_with fail
  refine (H13.out _).mono ?_
  rintro e w1 ⟨rfl, hb1⟩
  have hR := Rws.call (by assumption) hb1
  clear hb1 ca cb
  go_wp2_with fail
  go_ret
  exact ⟨rfl, Rws.below (by assumption)⟩

set_option maxRecDepth 100000 in
set_option maxHeartbeats 6400000 in
theorem signs_t0 (d k s n qd ld qk lk kx ky px p_y qr r rd h sm i ti qt t : ByteArray) (w : World) (hd : (d.size : Int) ≤ 100) (hk : (k.size : Int) ≤ 100) (hz0 : ld.toList.isEmpty = false) (hz1 : lk.toList.isEmpty = false) (hz2 : r.toList.isEmpty = false) (hz : t.toList = [])
    (h0 : ∀ w : World, Calls Tryz.prog 14 #[] w fun e w' => e = .returned (.bool true) ∧ Below w.heap.size w w')
    (h1 : ∀ w : World, Calls Tryz.prog 21 #[] w fun e w' => e = .returned (.string n) ∧ Below w.heap.size w w')
    (h2 : ∀ w : World, Calls Tryz.prog 25 #[.string d, .string n] w fun e w' => e = .returned (.tuple #[.string qd, .string ld, .int .i64 0]) ∧ Below w.heap.size w w')
    (h3 : ∀ w : World, Calls Tryz.prog 25 #[.string k, .string n] w fun e w' => e = .returned (.tuple #[.string qk, .string lk, .int .i64 0]) ∧ Below w.heap.size w w')
    (h4 : ∀ w : World, Calls Tryz.prog 28 #[.string ld] w fun e w' => e = .returned (.tuple #[.agg (kvc kx ky), .bool true]) ∧ Below w.heap.size w w')
    (h5 : ∀ w : World, Calls Tryz.prog 28 #[.string lk] w fun e w' => e = .returned (.tuple #[.agg (kvc px p_y), .bool true]) ∧ Below w.heap.size w w')
    (h6 : ∀ w : World, Calls Tryz.prog 25 #[.string px, .string n] w fun e w' => e = .returned (.tuple #[.string qr, .string r, .int .i64 0]) ∧ Below w.heap.size w w')
    (h7 : ∀ w : World, Calls Tryz.prog 27 #[.string r, .string ld] w fun e w' => e = .returned (.tuple #[.string rd, .int .i64 0]) ∧ Below w.heap.size w w')
    (h8 : ∀ w : World, Calls Tryz.prog 29 #[.string s] w fun e w' => e = .returned (.string h) ∧ Below w.heap.size w w')
    (h9 : ∀ w : World, Calls Tryz.prog 26 #[.string h, .string rd] w fun e w' => e = .returned (.tuple #[.string sm, .int .i64 0]) ∧ Below w.heap.size w w')
    (h10 : ∀ w : World, Calls Tryz.prog 30 #[.string lk, .string n] w fun e w' => e = .returned (.tuple #[.string i, .int .i64 0]) ∧ Below w.heap.size w w')
    (h11 : ∀ w : World, Calls Tryz.prog 27 #[.string sm, .string i] w fun e w' => e = .returned (.tuple #[.string ti, .int .i64 0]) ∧ Below w.heap.size w w')
    (h12 : ∀ w : World, Calls Tryz.prog 25 #[.string ti, .string n] w fun e w' => e = .returned (.tuple #[.string qt, .string t, .int .i64 0]) ∧ Below w.heap.size w w')
    (h13 : ∀ w : World, Calls Tryz.prog 11 #[.agg (kvc kx ky)] w fun e w' => e = .returned (.int .i64 0) ∧ Below w.heap.size w w') :
    Calls Tryz.prog 10 #[.string d, .string k, .string s] w fun e w' => e = .returned (.bool true) ∧ Below w.heap.size w w' := by
  have H0 := Lib.hid h0; have H1 := Lib.hid h1; have H2 := Lib.hid h2; have H3 := Lib.hid h3; have H4 := Lib.hid h4; have H5 := Lib.hid h5; have H6 := Lib.hid h6; have H7 := Lib.hid h7; have H8 := Lib.hid h8; have H9 := Lib.hid h9; have H10 := Lib.hid h10; have H11 := Lib.hid h11; have H12 := Lib.hid h12; have H13 := Lib.hid h13
  clear h0 h1 h2 h3 h4 h5 h6 h7 h8 h9 h10 h11 h12 h13
  have hR0 := Rws.start w
  go_enter Tryz.func10, Tryz.ntmps10
  go_wp2_with fail
  refine (H0.out _).mono ?_
  rintro e w1 ⟨rfl, hb1⟩
  have hR := Rws.call hR0 hb1
  clear hb1
  go_wp2_with (first | (refine wK_box rfl (by rfl) (by assumption) rfl ?_; intro gk w1 hR) | (refine wK_alloc rfl (by rfl) (by assumption) ?_; intro g0 w1 hR) | (refine wK_load rfl (by rfl) (by assumption) rfl (by repeat (first | exact List.Mem.head _ | refine List.Mem.tail _ ?_)) rfl ?_) | (refine wK_store rfl (by rfl) (by assumption) rfl rfl (by repeat (first | exact Pick.here | apply Pick.there)) (by rfl) (by rfl) (by exact kvc_cells _ _) ?_; intro w1 hR))
  refine (H1.out _).mono ?_
  rintro e w1 ⟨rfl, hb1⟩
  have hR := Rws.call (by assumption) hb1
  clear hb1
  go_wp2_with (first | (refine wK_box rfl (by rfl) (by assumption) rfl ?_; intro gk w1 hR) | (refine wK_alloc rfl (by rfl) (by assumption) ?_; intro g0 w1 hR) | (refine wK_load rfl (by rfl) (by assumption) rfl (by repeat (first | exact List.Mem.head _ | refine List.Mem.tail _ ?_)) rfl ?_) | (refine wK_store rfl (by rfl) (by assumption) rfl rfl (by repeat (first | exact Pick.here | apply Pick.there)) (by rfl) (by rfl) (by exact kvc_cells _ _) ?_; intro w1 hR))
  refine (H2.out _).mono ?_
  rintro e w1 ⟨rfl, hb1⟩
  have hR := Rws.call (by assumption) hb1
  clear hb1
  go_wp2_with (first | (refine wK_box rfl (by rfl) (by assumption) rfl ?_; intro gk w1 hR) | (refine wK_alloc rfl (by rfl) (by assumption) ?_; intro g0 w1 hR) | (refine wK_load rfl (by rfl) (by assumption) rfl (by repeat (first | exact List.Mem.head _ | refine List.Mem.tail _ ?_)) rfl ?_) | (refine wK_store rfl (by rfl) (by assumption) rfl rfl (by repeat (first | exact Pick.here | apply Pick.there)) (by rfl) (by rfl) (by exact kvc_cells _ _) ?_; intro w1 hR))
  refine (H3.out _).mono ?_
  rintro e w1 ⟨rfl, hb1⟩
  have hR := Rws.call (by assumption) hb1
  clear hb1
  go_wp2_with (first | (refine wK_box rfl (by rfl) (by assumption) rfl ?_; intro gk w1 hR) | (refine wK_alloc rfl (by rfl) (by assumption) ?_; intro g0 w1 hR) | (refine wK_load rfl (by rfl) (by assumption) rfl (by repeat (first | exact List.Mem.head _ | refine List.Mem.tail _ ?_)) rfl ?_) | (refine wK_store rfl (by rfl) (by assumption) rfl rfl (by repeat (first | exact Pick.here | apply Pick.there)) (by rfl) (by rfl) (by exact kvc_cells _ _) ?_; intro w1 hR))
  refine (H4.out _).mono ?_
  rintro e w1 ⟨rfl, hb1⟩
  have hR := Rws.call (by assumption) hb1
  clear hb1
  go_wp2_with (first | (refine wK_box rfl (by rfl) (by assumption) rfl ?_; intro gk w1 hR) | (refine wK_alloc rfl (by rfl) (by assumption) ?_; intro ga w1 hR) | (refine wK_load rfl (by rfl) (by assumption) rfl (by repeat (first | exact List.Mem.head _ | refine List.Mem.tail _ ?_)) rfl ?_) | (refine wK_store rfl (by rfl) (by assumption) rfl rfl (by repeat (first | exact Pick.here | apply Pick.there)) (by rfl) (by rfl) (by exact kvc_cells _ _) ?_; intro w1 hR))
  refine (H5.out _).mono ?_
  rintro e w1 ⟨rfl, hb1⟩
  have hR := Rws.call (by assumption) hb1
  clear hb1
  go_upto_region 14 with (first | (refine wK_box rfl (by rfl) (by assumption) rfl ?_; intro gk w1 hR) | (refine wK_alloc rfl (by rfl) (by assumption) ?_; intro gb w1 hR) | (refine wK_load rfl (by rfl) (by assumption) rfl (by repeat (first | exact List.Mem.head _ | refine List.Mem.tail _ ?_)) rfl ?_) | (refine wK_store rfl (by rfl) (by assumption) rfl rfl (by repeat (first | exact Pick.here | apply Pick.there)) (by rfl) (by rfl) (by exact kvc_cells _ _) ?_; intro w1 hR))
  have c0 : w1.cell? ⟨gb, 0, none⟩ = some (.string px) := cell_of_row w1 gb 0 _ _ _ (hR.row (gb, kvc px p_y, 23) (by repeat (first | exact List.Mem.head _ | refine List.Mem.tail _ ?_))).2
  go_wp2_with (first | (refine wK_box rfl (by rfl) (by assumption) rfl ?_; intro gk w1 hR) | (refine wK_alloc rfl (by rfl) (by assumption) ?_; intro g0 w1 hR) | (refine wK_load rfl (by rfl) (by assumption) rfl (by repeat (first | exact List.Mem.head _ | refine List.Mem.tail _ ?_)) rfl ?_) | (refine wK_store rfl (by rfl) (by assumption) rfl rfl (by repeat (first | exact Pick.here | apply Pick.there)) (by rfl) (by rfl) (by exact kvc_cells _ _) ?_; intro w1 hR))
  refine (H6.out _).mono ?_
  rintro e w1 ⟨rfl, hb1⟩
  have hR := Rws.call (by assumption) hb1
  clear hb1 c0
  go_wp2_with (first | (refine wK_box rfl (by rfl) (by assumption) rfl ?_; intro gk w1 hR) | (refine wK_alloc rfl (by rfl) (by assumption) ?_; intro g0 w1 hR) | (refine wK_load rfl (by rfl) (by assumption) rfl (by repeat (first | exact List.Mem.head _ | refine List.Mem.tail _ ?_)) rfl ?_) | (refine wK_store rfl (by rfl) (by assumption) rfl rfl (by repeat (first | exact Pick.here | apply Pick.there)) (by rfl) (by rfl) (by exact kvc_cells _ _) ?_; intro w1 hR))
  refine (H7.out _).mono ?_
  rintro e w1 ⟨rfl, hb1⟩
  have hR := Rws.call (by assumption) hb1
  clear hb1
  go_wp2_with (first | (refine wK_box rfl (by rfl) (by assumption) rfl ?_; intro gk w1 hR) | (refine wK_alloc rfl (by rfl) (by assumption) ?_; intro g0 w1 hR) | (refine wK_load rfl (by rfl) (by assumption) rfl (by repeat (first | exact List.Mem.head _ | refine List.Mem.tail _ ?_)) rfl ?_) | (refine wK_store rfl (by rfl) (by assumption) rfl rfl (by repeat (first | exact Pick.here | apply Pick.there)) (by rfl) (by rfl) (by exact kvc_cells _ _) ?_; intro w1 hR))
  refine (H8.out _).mono ?_
  rintro e w1 ⟨rfl, hb1⟩
  have hR := Rws.call (by assumption) hb1
  clear hb1
  go_wp2_with (first | (refine wK_box rfl (by rfl) (by assumption) rfl ?_; intro gk w1 hR) | (refine wK_alloc rfl (by rfl) (by assumption) ?_; intro g0 w1 hR) | (refine wK_load rfl (by rfl) (by assumption) rfl (by repeat (first | exact List.Mem.head _ | refine List.Mem.tail _ ?_)) rfl ?_) | (refine wK_store rfl (by rfl) (by assumption) rfl rfl (by repeat (first | exact Pick.here | apply Pick.there)) (by rfl) (by rfl) (by exact kvc_cells _ _) ?_; intro w1 hR))
  refine (H9.out _).mono ?_
  rintro e w1 ⟨rfl, hb1⟩
  have hR := Rws.call (by assumption) hb1
  clear hb1
  go_wp2_with (first | (refine wK_box rfl (by rfl) (by assumption) rfl ?_; intro gk w1 hR) | (refine wK_alloc rfl (by rfl) (by assumption) ?_; intro g0 w1 hR) | (refine wK_load rfl (by rfl) (by assumption) rfl (by repeat (first | exact List.Mem.head _ | refine List.Mem.tail _ ?_)) rfl ?_) | (refine wK_store rfl (by rfl) (by assumption) rfl rfl (by repeat (first | exact Pick.here | apply Pick.there)) (by rfl) (by rfl) (by exact kvc_cells _ _) ?_; intro w1 hR))
  refine (H10.out _).mono ?_
  rintro e w1 ⟨rfl, hb1⟩
  have hR := Rws.call (by assumption) hb1
  clear hb1
  go_wp2_with (first | (refine wK_box rfl (by rfl) (by assumption) rfl ?_; intro gk w1 hR) | (refine wK_alloc rfl (by rfl) (by assumption) ?_; intro g0 w1 hR) | (refine wK_load rfl (by rfl) (by assumption) rfl (by repeat (first | exact List.Mem.head _ | refine List.Mem.tail _ ?_)) rfl ?_) | (refine wK_store rfl (by rfl) (by assumption) rfl rfl (by repeat (first | exact Pick.here | apply Pick.there)) (by rfl) (by rfl) (by exact kvc_cells _ _) ?_; intro w1 hR))
  refine (H11.out _).mono ?_
  rintro e w1 ⟨rfl, hb1⟩
  have hR := Rws.call (by assumption) hb1
  clear hb1
  go_wp2_with (first | (refine wK_box rfl (by rfl) (by assumption) rfl ?_; intro gk w1 hR) | (refine wK_alloc rfl (by rfl) (by assumption) ?_; intro g0 w1 hR) | (refine wK_load rfl (by rfl) (by assumption) rfl (by repeat (first | exact List.Mem.head _ | refine List.Mem.tail _ ?_)) rfl ?_) | (refine wK_store rfl (by rfl) (by assumption) rfl rfl (by repeat (first | exact Pick.here | apply Pick.there)) (by rfl) (by rfl) (by exact kvc_cells _ _) ?_; intro w1 hR))
  refine (H12.out _).mono ?_
  rintro e w1 ⟨rfl, hb1⟩
  have hR := Rws.call (by assumption) hb1
  clear hb1
  have ca : w1.cell? ⟨ga, 0, none⟩ = some (.string kx) := cell_of_row w1 ga 0 _ _ _ (hR.row (ga, kvc kx ky, 23) (by repeat (first | exact List.Mem.head _ | refine List.Mem.tail _ ?_))).2
  have cb : w1.cell? ⟨ga, 1, none⟩ = some (.string ky) := cell_of_row w1 ga 1 _ _ _ (hR.row (ga, kvc kx ky, 23) (by repeat (first | exact List.Mem.head _ | refine List.Mem.tail _ ?_))).2
  go_wp2_with fail
  refine (H13.out _).mono ?_
  rintro e w1 ⟨rfl, hb1⟩
  have hR := Rws.call (by assumption) hb1
  clear hb1 ca cb
  go_wp2_with fail
  go_ret
  exact ⟨rfl, Rws.below (by assumption)⟩

set_option maxRecDepth 100000 in
set_option maxHeartbeats 6400000 in
theorem signs_main (d k s n qd ld qk lk kx ky px p_y qr r rd h sm i ti qt t a b tw c : ByteArray) (w : World) (hd : (d.size : Int) ≤ 100) (hk : (k.size : Int) ≤ 100) (hz0 : ld.toList.isEmpty = false) (hz1 : lk.toList.isEmpty = false) (hz2 : r.toList.isEmpty = false) (hz3 : t.toList.isEmpty = false) (ha : a.size = 32) (hb : b.size = 32) (hc : c.size = 32) (hn : n.size = 32)
    (h0 : ∀ w : World, Calls Tryz.prog 14 #[] w fun e w' => e = .returned (.bool true) ∧ Below w.heap.size w w')
    (h1 : ∀ w : World, Calls Tryz.prog 21 #[] w fun e w' => e = .returned (.string n) ∧ Below w.heap.size w w')
    (h2 : ∀ w : World, Calls Tryz.prog 25 #[.string d, .string n] w fun e w' => e = .returned (.tuple #[.string qd, .string ld, .int .i64 0]) ∧ Below w.heap.size w w')
    (h3 : ∀ w : World, Calls Tryz.prog 25 #[.string k, .string n] w fun e w' => e = .returned (.tuple #[.string qk, .string lk, .int .i64 0]) ∧ Below w.heap.size w w')
    (h4 : ∀ w : World, Calls Tryz.prog 28 #[.string ld] w fun e w' => e = .returned (.tuple #[.agg (kvc kx ky), .bool true]) ∧ Below w.heap.size w w')
    (h5 : ∀ w : World, Calls Tryz.prog 28 #[.string lk] w fun e w' => e = .returned (.tuple #[.agg (kvc px p_y), .bool true]) ∧ Below w.heap.size w w')
    (h6 : ∀ w : World, Calls Tryz.prog 25 #[.string px, .string n] w fun e w' => e = .returned (.tuple #[.string qr, .string r, .int .i64 0]) ∧ Below w.heap.size w w')
    (h7 : ∀ w : World, Calls Tryz.prog 27 #[.string r, .string ld] w fun e w' => e = .returned (.tuple #[.string rd, .int .i64 0]) ∧ Below w.heap.size w w')
    (h8 : ∀ w : World, Calls Tryz.prog 29 #[.string s] w fun e w' => e = .returned (.string h) ∧ Below w.heap.size w w')
    (h9 : ∀ w : World, Calls Tryz.prog 26 #[.string h, .string rd] w fun e w' => e = .returned (.tuple #[.string sm, .int .i64 0]) ∧ Below w.heap.size w w')
    (h10 : ∀ w : World, Calls Tryz.prog 30 #[.string lk, .string n] w fun e w' => e = .returned (.tuple #[.string i, .int .i64 0]) ∧ Below w.heap.size w w')
    (h11 : ∀ w : World, Calls Tryz.prog 27 #[.string sm, .string i] w fun e w' => e = .returned (.tuple #[.string ti, .int .i64 0]) ∧ Below w.heap.size w w')
    (h12 : ∀ w : World, Calls Tryz.prog 25 #[.string ti, .string n] w fun e w' => e = .returned (.tuple #[.string qt, .string t, .int .i64 0]) ∧ Below w.heap.size w w')
    (h13 : ∀ w : World, Calls Tryz.prog 11 #[.agg (kvc kx ky)] w fun e w' => e = .returned (.int .i64 0) ∧ Below w.heap.size w w')
    (h14 : ∀ w : World, Calls Tryz.prog 24 #[.string r, .int .i64 32] w fun e w' => e = .returned (.tuple #[.string a, .int .i64 0]) ∧ Below w.heap.size w w')
    (h15 : ∀ w : World, Calls Tryz.prog 24 #[.string t, .int .i64 32] w fun e w' => e = .returned (.tuple #[.string b, .int .i64 0]) ∧ Below w.heap.size w w')
    (h16 : ∀ w : World, Calls Tryz.prog 22 #[.string n, .string t] w fun e w' => e = .returned (.tuple #[.string tw, .int .i64 0]) ∧ Below w.heap.size w w')
    (h17 : ∀ w : World, Calls Tryz.prog 24 #[.string tw, .int .i64 32] w fun e w' => e = .returned (.tuple #[.string c, .int .i64 0]) ∧ Below w.heap.size w w')
    (h18 : ∀ w : World, Calls Tryz.prog 19 #[.agg (kvc kx ky), .string s, .string (a ++ b)] w fun e w' => e = .returned (.bool true) ∧ Below w.heap.size w w')
    (h19 : ∀ w : World, Calls Tryz.prog 19 #[.agg (kvc kx ky), .string s, .string (a ++ c)] w fun e w' => e = .returned (.bool true) ∧ Below w.heap.size w w')
    (h20 : ∀ w : World, Calls Tryz.prog 19 #[.agg (kvc kx ky), .string s, .string (a ++ b ++ ⟨#[0]⟩)] w fun e w' => e = .returned (.bool false) ∧ Below w.heap.size w w')
    (h21 : ∀ w : World, Calls Tryz.prog 19 #[.agg (kvc kx ky), .string s, .string (a ++ b.extract 1 b.size)] w fun e w' => e = .returned (.bool false) ∧ Below w.heap.size w w')
    (h22 : ∀ w : World, Calls Tryz.prog 19 #[.agg (kvc kx ky), .string s, .string (a ++ zs 32)] w fun e w' => e = .returned (.bool false) ∧ Below w.heap.size w w')
    (h23 : ∀ w : World, Calls Tryz.prog 19 #[.agg (kvc kx ky), .string s, .string (zs 32 ++ b)] w fun e w' => e = .returned (.bool false) ∧ Below w.heap.size w w')
    (h24 : ∀ w : World, Calls Tryz.prog 19 #[.agg (kvc kx ky), .string s, .string (a ++ n)] w fun e w' => e = .returned (.bool false) ∧ Below w.heap.size w w')
    (h25 : ∀ w : World, Calls Tryz.prog 19 #[.agg (kvc kx ky), .string s, .string (n ++ b)] w fun e w' => e = .returned (.bool false) ∧ Below w.heap.size w w')
    (h26 : ∀ w : World, Calls Tryz.prog 19 #[.agg zkey, .string s, .string (a ++ b)] w fun e w' => e = .returned (.bool false) ∧ Below w.heap.size w w') :
    Calls Tryz.prog 10 #[.string d, .string k, .string s] w fun e w' => e = .returned (.bool true) ∧ Below w.heap.size w w' := by
  have H0 := Lib.hid h0; have H1 := Lib.hid h1; have H2 := Lib.hid h2; have H3 := Lib.hid h3; have H4 := Lib.hid h4; have H5 := Lib.hid h5; have H6 := Lib.hid h6; have H7 := Lib.hid h7; have H8 := Lib.hid h8; have H9 := Lib.hid h9; have H10 := Lib.hid h10; have H11 := Lib.hid h11; have H12 := Lib.hid h12; have H13 := Lib.hid h13; have H14 := Lib.hid h14; have H15 := Lib.hid h15; have H16 := Lib.hid h16; have H17 := Lib.hid h17; have H18 := Lib.hid h18; have H19 := Lib.hid h19; have H20 := Lib.hid h20; have H21 := Lib.hid h21; have H22 := Lib.hid h22; have H23 := Lib.hid h23; have H24 := Lib.hid h24; have H25 := Lib.hid h25; have H26 := Lib.hid h26
  clear h0 h1 h2 h3 h4 h5 h6 h7 h8 h9 h10 h11 h12 h13 h14 h15 h16 h17 h18 h19 h20 h21 h22 h23 h24 h25 h26
  have SAB : Hid (∀ w : World, (binOp .add 9 (.string a) (.string b)).run Tryz.prog w = .ok (.string (a ++ b)) w) := run_adds (by omega)
  have SAB0 : Hid (∀ w : World, (binOp .add 9 (.string (a ++ b)) (.string ⟨#[0]⟩)).run Tryz.prog w = .ok (.string ((a ++ b) ++ ⟨#[0]⟩)) w) := run_adds (by rw [ByteArray.size_append]; show a.size + b.size + 1 ≤ _; omega)
  have SAB1 : Hid (∀ w : World, (binOp .add 9 (.string a) (.string (b.extract 1 b.size))).run Tryz.prog w = .ok (.string (a ++ (b.extract 1 b.size))) w) := run_adds (by rw [ByteArray.size_extract, Nat.min_self]; omega)
  have SAZ : Hid (∀ w : World, (binOp .add 9 (.string a) (.string (zs 32))).run Tryz.prog w = .ok (.string (a ++ (zs 32))) w) := run_adds (by rw [zs_size]; omega)
  have SQB : Hid (∀ w : World, (binOp .add 9 (.string (zs 32)) (.string b)).run Tryz.prog w = .ok (.string ((zs 32) ++ b)) w) := run_adds (by rw [zs_size]; omega)
  have SAN : Hid (∀ w : World, (binOp .add 9 (.string a) (.string n)).run Tryz.prog w = .ok (.string (a ++ n)) w) := run_adds (by omega)
  have SNB : Hid (∀ w : World, (binOp .add 9 (.string n) (.string b)).run Tryz.prog w = .ok (.string (n ++ b)) w) := run_adds (by omega)
  have SB1 : Hid (∀ w : World, (Instr.sliceAt 9 (.string b) (some (.int .i64 ((1 : Nat) : Int))) none none).run Tryz.prog w = .ok (.string (b.extract 1 b.size)) w) := run_cutS_l Tryz.underlying9 (by omega)
  have hai : (a.size : Int) = 32 := by omega
  have hbi : (b.size : Int) = 32 := by omega
  have hci : (c.size : Int) = 32 := by omega
  clear ha hb hc hn
  have hmk : ∀ u : World, (Instr.makeSlice 50 (.int .i64 32) (.int .i64 32)).run Tryz.prog u = .ok (.slice (some ⟨u.heap.size, 0, none⟩) 32 32) (u.alloc (.cells z32 5)) := run_make32
  have hst := run_string32
  have HMK := Lib.hid hmk; have HST := Lib.hid hst
  clear hmk hst
  have hR0 := Rws.start w
  go_enter Tryz.func10, Tryz.ntmps10
  go_wp2_with fail
  refine (H0.out _).mono ?_
  rintro e w1 ⟨rfl, hb1⟩
  have hR := Rws.call hR0 hb1
  clear hb1
  go_wp2_with (first | (refine wK_box rfl (by rfl) (by assumption) rfl ?_; intro gk w1 hR) | (refine wK_alloc rfl (by rfl) (by assumption) ?_; intro g0 w1 hR) | (refine wK_load rfl (by rfl) (by assumption) rfl (by repeat (first | exact List.Mem.head _ | refine List.Mem.tail _ ?_)) rfl ?_) | (refine wK_store rfl (by rfl) (by assumption) rfl rfl (by repeat (first | exact Pick.here | apply Pick.there)) (by rfl) (by rfl) (by exact kvc_cells _ _) ?_; intro w1 hR))
  refine (H1.out _).mono ?_
  rintro e w1 ⟨rfl, hb1⟩
  have hR := Rws.call (by assumption) hb1
  clear hb1
  go_wp2_with (first | (refine wK_box rfl (by rfl) (by assumption) rfl ?_; intro gk w1 hR) | (refine wK_alloc rfl (by rfl) (by assumption) ?_; intro g0 w1 hR) | (refine wK_load rfl (by rfl) (by assumption) rfl (by repeat (first | exact List.Mem.head _ | refine List.Mem.tail _ ?_)) rfl ?_) | (refine wK_store rfl (by rfl) (by assumption) rfl rfl (by repeat (first | exact Pick.here | apply Pick.there)) (by rfl) (by rfl) (by exact kvc_cells _ _) ?_; intro w1 hR))
  refine (H2.out _).mono ?_
  rintro e w1 ⟨rfl, hb1⟩
  have hR := Rws.call (by assumption) hb1
  clear hb1
  go_wp2_with (first | (refine wK_box rfl (by rfl) (by assumption) rfl ?_; intro gk w1 hR) | (refine wK_alloc rfl (by rfl) (by assumption) ?_; intro g0 w1 hR) | (refine wK_load rfl (by rfl) (by assumption) rfl (by repeat (first | exact List.Mem.head _ | refine List.Mem.tail _ ?_)) rfl ?_) | (refine wK_store rfl (by rfl) (by assumption) rfl rfl (by repeat (first | exact Pick.here | apply Pick.there)) (by rfl) (by rfl) (by exact kvc_cells _ _) ?_; intro w1 hR))
  refine (H3.out _).mono ?_
  rintro e w1 ⟨rfl, hb1⟩
  have hR := Rws.call (by assumption) hb1
  clear hb1
  go_wp2_with (first | (refine wK_box rfl (by rfl) (by assumption) rfl ?_; intro gk w1 hR) | (refine wK_alloc rfl (by rfl) (by assumption) ?_; intro g0 w1 hR) | (refine wK_load rfl (by rfl) (by assumption) rfl (by repeat (first | exact List.Mem.head _ | refine List.Mem.tail _ ?_)) rfl ?_) | (refine wK_store rfl (by rfl) (by assumption) rfl rfl (by repeat (first | exact Pick.here | apply Pick.there)) (by rfl) (by rfl) (by exact kvc_cells _ _) ?_; intro w1 hR))
  refine (H4.out _).mono ?_
  rintro e w1 ⟨rfl, hb1⟩
  have hR := Rws.call (by assumption) hb1
  clear hb1
  go_wp2_with (first | (refine wK_box rfl (by rfl) (by assumption) rfl ?_; intro gk w1 hR) | (refine wK_alloc rfl (by rfl) (by assumption) ?_; intro ga w1 hR) | (refine wK_load rfl (by rfl) (by assumption) rfl (by repeat (first | exact List.Mem.head _ | refine List.Mem.tail _ ?_)) rfl ?_) | (refine wK_store rfl (by rfl) (by assumption) rfl rfl (by repeat (first | exact Pick.here | apply Pick.there)) (by rfl) (by rfl) (by exact kvc_cells _ _) ?_; intro w1 hR))
  refine (H5.out _).mono ?_
  rintro e w1 ⟨rfl, hb1⟩
  have hR := Rws.call (by assumption) hb1
  clear hb1
  go_upto_region 14 with (first | (refine wK_box rfl (by rfl) (by assumption) rfl ?_; intro gk w1 hR) | (refine wK_alloc rfl (by rfl) (by assumption) ?_; intro gb w1 hR) | (refine wK_load rfl (by rfl) (by assumption) rfl (by repeat (first | exact List.Mem.head _ | refine List.Mem.tail _ ?_)) rfl ?_) | (refine wK_store rfl (by rfl) (by assumption) rfl rfl (by repeat (first | exact Pick.here | apply Pick.there)) (by rfl) (by rfl) (by exact kvc_cells _ _) ?_; intro w1 hR))
  have c0 : w1.cell? ⟨gb, 0, none⟩ = some (.string px) := cell_of_row w1 gb 0 _ _ _ (hR.row (gb, kvc px p_y, 23) (by repeat (first | exact List.Mem.head _ | refine List.Mem.tail _ ?_))).2
  go_wp2_with (first | (refine wK_box rfl (by rfl) (by assumption) rfl ?_; intro gk w1 hR) | (refine wK_alloc rfl (by rfl) (by assumption) ?_; intro g0 w1 hR) | (refine wK_load rfl (by rfl) (by assumption) rfl (by repeat (first | exact List.Mem.head _ | refine List.Mem.tail _ ?_)) rfl ?_) | (refine wK_store rfl (by rfl) (by assumption) rfl rfl (by repeat (first | exact Pick.here | apply Pick.there)) (by rfl) (by rfl) (by exact kvc_cells _ _) ?_; intro w1 hR))
  refine (H6.out _).mono ?_
  rintro e w1 ⟨rfl, hb1⟩
  have hR := Rws.call (by assumption) hb1
  clear hb1 c0
  go_wp2_with (first | (refine wK_box rfl (by rfl) (by assumption) rfl ?_; intro gk w1 hR) | (refine wK_alloc rfl (by rfl) (by assumption) ?_; intro g0 w1 hR) | (refine wK_load rfl (by rfl) (by assumption) rfl (by repeat (first | exact List.Mem.head _ | refine List.Mem.tail _ ?_)) rfl ?_) | (refine wK_store rfl (by rfl) (by assumption) rfl rfl (by repeat (first | exact Pick.here | apply Pick.there)) (by rfl) (by rfl) (by exact kvc_cells _ _) ?_; intro w1 hR))
  refine (H7.out _).mono ?_
  rintro e w1 ⟨rfl, hb1⟩
  have hR := Rws.call (by assumption) hb1
  clear hb1
  go_wp2_with (first | (refine wK_box rfl (by rfl) (by assumption) rfl ?_; intro gk w1 hR) | (refine wK_alloc rfl (by rfl) (by assumption) ?_; intro g0 w1 hR) | (refine wK_load rfl (by rfl) (by assumption) rfl (by repeat (first | exact List.Mem.head _ | refine List.Mem.tail _ ?_)) rfl ?_) | (refine wK_store rfl (by rfl) (by assumption) rfl rfl (by repeat (first | exact Pick.here | apply Pick.there)) (by rfl) (by rfl) (by exact kvc_cells _ _) ?_; intro w1 hR))
  refine (H8.out _).mono ?_
  rintro e w1 ⟨rfl, hb1⟩
  have hR := Rws.call (by assumption) hb1
  clear hb1
  go_wp2_with (first | (refine wK_box rfl (by rfl) (by assumption) rfl ?_; intro gk w1 hR) | (refine wK_alloc rfl (by rfl) (by assumption) ?_; intro g0 w1 hR) | (refine wK_load rfl (by rfl) (by assumption) rfl (by repeat (first | exact List.Mem.head _ | refine List.Mem.tail _ ?_)) rfl ?_) | (refine wK_store rfl (by rfl) (by assumption) rfl rfl (by repeat (first | exact Pick.here | apply Pick.there)) (by rfl) (by rfl) (by exact kvc_cells _ _) ?_; intro w1 hR))
  refine (H9.out _).mono ?_
  rintro e w1 ⟨rfl, hb1⟩
  have hR := Rws.call (by assumption) hb1
  clear hb1
  go_wp2_with (first | (refine wK_box rfl (by rfl) (by assumption) rfl ?_; intro gk w1 hR) | (refine wK_alloc rfl (by rfl) (by assumption) ?_; intro g0 w1 hR) | (refine wK_load rfl (by rfl) (by assumption) rfl (by repeat (first | exact List.Mem.head _ | refine List.Mem.tail _ ?_)) rfl ?_) | (refine wK_store rfl (by rfl) (by assumption) rfl rfl (by repeat (first | exact Pick.here | apply Pick.there)) (by rfl) (by rfl) (by exact kvc_cells _ _) ?_; intro w1 hR))
  refine (H10.out _).mono ?_
  rintro e w1 ⟨rfl, hb1⟩
  have hR := Rws.call (by assumption) hb1
  clear hb1
  go_wp2_with (first | (refine wK_box rfl (by rfl) (by assumption) rfl ?_; intro gk w1 hR) | (refine wK_alloc rfl (by rfl) (by assumption) ?_; intro g0 w1 hR) | (refine wK_load rfl (by rfl) (by assumption) rfl (by repeat (first | exact List.Mem.head _ | refine List.Mem.tail _ ?_)) rfl ?_) | (refine wK_store rfl (by rfl) (by assumption) rfl rfl (by repeat (first | exact Pick.here | apply Pick.there)) (by rfl) (by rfl) (by exact kvc_cells _ _) ?_; intro w1 hR))
  refine (H11.out _).mono ?_
  rintro e w1 ⟨rfl, hb1⟩
  have hR := Rws.call (by assumption) hb1
  clear hb1
  go_wp2_with (first | (refine wK_box rfl (by rfl) (by assumption) rfl ?_; intro gk w1 hR) | (refine wK_alloc rfl (by rfl) (by assumption) ?_; intro g0 w1 hR) | (refine wK_load rfl (by rfl) (by assumption) rfl (by repeat (first | exact List.Mem.head _ | refine List.Mem.tail _ ?_)) rfl ?_) | (refine wK_store rfl (by rfl) (by assumption) rfl rfl (by repeat (first | exact Pick.here | apply Pick.there)) (by rfl) (by rfl) (by exact kvc_cells _ _) ?_; intro w1 hR))
  refine (H12.out _).mono ?_
  rintro e w1 ⟨rfl, hb1⟩
  have hR := Rws.call (by assumption) hb1
  clear hb1
  have ca : w1.cell? ⟨ga, 0, none⟩ = some (.string kx) := cell_of_row w1 ga 0 _ _ _ (hR.row (ga, kvc kx ky, 23) (by repeat (first | exact List.Mem.head _ | refine List.Mem.tail _ ?_))).2
  have cb : w1.cell? ⟨ga, 1, none⟩ = some (.string ky) := cell_of_row w1 ga 1 _ _ _ (hR.row (ga, kvc kx ky, 23) (by repeat (first | exact List.Mem.head _ | refine List.Mem.tail _ ?_))).2
  go_wp2_with fail
  refine (H13.out _).mono ?_
  rintro e w1 ⟨rfl, hb1⟩
  have hR := Rws.call (by assumption) hb1
  clear hb1 ca cb
  go_wp2_with (first | (refine wK_box rfl (by rfl) (by assumption) rfl ?_; intro gk w1 hR) | (refine wK_alloc rfl (by rfl) (by assumption) ?_; intro g0 w1 hR) | (refine wK_load rfl (by rfl) (by assumption) rfl (by repeat (first | exact List.Mem.head _ | refine List.Mem.tail _ ?_)) rfl ?_) | (refine wK_store rfl (by rfl) (by assumption) rfl rfl (by repeat (first | exact Pick.here | apply Pick.there)) (by rfl) (by rfl) (by exact kvc_cells _ _) ?_; intro w1 hR))
  refine (H14.out _).mono ?_
  rintro e w1 ⟨rfl, hb1⟩
  have hR := Rws.call (by assumption) hb1
  clear hb1
  go_wp2_with (first | (refine wK_box rfl (by rfl) (by assumption) rfl ?_; intro gk w1 hR) | (refine wK_alloc rfl (by rfl) (by assumption) ?_; intro g0 w1 hR) | (refine wK_load rfl (by rfl) (by assumption) rfl (by repeat (first | exact List.Mem.head _ | refine List.Mem.tail _ ?_)) rfl ?_) | (refine wK_store rfl (by rfl) (by assumption) rfl rfl (by repeat (first | exact Pick.here | apply Pick.there)) (by rfl) (by rfl) (by exact kvc_cells _ _) ?_; intro w1 hR))
  refine (H15.out _).mono ?_
  rintro e w1 ⟨rfl, hb1⟩
  have hR := Rws.call (by assumption) hb1
  clear hb1
  go_wp2_with (first | (refine wK_box rfl (by rfl) (by assumption) rfl ?_; intro gk w1 hR) | (refine wK_alloc rfl (by rfl) (by assumption) ?_; intro g0 w1 hR) | (refine wK_load rfl (by rfl) (by assumption) rfl (by repeat (first | exact List.Mem.head _ | refine List.Mem.tail _ ?_)) rfl ?_) | (refine wK_store rfl (by rfl) (by assumption) rfl rfl (by repeat (first | exact Pick.here | apply Pick.there)) (by rfl) (by rfl) (by exact kvc_cells _ _) ?_; intro w1 hR))
  refine (H16.out _).mono ?_
  rintro e w1 ⟨rfl, hb1⟩
  have hR := Rws.call (by assumption) hb1
  clear hb1
  go_wp2_with (first | (refine wK_box rfl (by rfl) (by assumption) rfl ?_; intro gk w1 hR) | (refine wK_alloc rfl (by rfl) (by assumption) ?_; intro g0 w1 hR) | (refine wK_load rfl (by rfl) (by assumption) rfl (by repeat (first | exact List.Mem.head _ | refine List.Mem.tail _ ?_)) rfl ?_) | (refine wK_store rfl (by rfl) (by assumption) rfl rfl (by repeat (first | exact Pick.here | apply Pick.there)) (by rfl) (by rfl) (by exact kvc_cells _ _) ?_; intro w1 hR))
  refine (H17.out _).mono ?_
  rintro e w1 ⟨rfl, hb1⟩
  have hR := Rws.call (by assumption) hb1
  clear hb1
  have ca : w1.cell? ⟨ga, 0, none⟩ = some (.string kx) := cell_of_row w1 ga 0 _ _ _ (hR.row (ga, kvc kx ky, 23) (by repeat (first | exact List.Mem.head _ | refine List.Mem.tail _ ?_))).2
  have cb : w1.cell? ⟨ga, 1, none⟩ = some (.string ky) := cell_of_row w1 ga 1 _ _ _ (hR.row (ga, kvc kx ky, 23) (by repeat (first | exact List.Mem.head _ | refine List.Mem.tail _ ?_))).2
  go_wp2_with fail
  refine (H18.out _).mono ?_
  rintro e w1 ⟨rfl, hb1⟩
  have hR := Rws.call (by assumption) hb1
  clear hb1 ca cb
  have ca : w1.cell? ⟨ga, 0, none⟩ = some (.string kx) := cell_of_row w1 ga 0 _ _ _ (hR.row (ga, kvc kx ky, 23) (by repeat (first | exact List.Mem.head _ | refine List.Mem.tail _ ?_))).2
  have cb : w1.cell? ⟨ga, 1, none⟩ = some (.string ky) := cell_of_row w1 ga 1 _ _ _ (hR.row (ga, kvc kx ky, 23) (by repeat (first | exact List.Mem.head _ | refine List.Mem.tail _ ?_))).2
  go_wp2_with fail
  refine (H19.out _).mono ?_
  rintro e w1 ⟨rfl, hb1⟩
  have hR := Rws.call (by assumption) hb1
  clear hb1 ca cb
  have hmk := HMK.out; have hst := HST.out w1
  go_upto_region 31 with fail
  clear hmk hst
  have hR2 := hR.alloc0 (.cells z32 5)
  refine wp_region_calm 63 (by kernel_rfl) (by kernel_rfl) hR2 ?_
  refine lexC_load0 (cs := kvc kx ky) (by rfl) rfl (by repeat (first | exact List.Mem.head _ | refine List.Mem.tail _ ?_)) Tryz.underlying23 rfl (by exact key_info rfl) ?_
  simp only [Act.put, List.setIfInBounds_toArray, List.set_cons_succ, List.set_cons_zero]
  refine lexC_move (v := .string s) (by rfl) rfl ?_
  simp only [Act.put, List.setIfInBounds_toArray, List.set_cons_succ, List.set_cons_zero]
  refine lexC_move (v := .string a) (by rfl) rfl ?_
  simp only [Act.put, List.setIfInBounds_toArray, List.set_cons_succ, List.set_cons_zero]
  refine lexC_move (v := .string b) (by rfl) rfl ?_
  simp only [Act.put, List.setIfInBounds_toArray, List.set_cons_succ, List.set_cons_zero]
  refine lexC_bin (u := .string a) (v := .string b) (by rfl) rfl rfl SAB.out (fun _ => rfl) ?_
  simp only [Act.put, List.setIfInBounds_toArray, List.set_cons_succ, List.set_cons_zero]
  refine lexC_bin (u := .string (a ++ b)) (v := .string ⟨#[0]⟩) (by rfl) rfl rfl SAB0.out (fun _ => rfl) ?_
  simp only [Act.put, List.setIfInBounds_toArray, List.set_cons_succ, List.set_cons_zero]
  refine lexC_call rfl Tryz.func19 (by kernel_rfl) rfl rfl (fun w _ => H20.out w) ?_
  simp only [Act.put, List.setIfInBounds_toArray, List.set_cons_succ, List.set_cons_zero]
  refine lexC_un (r := .bool true) (by rfl) rfl (fun _ => rfl) ?_
  simp only [Act.put, List.setIfInBounds_toArray, List.set_cons_succ, List.set_cons_zero]
  refine lexC_move (v := .bool true) (by rfl) rfl ?_
  simp only [Act.put, List.setIfInBounds_toArray, List.set_cons_succ, List.set_cons_zero]
  refine lexC_load0 (cs := kvc kx ky) (by rfl) rfl (by repeat (first | exact List.Mem.head _ | refine List.Mem.tail _ ?_)) Tryz.underlying23 rfl (by exact key_info rfl) ?_
  simp only [Act.put, List.setIfInBounds_toArray, List.set_cons_succ, List.set_cons_zero]
  refine lexC_move (v := .string s) (by rfl) rfl ?_
  simp only [Act.put, List.setIfInBounds_toArray, List.set_cons_succ, List.set_cons_zero]
  refine lexC_move (v := .string a) (by rfl) rfl ?_
  simp only [Act.put, List.setIfInBounds_toArray, List.set_cons_succ, List.set_cons_zero]
  refine lexC_move (v := .string b) (by rfl) rfl ?_
  simp only [Act.put, List.setIfInBounds_toArray, List.set_cons_succ, List.set_cons_zero]
  refine lexC_cutv (v := .string (b.extract 1 b.size)) (by rfl) rfl rfl rfl SB1.out ?_
  simp only [Act.put, List.setIfInBounds_toArray, List.set_cons_succ, List.set_cons_zero]
  refine lexC_bin (u := .string a) (v := .string (b.extract 1 b.size)) (by rfl) rfl rfl SAB1.out (fun _ => rfl) ?_
  simp only [Act.put, List.setIfInBounds_toArray, List.set_cons_succ, List.set_cons_zero]
  refine lexC_call rfl Tryz.func19 (by kernel_rfl) rfl rfl (fun w _ => H21.out w) ?_
  simp only [Act.put, List.setIfInBounds_toArray, List.set_cons_succ, List.set_cons_zero]
  refine lexC_un (r := .bool true) (by rfl) rfl (fun _ => rfl) ?_
  simp only [Act.put, List.setIfInBounds_toArray, List.set_cons_succ, List.set_cons_zero]
  refine c_pickT (v := .bool true) (by rfl) rfl rfl ?_
  simp only [Act.put, List.setIfInBounds_toArray, List.set_cons_succ, List.set_cons_zero]
  refine lexC_move (v := .bool true) (by rfl) rfl ?_
  simp only [Act.put, List.setIfInBounds_toArray, List.set_cons_succ, List.set_cons_zero]
  refine lexC_load0 (cs := kvc kx ky) (by rfl) rfl (by repeat (first | exact List.Mem.head _ | refine List.Mem.tail _ ?_)) Tryz.underlying23 rfl (by exact key_info rfl) ?_
  simp only [Act.put, List.setIfInBounds_toArray, List.set_cons_succ, List.set_cons_zero]
  refine lexC_move (v := .string s) (by rfl) rfl ?_
  simp only [Act.put, List.setIfInBounds_toArray, List.set_cons_succ, List.set_cons_zero]
  refine lexC_move (v := .string a) (by rfl) rfl ?_
  simp only [Act.put, List.setIfInBounds_toArray, List.set_cons_succ, List.set_cons_zero]
  refine lexC_move (v := .string (zs 32)) (by rfl) rfl ?_
  simp only [Act.put, List.setIfInBounds_toArray, List.set_cons_succ, List.set_cons_zero]
  refine lexC_bin (u := .string a) (v := .string (zs 32)) (by rfl) rfl rfl SAZ.out (fun _ => rfl) ?_
  simp only [Act.put, List.setIfInBounds_toArray, List.set_cons_succ, List.set_cons_zero]
  refine lexC_call rfl Tryz.func19 (by kernel_rfl) rfl rfl (fun w _ => H22.out w) ?_
  simp only [Act.put, List.setIfInBounds_toArray, List.set_cons_succ, List.set_cons_zero]
  refine lexC_un (r := .bool true) (by rfl) rfl (fun _ => rfl) ?_
  simp only [Act.put, List.setIfInBounds_toArray, List.set_cons_succ, List.set_cons_zero]
  refine c_pickT (v := .bool true) (by rfl) rfl rfl ?_
  simp only [Act.put, List.setIfInBounds_toArray, List.set_cons_succ, List.set_cons_zero]
  refine lexC_move (v := .bool true) (by rfl) rfl ?_
  simp only [Act.put, List.setIfInBounds_toArray, List.set_cons_succ, List.set_cons_zero]
  refine lexC_load0 (cs := kvc kx ky) (by rfl) rfl (by repeat (first | exact List.Mem.head _ | refine List.Mem.tail _ ?_)) Tryz.underlying23 rfl (by exact key_info rfl) ?_
  simp only [Act.put, List.setIfInBounds_toArray, List.set_cons_succ, List.set_cons_zero]
  refine lexC_move (v := .string s) (by rfl) rfl ?_
  simp only [Act.put, List.setIfInBounds_toArray, List.set_cons_succ, List.set_cons_zero]
  refine lexC_move (v := .string (zs 32)) (by rfl) rfl ?_
  simp only [Act.put, List.setIfInBounds_toArray, List.set_cons_succ, List.set_cons_zero]
  refine lexC_move (v := .string b) (by rfl) rfl ?_
  simp only [Act.put, List.setIfInBounds_toArray, List.set_cons_succ, List.set_cons_zero]
  refine lexC_bin (u := .string (zs 32)) (v := .string b) (by rfl) rfl rfl SQB.out (fun _ => rfl) ?_
  simp only [Act.put, List.setIfInBounds_toArray, List.set_cons_succ, List.set_cons_zero]
  refine lexC_call rfl Tryz.func19 (by kernel_rfl) rfl rfl (fun w _ => H23.out w) ?_
  simp only [Act.put, List.setIfInBounds_toArray, List.set_cons_succ, List.set_cons_zero]
  refine lexC_un (r := .bool true) (by rfl) rfl (fun _ => rfl) ?_
  simp only [Act.put, List.setIfInBounds_toArray, List.set_cons_succ, List.set_cons_zero]
  refine c_pickT (v := .bool true) (by rfl) rfl rfl ?_
  simp only [Act.put, List.setIfInBounds_toArray, List.set_cons_succ, List.set_cons_zero]
  refine lexC_move (v := .bool true) (by rfl) rfl ?_
  simp only [Act.put, List.setIfInBounds_toArray, List.set_cons_succ, List.set_cons_zero]
  refine lexC_load0 (cs := kvc kx ky) (by rfl) rfl (by repeat (first | exact List.Mem.head _ | refine List.Mem.tail _ ?_)) Tryz.underlying23 rfl (by exact key_info rfl) ?_
  simp only [Act.put, List.setIfInBounds_toArray, List.set_cons_succ, List.set_cons_zero]
  refine lexC_move (v := .string s) (by rfl) rfl ?_
  simp only [Act.put, List.setIfInBounds_toArray, List.set_cons_succ, List.set_cons_zero]
  refine lexC_move (v := .string a) (by rfl) rfl ?_
  simp only [Act.put, List.setIfInBounds_toArray, List.set_cons_succ, List.set_cons_zero]
  refine lexC_move (v := .string n) (by rfl) rfl ?_
  simp only [Act.put, List.setIfInBounds_toArray, List.set_cons_succ, List.set_cons_zero]
  refine lexC_bin (u := .string a) (v := .string n) (by rfl) rfl rfl SAN.out (fun _ => rfl) ?_
  simp only [Act.put, List.setIfInBounds_toArray, List.set_cons_succ, List.set_cons_zero]
  refine lexC_call rfl Tryz.func19 (by kernel_rfl) rfl rfl (fun w _ => H24.out w) ?_
  simp only [Act.put, List.setIfInBounds_toArray, List.set_cons_succ, List.set_cons_zero]
  refine lexC_un (r := .bool true) (by rfl) rfl (fun _ => rfl) ?_
  simp only [Act.put, List.setIfInBounds_toArray, List.set_cons_succ, List.set_cons_zero]
  refine c_pickT (v := .bool true) (by rfl) rfl rfl ?_
  simp only [Act.put, List.setIfInBounds_toArray, List.set_cons_succ, List.set_cons_zero]
  refine lexC_move (v := .bool true) (by rfl) rfl ?_
  simp only [Act.put, List.setIfInBounds_toArray, List.set_cons_succ, List.set_cons_zero]
  refine lexC_load0 (cs := kvc kx ky) (by rfl) rfl (by repeat (first | exact List.Mem.head _ | refine List.Mem.tail _ ?_)) Tryz.underlying23 rfl (by exact key_info rfl) ?_
  simp only [Act.put, List.setIfInBounds_toArray, List.set_cons_succ, List.set_cons_zero]
  refine lexC_move (v := .string s) (by rfl) rfl ?_
  simp only [Act.put, List.setIfInBounds_toArray, List.set_cons_succ, List.set_cons_zero]
  refine lexC_move (v := .string n) (by rfl) rfl ?_
  simp only [Act.put, List.setIfInBounds_toArray, List.set_cons_succ, List.set_cons_zero]
  refine lexC_move (v := .string b) (by rfl) rfl ?_
  simp only [Act.put, List.setIfInBounds_toArray, List.set_cons_succ, List.set_cons_zero]
  refine lexC_bin (u := .string n) (v := .string b) (by rfl) rfl rfl SNB.out (fun _ => rfl) ?_
  simp only [Act.put, List.setIfInBounds_toArray, List.set_cons_succ, List.set_cons_zero]
  refine lexC_call rfl Tryz.func19 (by kernel_rfl) rfl rfl (fun w _ => H25.out w) ?_
  simp only [Act.put, List.setIfInBounds_toArray, List.set_cons_succ, List.set_cons_zero]
  refine lexC_un (r := .bool true) (by rfl) rfl (fun _ => rfl) ?_
  simp only [Act.put, List.setIfInBounds_toArray, List.set_cons_succ, List.set_cons_zero]
  refine c_pickT (v := .bool true) (by rfl) rfl rfl ?_
  simp only [Act.put, List.setIfInBounds_toArray, List.set_cons_succ, List.set_cons_zero]
  refine lexC_move (v := .bool true) (by rfl) rfl ?_
  simp only [Act.put, List.setIfInBounds_toArray, List.set_cons_succ, List.set_cons_zero]
  refine lexC_build (cs := zkey) (by rfl) (by exact built_key0) ?_
  simp only [Act.put, List.setIfInBounds_toArray, List.set_cons_succ, List.set_cons_zero]
  refine lexC_move (v := .string s) (by rfl) rfl ?_
  simp only [Act.put, List.setIfInBounds_toArray, List.set_cons_succ, List.set_cons_zero]
  refine lexC_move (v := .string a) (by rfl) rfl ?_
  simp only [Act.put, List.setIfInBounds_toArray, List.set_cons_succ, List.set_cons_zero]
  refine lexC_move (v := .string b) (by rfl) rfl ?_
  simp only [Act.put, List.setIfInBounds_toArray, List.set_cons_succ, List.set_cons_zero]
  refine lexC_bin (u := .string a) (v := .string b) (by rfl) rfl rfl SAB.out (fun _ => rfl) ?_
  simp only [Act.put, List.setIfInBounds_toArray, List.set_cons_succ, List.set_cons_zero]
  refine lexC_call rfl Tryz.func19 (by kernel_rfl) rfl rfl (fun w _ => H26.out w) ?_
  simp only [Act.put, List.setIfInBounds_toArray, List.set_cons_succ, List.set_cons_zero]
  refine lexC_un (r := .bool true) (by rfl) rfl (fun _ => rfl) ?_
  simp only [Act.put, List.setIfInBounds_toArray, List.set_cons_succ, List.set_cons_zero]
  refine c_pickT (v := .bool true) (by rfl) rfl rfl ?_
  simp only [Act.put, List.setIfInBounds_toArray, List.set_cons_succ, List.set_cons_zero]
  refine lexC_zero ?_; simp only [List.take_succ_cons, List.take_zero, List.drop_succ_cons, List.drop_zero]; (repeat (first | (refine aN_cons (by rfl) ?_; intro g; simp only [Act.put, List.setIfInBounds_toArray, List.set_cons_succ, List.set_cons_zero]) | (refine afterAl_skip (by rfl) ?_))); refine afterAl_nil ?_; intro w1 hR
  go_wp2_with fail
  go_ret
  exact ⟨rfl, Rws.below (by assumption)⟩
end Go.Proofs.YtaggpodckafbgaaGreatDoor
