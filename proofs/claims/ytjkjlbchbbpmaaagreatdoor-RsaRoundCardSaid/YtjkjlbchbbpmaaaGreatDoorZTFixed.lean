/- fixed of the law (layer 4): the walk. -/
import Derived.Test.YtjkjlbchbbpmaaaGreatDoorZX4
import Derived.Test.YtjkjlbchbbpmaaaGreatDoorZX2
import Derived.Test.YtjkjlbchbbpmaaaGreatDoorZSMask
namespace Go.Proofs.YtjkjlbchbbpmaaaGreatDoor
open Go.RowKit

/-- The first known key may be. -/
theorem fm_of (s : ByteArray) (h : s.data.toList.head? ≠ some 0) : fm (nv s) = s.data.toList := fm_bv _ (Or.inr h)
theorem keyOk_of {n e : ByteArray} (h1 : n.data.toList.head? ≠ some 0) (h3 : e.data.toList.head? ≠ some 0) (h5 : nv n % 2 = 1) (h6 : nv e % 2 = 1)
    {a b : Nat} (ha : a = 2 ^ 511) (hb : b = 2 ^ 2048) (h7 : a ≤ nv n) (h8 : nv n < b) (h9 : 2 ≤ nv e) (h10 : nv e < 4294967296) : KeyOk n e := by
  have e1 := Dg.len_le_iff (B := 2) (by omega) (nv n) 511
  have e2 := Dg.len_le_iff (B := 2) (by omega) (nv n) 2048
  have e3 := Dg.len_le_iff (B := 2) (by omega) (nv e) 1
  have e4 := Dg.len_le_iff (B := 2) (by omega) (nv e) 32
  rw [← ha] at e1
  rw [← hb] at e2
  refine ⟨⟨fm_of n h1, h5⟩, ⟨fm_of e h3, h6⟩, ?_, e2.2 h8, ?_, e4.2 h10⟩
  · show 512 ≤ Dg.len 2 (nv n)
    omega
  · show 2 ≤ Dg.len 2 (nv e)
    omega
theorem keyOk_known : ∀ r, r < 5 → KeyOk (kb r 0) (kb r 1) := by
  intro r hr
  rcases (by omega : r = 0 ∨ r = 1 ∨ r = 2 ∨ r = 3 ∨ r = 4) with rfl | rfl | rfl | rfl | rfl <;>
    exact keyOk_of (by decide +kernel) (by decide +kernel) (by decide +kernel) (by decide +kernel) rfl rfl (by decide +kernel) (by decide +kernel) (by decide +kernel) (by decide +kernel)

/-- So many bytes 0. -/
def zs (n : Nat) : ByteArray := ⟨(List.replicate n (0 : UInt8)).toArray⟩
theorem zs_size (n : Nat) : (zs n).size = n := by unfold zs; rw [str_size]; simp
set_option maxRecDepth 100000 in
theorem run_string_zeros {w : World} {g n : Nat} (h : Own w .u8 5 g n (fun _ => 0)) :
    (convert 46 9 (.slice (some ⟨g, 0, none⟩) n n)).run Tryz.prog w = .ok (.string (zs n)) w := by
  have hr := run_convert_bytes_arg w 46 5 Tryz.underlying46 Tryz.underlying5 g 0 n n (List.replicate n (0 : Int)) (by simp) (fun i hi => by
      have hi' : i < n := by simpa using hi
      rw [Nat.zero_add, h.cell i hi']
      simp [List.getD, hi']) 9 Tryz.underlying9
  rw [hr]
  congr 2
  unfold strOfNums zs
  simp
/-- 63 bytes 0, as 'make' lays them. -/
def z63 : Array Value := madeCells #[.int .u8 0] 63
set_option maxRecDepth 100000 in
theorem run_make63 (u : World) : (Instr.makeSlice 46 (.int .i64 63) (.int .i64 63)).run Tryz.prog u = .ok (.slice (some ⟨u.heap.size, 0, none⟩) 63 63) (u.alloc (.cells z63 5)) := by
  obtain ⟨i0, hi, hz0, hz1, hz2⟩ := info_parts info8
  have h := run_make (P := Tryz.prog) u 46 5 i0 (.int .u8 0) Tryz.underlying46 hi hz0 .i64 .i64 63 63 (by omega) (Int.le_refl _) (by rw [hz2]; omega) (by omega)
  simpa [hz1, Value.cells, z63] using h
def Z63 : Prd := fun w v => ∃ g, v = .slice (some ⟨g, 0, none⟩) 63 63 ∧ w.heap[g]? = some (.cells z63 5 (0, 0))
theorem stb_z63 : Stb Z63 := fun w _ _ hb ⟨g, hx, hg⟩ => ⟨g, hx, by rw [hb.block g (by have := (Array.getElem?_eq_some_iff.1 hg).1; omega)]; exact hg⟩
set_option maxRecDepth 100000 in
theorem run_string63 (u : World) (v : Value) (h : Z63 u v) :
    (convert 46 9 v).run Tryz.prog u = .ok (.string (zs 63)) u := by
  obtain ⟨g, rfl, h⟩ := h
  refine run_string_zeros (g := g) (n := 63) ⟨z63, h, ?_, by omega, fun j hj => ?_⟩
  · simp [z63, madeCells]
  · rw [← Array.getElem?_toList, z63, toList_madeCells_one, List.getElem?_replicate, if_pos hj]; rfl
theorem run_cut0 (b : ByteArray) (k : Nat) (h : k ≤ b.size) (W : World) : (Instr.sliceAt 9 (.string b) none (some (.int .i64 (k : Int))) none).run Tryz.prog W = .ok (.string (b.extract 0 k)) W := by
  simp [Instr.sliceAt, run_underlying Tryz.underlying9, go_sem]
  intro h2; omega
theorem run_cut1 (b : ByteArray) (k : Nat) (h : k ≤ b.size) (W : World) : (Instr.sliceAt 9 (.string b) (some (.int .i64 (k : Int))) none none).run Tryz.prog W = .ok (.string (b.extract k b.size)) W := by
  simp [Instr.sliceAt, run_underlying Tryz.underlying9, go_sem]
  intro h2; omega

section
variable {B : Nat} {w0 ws : World} {L : List (Nat × Array Value × TypeId)} {full : List Oper} {a0 : Act} {K : Act → World → Prop} {n : Nat} {l : List Oper} {o : Oper} {Γ : Env}
theorem g_len {x : Operand} {s : ByteArray} {i : Int} (ho : o.op = .call { callee := .builtin .len, args := #[x], argTypes := #[9] }) (hx : Has ws a0 Γ x (Is (.string s))) (hs : (s.size : Int) = i)
    (h : softG Tryz.prog B w0 ws L full a0 K n l ((o.dst, Is (.int .i64 i)) :: Γ)) (hlv : Live full ws a0 Γ o := by first | exact Or.inl rfl | exact live_of rfl rfl (fun _ _ _ h => h)) : softG Tryz.prog B w0 ws L full a0 K (n + 1) (o :: l) Γ :=
  g_one (x := x) (A := Is (.string s)) (by rw [ho]; exact Array.mem_singleton_self x) hx (fun w e _ he => by
    have he : e x = .string s := he
    rw [← hs]
    unfold execOp
    simp only [ho, resolve]
    simp [he, go_sem, invoke]) h hlv
theorem g_cuth {x : Operand} {s r : ByteArray} {v : Value} (ho : o.op = .slice 9 x none (some (.const v)) none) (hx : Has ws a0 Γ x (Is (.string s))) (hr : ∀ w, (Instr.sliceAt 9 (.string s) none (some v) none).run Tryz.prog w = .ok (.string r) w)
    (h : softG Tryz.prog B w0 ws L full a0 K n l ((o.dst, Is (.string r)) :: Γ)) (hlv : Live full ws a0 Γ o := by first | exact Or.inl rfl | exact live_of rfl rfl (fun _ _ _ h => h)) : softG Tryz.prog B w0 ws L full a0 K (n + 1) (o :: l) Γ :=
  g_two (x := x) (y := .const v) (u := v) (by rw [ho]; exact Array.mem_def.2 (List.Mem.head _)) (by rw [ho]; exact Array.mem_def.2 (List.Mem.tail _ (List.Mem.head _))) hx (by exact fun _ _ _ h => h) (fun w e h1 h2 => by
    unfold execOp
    simp only [ho, h1, Option.map_none, Option.map_some, h2]
    rw [Sem.run_bind, hr w]
    rfl) h hlv
theorem g_cutl {x : Operand} {s r : ByteArray} {v : Value} (ho : o.op = .slice 9 x (some (.const v)) none none) (hx : Has ws a0 Γ x (Is (.string s))) (hr : ∀ w, (Instr.sliceAt 9 (.string s) (some v) none none).run Tryz.prog w = .ok (.string r) w)
    (h : softG Tryz.prog B w0 ws L full a0 K n l ((o.dst, Is (.string r)) :: Γ)) (hlv : Live full ws a0 Γ o := by first | exact Or.inl rfl | exact live_of rfl rfl (fun _ _ _ h => h)) : softG Tryz.prog B w0 ws L full a0 K (n + 1) (o :: l) Γ :=
  g_two (x := x) (y := .const v) (u := v) (by rw [ho]; exact Array.mem_def.2 (List.Mem.head _)) (by rw [ho]; exact Array.mem_def.2 (List.Mem.tail _ (List.Mem.head _))) hx (by exact fun _ _ _ h => h) (fun w e h1 h2 => by
    unfold execOp
    simp only [ho, h1, Option.map_none, Option.map_some, h2]
    rw [Sem.run_bind, hr w]
    rfl) h hlv
theorem g_make63 (ho : o.op = .makeSlice 46 (.const (.int .i64 63)) (.const (.int .i64 63)))
    (h : softG Tryz.prog B w0 ws L full a0 K n l ((o.dst, Z63) :: Γ)) (hlv : Live full ws a0 Γ o := by first | exact Or.inl rfl | exact live_of rfl rfl (fun _ _ _ h => h)) : softG Tryz.prog B w0 ws L full a0 K (n + 1) (o :: l) Γ :=
  g_any stb_z63 (fun w e _ _ hat => by
    have he : e (.const (.int .i64 63)) = .int .i64 63 := hat (.const (.int .i64 63)) (by
      rw [ho]
      exact Array.mem_def.2 (List.Mem.head _))
    unfold execOp
    simp only [ho, he]
    rw [Sem.run_bind, run_make63]
    exact ⟨⟨_, rfl, heap_alloc_new w _⟩, (Below.refl _ _).alloc (Nat.le_refl _) _⟩) h hlv
theorem g_convA {t1 t2 : TypeId} {x : Operand} {A : Prd} {r : Value} (ho : o.op = .convert t1 t2 x) (hx : Has ws a0 Γ x A) (hc : ∀ w v, A w v → (convert t1 t2 v).run Tryz.prog w = .ok r w)
    (h : softG Tryz.prog B w0 ws L full a0 K n l ((o.dst, Is r) :: Γ)) (hlv : Live full ws a0 Γ o := by first | exact Or.inl rfl | exact live_of rfl rfl (fun _ _ _ h => h)) : softG Tryz.prog B w0 ws L full a0 K (n + 1) (o :: l) Γ :=
  g_one (x := x) (by rw [ho]; exact Array.mem_singleton_self x) hx (fun w e _ he => by
    unfold execOp
    simp only [ho]
    rw [Sem.run_bind, hc w _ he]
    rfl) h hlv
theorem g_extract {x : Operand} {i : Nat} {cs : Array Value} {v : Value} (ho : o.op = .extract x i) (hx : Has ws a0 Γ x (Is (.tuple cs))) (hr : ∀ w, (Instr.extract (.tuple cs) i).run Tryz.prog w = .ok v w)
    (h : softG Tryz.prog B w0 ws L full a0 K n l ((o.dst, Is v) :: Γ)) (hlv : Live full ws a0 Γ o := by first | exact Or.inl rfl | exact live_of rfl rfl (fun _ _ _ h => h)) : softG Tryz.prog B w0 ws L full a0 K (n + 1) (o :: l) Γ :=
  g_one (x := x) (A := Is (.tuple cs)) (by rw [ho]; exact Array.mem_singleton_self x) hx (fun w e _ he => by
    have he : e x = .tuple cs := he
    unfold execOp
    simp only [ho, he]
    rw [Sem.run_bind, hr w]
    rfl) h hlv
/-- A struct of two texts, written out. -/
theorem g_build2 {t : TypeId} {u v : Value} {cs : Array Value} (ho : o.op = .build t #[(0, .const u), (1, .const v)]) (hb : Tryz.prog.built t [(0, u), (1, v)] = some cs)
    (h : softG Tryz.prog B w0 ws L full a0 K n l ((o.dst, Is (.agg cs)) :: Γ)) (hlv : Live full ws a0 Γ o := by first | exact Or.inl rfl | exact live_of rfl rfl (fun _ _ _ h => h)) : softG Tryz.prog B w0 ws L full a0 K (n + 1) (o :: l) Γ :=
  g_two (x := .const u) (y := .const v) (v := u) (u := v) (by rw [ho]; exact Array.mem_def.2 (List.Mem.head _)) (by rw [ho]; exact Array.mem_def.2 (List.Mem.tail _ (List.Mem.head _))) (by exact fun _ _ _ h => h) (by exact fun _ _ _ h => h) (fun w e h1 h2 => by
    have h3 : (Instr.build t #[(0, u), (1, v)]).run Tryz.prog w = .ok (.agg cs) w := run_build w t _ cs (by simpa using hb)
    unfold execOp
    simp only [ho]
    have h4 : (Instr.build t ((#[(0, .const u), (1, .const v)] : Array (Nat × Operand)).map fun p => (p.1, e p.2))).run Tryz.prog w = .ok (.agg cs) w := by
      rw [← h3]; simp [h1, h2]
    rw [Sem.run_bind, h4]
    rfl) h hlv
end

set_option maxRecDepth 100000 in
set_option maxHeartbeats 3200000 in
theorem fixed_core (b m x sa q0 q1 q2 q3 q4 q5 q6 : ByteArray) (w : World)
    (h1 : ∀ w : World, Calls Tryz.prog 14 #[.string (⟨#[97, 98, 99]⟩ : ByteArray), .int .i64 62] w fun e w' => e = .returned (.tuple #[.string b, .int .i64 0]) ∧ Below w.heap.size w w')
    (h2 : ∀ w : World, Calls Tryz.prog 14 #[.string (⟨#[97, 98, 99]⟩ : ByteArray), .int .i64 61] w fun e w' => e = .returned (.tuple #[.string ⟨#[]⟩, .int .i64 42]) ∧ Below w.heap.size w w')
    (h3 : ∀ w : World, Calls Tryz.prog 16 #[.string (⟨#[102, 111, 111]⟩ : ByteArray), .int .i64 3] w fun e w' => e = .returned (.tuple #[.string m, .int .i64 0]) ∧ Below w.heap.size w w')
    (h4 : ∀ w : World, Calls Tryz.prog 16 #[.string ⟨#[]⟩, .int .i64 (-1)] w fun e w' => e = .returned (.tuple #[.string ⟨#[]⟩, .int .i64 42]) ∧ Below w.heap.size w w')
    (h5 : ∀ w : World, Calls Tryz.prog 26 #[.string (⟨#[102, 111, 111, 0, 0, 0, 0]⟩ : ByteArray)] w fun e w' => e = .returned (.string x) ∧ Below w.heap.size w w')
    (h6 : ∀ w : World, Calls Tryz.prog 18 #[.int .i64 0] w fun e w' => e = .returned (.agg #[.string q0, .string q1, .string q2, .string q3, .string q4, .string q5, .string q6]) ∧ Below w.heap.size w w')
    (h7 : ∀ w : World, Calls Tryz.prog 12 #[.agg #[.string q0, .string q1], .string (zs 63)] w fun e w' => e = .returned (.tuple #[.string ⟨#[]⟩, .int .i64 41]) ∧ Below w.heap.size w w')
    (h8 : ∀ w : World, Calls Tryz.prog 26 #[.string (⟨#[97, 98, 99]⟩ : ByteArray)] w fun e w' => e = .returned (.string sa) ∧ Below w.heap.size w w')
    (h9 : ∀ w : World, Calls Tryz.prog 9 #[.agg #[.string q0, .string q1]] w fun e w' => e = .returned (.int .i64 0) ∧ Below w.heap.size w w')
    (h10 : ∀ w : World, Calls Tryz.prog 9 #[.agg #[.string ⟨#[15]⟩, .string ⟨#[3]⟩]] w fun e w' => e = .returned (.int .i64 40) ∧ Below w.heap.size w w')
    (p1 : (b.size : Int) = 62) (p2 : ((b.extract 0 12).toList == (⟨#[0, 1, 255, 255, 255, 255, 255, 255, 255, 255, 0, 48]⟩ : ByteArray).toList) = true) (p3 : ((b.extract 30 b.size).toList == sa.toList) = true) (p4 : (x.size : Int) = 32) (p5 : (m.toList == (x.extract 0 3).toList) = true) :
    Calls Tryz.prog 10 #[] w fun e w' => e = .returned (.bool true) ∧ Below w.heap.size w w' := by
  have H1 := Lib.hid h1
  have H2 := Lib.hid h2
  have H3 := Lib.hid h3
  have H4 := Lib.hid h4
  have H5 := Lib.hid h5
  have H6 := Lib.hid h6
  have H7 := Lib.hid h7
  have H8 := Lib.hid h8
  have H9 := Lib.hid h9
  have H10 := Lib.hid h10
  have P1 := Lib.hid p1
  have P2 := Lib.hid p2
  have P3 := Lib.hid p3
  have P4 := Lib.hid p4
  have P5 := Lib.hid p5
  clear h1 h2 h3 h4 h5 h6 h7 h8 h9 h10 p1 p2 p3 p4 p5
  have hfld : ∀ w, (Instr.field 35 (.agg #[.string q0, .string q1, .string q2, .string q3, .string q4, .string q5, .string q6]) 0).run Tryz.prog w = .ok (.agg #[.string q0, .string q1]) w := fun w => by kernel_rfl
  have hR0 := Rws.start w
  go_enter Tryz.func10, Tryz.ntmps10
  go_wp2_with fail
  refine (H1.out _).mono ?_
  rintro e w1 ⟨rfl, hb1⟩
  have hR0 := hR0.call hb1
  clear hb1
  go_wp2_with fail
  refine (H2.out _).mono ?_
  rintro e w2 ⟨rfl, hb2⟩
  have hR0 := hR0.call hb2
  clear hb2
  go_wp2_with fail
  refine (H3.out _).mono ?_
  rintro e w3 ⟨rfl, hb3⟩
  have hR0 := hR0.call hb3
  clear hb3
  go_wp2_with fail
  refine (H4.out _).mono ?_
  rintro e w4 ⟨rfl, hb4⟩
  have hR0 := hR0.call hb4
  clear hb4
  go_wp2_with fail
  refine (H5.out _).mono ?_
  rintro e w5 ⟨rfl, hb5⟩
  have hR0 := hR0.call hb5
  clear hb5
  go_wp2_with fail
  refine (H6.out _).mono ?_
  rintro e w6 ⟨rfl, hb6⟩
  have hR0 := hR0.call hb6
  clear hb6
  go_wp2_with fail
  have hR := hR0.alloc #[.string q0, .string q1] 23
  clear hR0 hfld
  refine wp_region_softG 8 (by kernel_rfl) (by kernel_rfl) (by rfl) hR ?_
  refine g_ldw (by rfl) (by exact fun _ _ _ h => h) (List.Mem.head _) Tryz.underlying23 rfl (by kernel_rfl) (stb_is _) (fun _ _ => rfl) ?_
  refine g_make63 (by rfl) ?_
  refine g_convA (A := Z63) (by rfl) (by exact fun _ _ _ h => h) run_string63 ?_
  refine g_call2 (by rfl) Tryz.func12 (by kernel_rfl) rfl (stb_is (.tuple #[.string ⟨#[]⟩, .int .i64 41])) (A := Is (.agg #[.string q0, .string q1])) (A' := Is (.string (zs 63))) (by exact fun _ _ _ h => h) (by exact fun _ _ _ h => h) (fun w v u hv hu => by obtain rfl : v = _ := hv; obtain rfl : u = _ := hu; exact (H7.out w).mono fun _ _ ⟨he, hb⟩ => ⟨_, he, rfl, hb⟩) ?_
  refine g_move (by rfl) (stb_is _) (by exact fun _ _ _ h => h) ?_
  refine g_extract (v := .string ⟨#[]⟩) (by rfl) (by exact fun _ _ _ h => h) (fun _ => rfl) ?_
  refine g_extract (v := .int .i64 41) (by rfl) (by exact fun _ _ _ h => h) (fun _ => rfl) ?_
  refine g_assign (by rfl) (stb_is _) (by exact fun _ _ _ h => h) ?_
  intro w9 hR9 hb9
  intro v33 h33 v34 h34 v35 h35 v36 h36 v32 h32 v37 h37 v38 h38 v11 h11
  obtain rfl : v11 = .string ⟨#[]⟩ := h11
  obtain rfl : v37 = .string ⟨#[]⟩ := h37
  obtain rfl : v38 = .int .i64 41 := h38
  clear h33 h34 h35 h36 h32
  simp only [softEnd, Act.put, List.setIfInBounds_toArray, List.set_cons_succ, List.set_cons_zero, List.drop_succ_cons, List.drop_zero]
  clear hR
  go_wp2_with fail
  refine wp_region_softG 59 (by kernel_rfl) (by kernel_rfl) (by rfl) hR9 ?_
  refine g_move (by rfl) (stb_is _) (by exact fun _ _ _ h => h) ?_
  refine g_len (by rfl) (by exact fun _ _ _ h => h) P1.out ?_
  refine g_bin (r := .bool true) (by rfl) (by exact fun _ _ _ h => h) (by exact fun _ _ _ h => h) (by rfl) (fun _ => rfl) ?_
  refine g_move (by rfl) (stb_is _) (by exact fun _ _ _ h => h) ?_
  refine g_move (by rfl) (stb_is _) (by exact fun _ _ _ h => h) ?_
  refine g_cuth (r := b.extract 0 12) (by rfl) (by exact fun _ _ _ h => h) (fun w => run_cut0 b 12 (by have := P1.out; omega) w) ?_
  refine g_bin (v := .string (b.extract 0 12)) (u := .string ⟨#[0, 1, 255, 255, 255, 255, 255, 255, 255, 255, 0, 48]⟩) (r := .bool true) (by rfl) (by exact fun _ _ _ h => h) (by exact fun _ _ _ h => h) (by rfl) (fun W => by rw [run_eqs, P2.out]) ?_
  refine g_pick (by rfl) (by exact fun _ _ _ h => h) (stb_is _) (by exact fun _ _ _ h => h) ?_
  refine g_move (by rfl) (stb_is _) (by exact fun _ _ _ h => h) ?_
  refine g_move (by rfl) (stb_is _) (by exact fun _ _ _ h => h) ?_
  refine g_cutl (r := b.extract 30 b.size) (by rfl) (by exact fun _ _ _ h => h) (fun w => run_cut1 b 30 (by have := P1.out; omega) w) ?_
  refine g_call1 (by rfl) Tryz.func26 (by kernel_rfl) rfl (stb_is (.string sa)) (A := Is (.string ⟨#[97, 98, 99]⟩)) (by exact fun _ _ _ h => h) (fun w v hv => by obtain rfl : v = _ := hv; exact (H8.out w).mono fun _ _ ⟨he, hb⟩ => ⟨_, he, rfl, hb⟩) ?_
  refine g_bin (v := .string (b.extract 30 b.size)) (u := .string sa) (r := .bool true) (by rfl) (by exact fun _ _ _ h => h) (by exact fun _ _ _ h => h) (by rfl) (fun W => by rw [run_eqs, P3.out]) ?_
  refine g_pick (by rfl) (by exact fun _ _ _ h => h) (stb_is _) (by exact fun _ _ _ h => h) ?_
  refine g_move (by rfl) (stb_is _) (by exact fun _ _ _ h => h) ?_
  refine g_move (by rfl) (stb_is _) (by exact fun _ _ _ h => h) ?_
  refine g_bin (r := .bool true) (by rfl) (by exact fun _ _ _ h => h) (by exact fun _ _ _ h => h) (by rfl) (fun _ => rfl) ?_
  refine g_pick (by rfl) (by exact fun _ _ _ h => h) (stb_is _) (by exact fun _ _ _ h => h) ?_
  refine g_move (by rfl) (stb_is _) (by exact fun _ _ _ h => h) ?_
  refine g_move (by rfl) (stb_is _) (by exact fun _ _ _ h => h) ?_
  refine g_bin (r := .bool true) (by rfl) (by exact fun _ _ _ h => h) (by exact fun _ _ _ h => h) (by rfl) (fun _ => rfl) ?_
  refine g_pick (by rfl) (by exact fun _ _ _ h => h) (stb_is _) (by exact fun _ _ _ h => h) ?_
  refine g_move (by rfl) (stb_is _) (by exact fun _ _ _ h => h) ?_
  refine g_move (by rfl) (stb_is _) (by exact fun _ _ _ h => h) ?_
  refine g_len (by rfl) (by exact fun _ _ _ h => h) P4.out ?_
  refine g_bin (r := .bool true) (by rfl) (by exact fun _ _ _ h => h) (by exact fun _ _ _ h => h) (by rfl) (fun _ => rfl) ?_
  refine g_pick (by rfl) (by exact fun _ _ _ h => h) (stb_is _) (by exact fun _ _ _ h => h) ?_
  refine g_move (by rfl) (stb_is _) (by exact fun _ _ _ h => h) ?_
  refine g_move (by rfl) (stb_is _) (by exact fun _ _ _ h => h) ?_
  refine g_move (by rfl) (stb_is _) (by exact fun _ _ _ h => h) ?_
  refine g_cuth (r := x.extract 0 3) (by rfl) (by exact fun _ _ _ h => h) (fun w => run_cut0 x 3 (by have := P4.out; omega) w) ?_
  refine g_bin (v := .string m) (u := .string (x.extract 0 3)) (r := .bool true) (by rfl) (by exact fun _ _ _ h => h) (by exact fun _ _ _ h => h) (by rfl) (fun W => by rw [run_eqs, P5.out]) ?_
  refine g_pick (by rfl) (by exact fun _ _ _ h => h) (stb_is _) (by exact fun _ _ _ h => h) ?_
  refine g_move (by rfl) (stb_is _) (by exact fun _ _ _ h => h) ?_
  refine g_move (by rfl) (stb_is _) (by exact fun _ _ _ h => h) ?_
  refine g_bin (r := .bool true) (by rfl) (by exact fun _ _ _ h => h) (by exact fun _ _ _ h => h) (by rfl) (fun _ => rfl) ?_
  refine g_pick (by rfl) (by exact fun _ _ _ h => h) (stb_is _) (by exact fun _ _ _ h => h) ?_
  refine g_move (by rfl) (stb_is _) (by exact fun _ _ _ h => h) ?_
  refine g_move (by rfl) (stb_is _) (by exact fun _ _ _ h => h) ?_
  refine g_bin (r := .bool true) (by rfl) (by exact fun _ _ _ h => h) (by exact fun _ _ _ h => h) (by rfl) (fun _ => rfl) ?_
  refine g_pick (by rfl) (by exact fun _ _ _ h => h) (stb_is _) (by exact fun _ _ _ h => h) ?_
  refine g_move (by rfl) (stb_is _) (by exact fun _ _ _ h => h) ?_
  refine g_move (by rfl) (stb_is _) (by exact fun _ _ _ h => h) ?_
  refine g_bin (r := .bool true) (by rfl) (by exact fun _ _ _ h => h) (by exact fun _ _ _ h => h) (by rfl) (fun _ => rfl) ?_
  refine g_pick (by rfl) (by exact fun _ _ _ h => h) (stb_is _) (by exact fun _ _ _ h => h) ?_
  refine g_move (by rfl) (stb_is _) (by exact fun _ _ _ h => h) ?_
  refine g_ldw (by rfl) (by exact fun _ _ _ h => h) (List.Mem.head _) Tryz.underlying23 rfl (by kernel_rfl) (stb_is _) (fun _ _ => rfl) ?_
  refine g_call1 (by rfl) Tryz.func9 (by kernel_rfl) rfl (stb_is (.int .i64 0)) (A := Is (.agg #[.string q0, .string q1])) (by exact fun _ _ _ h => h) (fun w v hv => by obtain rfl : v = _ := hv; exact (H9.out w).mono fun _ _ ⟨he, hb⟩ => ⟨_, he, rfl, hb⟩) ?_
  refine g_bin (r := .bool true) (by rfl) (by exact fun _ _ _ h => h) (by exact fun _ _ _ h => h) (by rfl) (fun _ => rfl) ?_
  refine g_pick (by rfl) (by exact fun _ _ _ h => h) (stb_is _) (by exact fun _ _ _ h => h) ?_
  refine g_move (by rfl) (stb_is _) (by exact fun _ _ _ h => h) ?_
  refine g_build2 (cs := #[.string ⟨#[15]⟩, .string ⟨#[3]⟩]) (by rfl) (by kernel_rfl) ?_
  refine g_call1 (by rfl) Tryz.func9 (by kernel_rfl) rfl (stb_is (.int .i64 40)) (A := Is (.agg #[.string ⟨#[15]⟩, .string ⟨#[3]⟩])) (by exact fun _ _ _ h => h) (fun w v hv => by obtain rfl : v = _ := hv; exact (H10.out w).mono fun _ _ ⟨he, hb⟩ => ⟨_, he, rfl, hb⟩) ?_
  refine g_bin (r := .bool true) (by rfl) (by exact fun _ _ _ h => h) (by exact fun _ _ _ h => h) (by rfl) (fun _ => rfl) ?_
  refine g_pick (by rfl) (by exact fun _ _ _ h => h) (stb_is _) (by exact fun _ _ _ h => h) ?_
  refine g_move (by rfl) (stb_is _) (by exact fun _ _ _ h => h) ?_
  refine g_pick (by rfl) (by exact fun _ _ _ h => h) (stb_is _) (by exact fun _ _ _ h => h) ?_
  refine g_move (by rfl) (stb_is _) (by exact fun _ _ _ h => h) ?_
  refine g_pick (by rfl) (by exact fun _ _ _ h => h) (stb_is _) (by exact fun _ _ _ h => h) ?_
  intro w10 hR10 hb10
  iterate 59 (intro v hv)
  obtain rfl : v = .bool true := hv
  simp only [softEnd, Act.put, List.setIfInBounds_toArray, List.set_cons_succ, List.set_cons_zero, List.drop_succ_cons, List.drop_zero]
  have hres := hR10.below
  clear hR9 hb9 hR10 hb10
  go_wp2_with fail
  go_ret
  exact ⟨rfl, hres⟩

theorem toL {a : ByteArray} {l : List UInt8} (h : a.data.toList = l) : a.toList = l := (by exact Go.ByteArray.toList_eq a : a.toList = a.data.toList).trans h
theorem fixed_any (w : World) : Calls Tryz.prog 10 #[] w fun e w' => e = .returned (.bool true) ∧ Below w.heap.size w w' := by
  have hk : KeyOk (kb 0 0) (kb 0 1) := keyOk_known 0 (by omega)
  obtain ⟨s, hs⟩ : ∃ s : ByteArray, s = ⟨#[97, 98, 99]⟩ := ⟨_, rfl⟩
  have hss : s.size = 3 := by rw [hs]; rfl
  obtain ⟨f, hf⟩ : ∃ f : ByteArray, f = ⟨#[102, 111, 111]⟩ := ⟨_, rfl⟩
  have hfs : f.size = 3 := by rw [hf]; rfl
  have hf0 : seedB f 0 = ⟨#[102, 111, 111, 0, 0, 0, 0]⟩ := by rw [hf]; rfl
  have b1 : BlockR s 62 = (blockL s 62, 0) := rfl
  have b2 : BlockR s 61 = ([], 42) := rfl
  have m1 : MaskR f 3 = ((mskL f 16).take 3, 0) := rfl
  have m2 : MaskR ⟨#[]⟩ (-1) = ([], 42) := rfl
  have o1 : OpenR (kb 0 0) (kb 0 1) (zs 63) = ([], 41) := by
    unfold OpenR
    rw [if_neg (fun h => h hk), if_pos (Or.inl (by rw [zs_size]; decide))]
  have hks : (kb 0 0).size ≤ 140737488351232 ∧ (kb 0 1).size ≤ 140737488351232 := by decide
  have hk2 : ¬ KeyOk ⟨#[15]⟩ ⟨#[3]⟩ := by
    rintro ⟨_, _, h, _⟩
    have e1 := (Dg.len_le_iff (B := 2) (by omega) (nv ⟨#[15]⟩) 4).2 (by decide)
    unfold bitsS at h
    omega
  have hmt : (mskL f 16).take 3 = (sha (seedB f 0)).data.toList.take 3 := by
    rw [mskL_take f (i := 16) (k := 1) (n := 3) (by omega) (by omega)]; rfl
  have hblen : (ByteArray.mk (blockL s 62).toArray).size = 62 := by rw [str_size, blockL_length s 62 (by omega)]
  have hdrop : (ByteArray.mk (blockL s 62).toArray).extract 30 62 = ⟨((blockL s 62).drop 30).toArray⟩ := by
    have h := hblen
    rw [str_size] at h
    apply ByteArray.ext
    simp only [ByteArray.data_extract, List.extract_toArray, List.extract_eq_take_drop]
    rw [List.take_of_length_le (by rw [List.length_drop]; omega)]
  have hshs : ∀ y : ByteArray, (sha y).size = 32 := fun _ => rfl
  have hres : res7 0 = #[.string (kb 0 0), .string (kb 0 1), .string (kb 0 2), .string (kb 0 3), .string (kb 0 4), .string (kb 0 5), .string (kb 0 6)] := rfl
  refine fixed_core ⟨(blockL s 62).toArray⟩ ⟨((mskL f 16).take 3).toArray⟩ (sha (seedB f 0)) (sha s) (kb 0 0) (kb 0 1) (kb 0 2) (kb 0 3) (kb 0 4) (kb 0 5) (kb 0 6) w ?_ ?_ ?_ ?_ ?_ ?_ ?_ ?_ ?_ ?_ ?_ ?_ ?_ ?_ ?_
  · intro w; have h := Block_any s 62 w (by omega); rw [b1, hs] at h; rw [hs]; exact h
  · intro w; have h := Block_any s 61 w (by omega); rw [b2, hs] at h; exact h
  · intro w; have h := Mask_any f 3 w (by omega); rw [m1, hf] at h; rw [hf]; exact h
  · intro w; have h := Mask_any ⟨#[]⟩ (-1) w (by decide); rw [m2] at h; exact h
  · intro w; have h := sum256_any (seedB f 0) (by rw [seedB_size]; omega) w; rw [hf0] at h ⊢; exact h
  · intro w; have h := known_any 0 0 (by omega) (by omega) w; rw [hres] at h; exact h
  · intro w; have h := open_any (kb 0 0) (kb 0 1) (zs 63) w hks.1 hks.2; rw [o1] at h; exact h
  · intro w; have h := sum256_any s (by omega) w; rw [hs] at h ⊢; exact h
  · intro w; have h := check_any (kb 0 0) (kb 0 1) w hks.1 hks.2; rw [if_pos hk] at h; exact h
  · intro w; have h := check_any ⟨#[15]⟩ ⟨#[3]⟩ w (by decide) (by decide); rw [if_neg hk2] at h; exact h
  · rw [hblen]; rfl
  · rw [beq_iff_eq, str_take]
    refine (toL ?_).trans (toL rfl).symm
    show (blockL s 62).take 12 = _
    unfold blockL
    rfl
  · rw [beq_iff_eq, hblen, hdrop]
    refine (toL ?_).trans (Go.ByteArray.toList_eq (sha s)).symm
    show (blockL s 62).drop 30 = (sha s).data.toList
    unfold blockL
    generalize (sha s).data.toList = X
    rfl
  · rw [hshs]; rfl
  · rw [beq_iff_eq, hmt, ← str_take]
end Go.Proofs.YtjkjlbchbbpmaaaGreatDoor
