/- RsaMasks: for every input true. -/
import Derived.Test.YtjkjlbchbbpmaaaGreatDoorZTFixed
import Derived.IntWalk
namespace Go.Proofs.YtjkjlbchbbpmaaaGreatDoor
open Go.RowKit

section
variable {B : Nat} {w0 ws : World} {L : List (Nat × Array Value × TypeId)} {full : List Oper} {a0 : Act} {K : Act → World → Prop} {n : Nat} {l : List Oper} {o : Oper} {Γ : Env}
theorem g_cutv {x y : Operand} {s r : ByteArray} {v : Value} (ho : o.op = .slice 9 x (some y) none none) (hx : Has ws a0 Γ x (Is (.string s))) (hy : Has ws a0 Γ y (Is v)) (hr : ∀ w, (Instr.sliceAt 9 (.string s) (some v) none none).run Tryz.prog w = .ok (.string r) w)
    (h : softG Tryz.prog B w0 ws L full a0 K n l ((o.dst, Is (.string r)) :: Γ)) (hlv : Live full ws a0 Γ o := by first | exact Or.inl rfl | exact live_of rfl rfl (fun _ _ _ h => h)) : softG Tryz.prog B w0 ws L full a0 K (n + 1) (o :: l) Γ :=
  g_two (x := x) (y := y) (u := v) (by rw [ho]; exact Array.mem_def.2 (List.Mem.head _)) (by rw [ho]; exact Array.mem_def.2 (List.Mem.tail _ (List.Mem.head _))) hx hy (fun w e h1 h2 => by
    unfold execOp
    simp only [ho, h1, Option.map_none, Option.map_some, h2]
    rw [Sem.run_bind, hr w]
    rfl) h hlv
end
theorem run_neqs {a b : ByteArray} (h : (a.toList == b.toList) = true) (W : World) : (binOp .neq 9 (.string a) (.string b)).run Tryz.prog W = .ok (.bool false) W := by
  have h1 : (binOp .neq 9 (.string a) (.string b)).run Tryz.prog W = .ok (.bool (!(a.toList == b.toList))) W := rfl
  rw [h1, h]; rfl
theorem run_neqi (a b : Int) (h : a = b) (W : World) : (binOp .neq 3 (.int .i64 a) (.int .i64 b)).run Tryz.prog W = .ok (.bool false) W := by
  subst h
  simp [binOp, go_sem]

theorem run_subD (M D : Nat) (m n : Int) (hm : m = (M : Int)) (hn : n = ((M + D : Nat) : Int)) (h : M + D ≤ 512) (W : World) : (binOp .sub 3 (.int .i64 n) (.int .i64 m)).run Tryz.prog W = .ok (.int .i64 (D : Int)) W := by
  have e : n - m = (D : Int) := by omega
  have h1 : (binOp .sub 3 (.int .i64 n) (.int .i64 m)).run Tryz.prog W = .ok (.int .i64 (IntKind.i64.wrap (n - m))) W := by simp [binOp, go_sem]
  rw [h1, e, IntWalk.i64_in _ (by omega)]
theorem run_addD (M D : Nat) (h : M + D ≤ 512) (W : World) : (binOp .add 3 (.int .i64 (D : Int)) (.int .i64 2)).run Tryz.prog W = .ok (.int .i64 ((D + 2 : Nat) : Int)) W := by
  have h1 : (binOp .add 3 (.int .i64 (D : Int)) (.int .i64 2)).run Tryz.prog W = .ok (.int .i64 (IntKind.i64.wrap ((D : Int) + 2))) W := by simp [binOp, go_sem]
  rw [h1, IntWalk.i64_in _ (by omega)]; rfl

set_option maxRecDepth 100000 in
/-- Out of bounds. -/
theorem masks_out (s : ByteArray) (m n : Int) (w : World) (h : m < 0 ∨ n < m ∨ 512 < n) (h0 : ∀ w : World, Calls Tryz.prog 10 #[] w fun e w' => e = .returned (.bool true) ∧ Below w.heap.size w w') :
    Calls Tryz.prog 6 #[.string s, .int .i64 m, .int .i64 n] w fun r w' => r = .returned (.bool true) ∧ Below w.heap.size w w' := by
  have H0 := Lib.hid h0
  clear h0
  by_cases hm : m < 0
  · clear h
    go_enter Tryz.func6, Tryz.ntmps6
    go_wp2_with fail
    refine (H0.out _).mono ?_
    rintro r w1 ⟨rfl, hb⟩
    go_wp2_with fail
    go_ret
    exact ⟨rfl, hb⟩
  · by_cases hn : n < m
    · clear h
      go_enter Tryz.func6, Tryz.ntmps6
      go_wp2_with fail
      refine (H0.out _).mono ?_
      rintro r w1 ⟨rfl, hb⟩
      go_wp2_with fail
      go_ret
      exact ⟨rfl, hb⟩
    · have h5 : 512 < n := by omega
      clear h
      go_enter Tryz.func6, Tryz.ntmps6
      go_wp2_with fail
      refine (H0.out _).mono ?_
      rintro r w1 ⟨rfl, hb⟩
      go_wp2_with fail
      go_ret
      exact ⟨rfl, hb⟩

theorem str_drop (l : List UInt8) (k : Nat) : (ByteArray.mk l.toArray).extract k (ByteArray.mk l.toArray).size = ⟨(l.drop k).toArray⟩ := by
  rw [str_size]
  apply ByteArray.ext
  simp only [ByteArray.data_extract, List.extract_toArray, List.extract_eq_take_drop]
  rw [List.take_of_length_le (by rw [List.length_drop]; omega)]
theorem block_drop (s : ByteArray) (M D : Nat) (h : 54 ≤ M) : (blockL s (M + D)).drop (D + 2) = (blockL s M).drop 2 := by
  unfold blockL
  generalize (0 :: rsInfo ++ (sha s).data.toList) = T
  show List.drop D (List.replicate (M + D - 54) 255 ++ T) = List.replicate (M - 54) 255 ++ T
  rw [List.drop_append_of_le_length (by simp; omega), List.drop_replicate, show M + D - 54 - D = M - 54 by omega]
theorem block_ff (s : ByteArray) (M D i : Nat) (h : 54 ≤ M) (h2 : 2 ≤ i) (hi : i < D + 2) : (blockL s (M + D)).getD i 0 = 255 := by
  unfold blockL
  rw [List.getD_eq_getElem?_getD, List.append_assoc, List.getElem?_append_right (by simpa using h2), List.getElem?_append_left (by simp; omega)]
  simp only [List.length_cons, List.length_nil]
  rw [List.getElem?_replicate, if_pos (by omega)]; rfl

set_option maxRecDepth 100000 in
set_option maxHeartbeats 3200000 in
/-- Within bounds. -/
theorem masks_in (s a b x y : ByteArray) (M D : Nat) (m n : Int) (c d : Int) (w : World) (hm : m = (M : Int)) (hn : n = ((M + D : Nat) : Int)) (hmx : M + D ≤ 512) (h0 : ∀ w : World, Calls Tryz.prog 10 #[] w fun e w' => e = .returned (.bool true) ∧ Below w.heap.size w w')
    (h1 : ∀ w : World, Calls Tryz.prog 16 #[.string s, .int .i64 m] w fun r w' => r = .returned (.tuple #[.string a, .int .i64 0]) ∧ Below w.heap.size w w')
    (h2 : ∀ w : World, Calls Tryz.prog 16 #[.string s, .int .i64 n] w fun r w' => r = .returned (.tuple #[.string b, .int .i64 0]) ∧ Below w.heap.size w w')
    (h3 : ∀ w : World, Calls Tryz.prog 14 #[.string s, .int .i64 m] w fun r w' => r = .returned (.tuple #[.string x, .int .i64 c]) ∧ Below w.heap.size w w')
    (h4 : ∀ w : World, Calls Tryz.prog 14 #[.string s, .int .i64 n] w fun r w' => r = .returned (.tuple #[.string y, .int .i64 d]) ∧ Below w.heap.size w w')
    (pa : (a.size : Int) = m) (pb : (b.size : Int) = n) (pab : ((b.extract 0 M).toList == a.toList) = true)
    (pc : M < 62 → c = 42 ∧ x = ⟨#[]⟩)
    (pd : 62 ≤ M → c = 0 ∧ d = 0 ∧ x.size = M ∧ y.size = M + D ∧ ((y.extract (D + 2) y.size).toList == (x.extract 2 x.size).toList) = true ∧ ((y.extract 0 2).toList == (⟨#[0, 1]⟩ : ByteArray).toList) = true ∧ ∀ i, 2 ≤ i → i < D + 2 → (y.data.toList.getD i 0).toNat = 255) :
    Calls Tryz.prog 6 #[.string s, .int .i64 m, .int .i64 n] w fun r w' => r = .returned (.bool true) ∧ Below w.heap.size w w' := by
  have H0 := Lib.hid h0; have H1 := Lib.hid h1; have H2 := Lib.hid h2; have H3 := Lib.hid h3; have H4 := Lib.hid h4
  have PC := Lib.hid pc; have PD := Lib.hid pd
  have hm0 : ¬ m < 0 := by omega
  have hnm : ¬ n < m := by omega
  have h5 : ¬ 512 < n := by omega
  have hmx2 : m ≤ n := by omega
  have hcut : ∀ W : World, (Instr.sliceAt 9 (.string b) none (some (.int .i64 m)) none).run Tryz.prog W = .ok (.string (b.extract 0 M)) W := fun W => by rw [hm]; exact run_cut0 b M (by omega) W
  have HM := Lib.hid hm; have HN := Lib.hid hn; have HPA := Lib.hid pa; have HPB := Lib.hid pb; have HCUT := Lib.hid hcut
  clear h0 h1 h2 h3 h4 pc pd hm hn pa pb hcut
  have hR := Rws.start w
  go_enter Tryz.func6, Tryz.ntmps6
  go_wp2_with fail
  refine (H0.out _).mono ?_
  rintro r w1 ⟨rfl, hb⟩
  have hR := hR.call hb
  clear hb
  go_wp2_with fail
  refine (H1.out _).mono ?_
  rintro r w2 ⟨rfl, hb⟩
  have hR := hR.call hb
  clear hb
  go_wp2_with fail
  refine (H2.out _).mono ?_
  rintro r w3 ⟨rfl, hb⟩
  have hR := hR.call hb
  clear hb
  have pa := HPA.out
  have pb := HPB.out
  have hcut := HCUT.out
  go_wp2_with fail
  clear pa pb hcut pab
  refine (H3.out _).mono ?_
  rintro r w4 ⟨rfl, hb⟩
  have hR := hR.call hb
  clear hb
  go_wp2_with fail
  refine (H4.out _).mono ?_
  rintro r w5 ⟨rfl, hb⟩
  have hR := hR.call hb
  clear hb
  by_cases h62 : M < 62
  · have hlt : m < 62 := by have := HM.out; omega
    obtain ⟨rfl, rfl⟩ := PC.out h62
    have hres := hR.below
    clear PC PD h62 hR
    go_wp2_with fail
    go_ret
    exact ⟨rfl, hres⟩
  · have hge : ¬ m < 62 := by have := HM.out; omega
    obtain ⟨rfl, rfl, hxs, hys, hxy, hy2, hff⟩ := PD.out (by omega)
    have HXS := Lib.hid hxs; have HYS := Lib.hid hys; have HXY := Lib.hid hxy; have HY2 := Lib.hid hy2; have HFF := Lib.hid hff
    clear PC PD hxs hys hxy hy2 hff h62
    go_wp2_with fail
    refine wp_region_softG 33 (by kernel_rfl) (by kernel_rfl) (by rfl) hR ?_
    refine g_move (by rfl) (stb_is _) (by exact fun _ _ _ h => h) ?_
    refine g_bin (r := .bool false) (by rfl) (by exact fun _ _ _ h => h) (by exact fun _ _ _ h => h) (by rfl) (fun _ => rfl) ?_
    refine g_move (by rfl) (stb_is _) (by exact fun _ _ _ h => h) ?_
    refine g_move (by rfl) (stb_is _) (by exact fun _ _ _ h => h) ?_
    refine g_bin (r := .bool false) (by rfl) (by exact fun _ _ _ h => h) (by exact fun _ _ _ h => h) (by rfl) (fun _ => rfl) ?_
    refine g_pick (by rfl) (by exact fun _ _ _ h => h) (stb_is _) (by exact fun _ _ _ h => h) ?_
    refine g_move (by rfl) (stb_is _) (by exact fun _ _ _ h => h) ?_
    refine g_move (by rfl) (stb_is _) (by exact fun _ _ _ h => h) ?_
    refine g_len (by rfl) (by exact fun _ _ _ h => h) rfl ?_
    refine g_move (by rfl) (stb_is _) (by exact fun _ _ _ h => h) ?_
    refine g_bin (r := .bool false) (by rfl) (by exact fun _ _ _ h => h) (by exact fun _ _ _ h => h) (by rfl) (run_neqi _ _ (by rw [HXS.out, HM.out])) ?_
    refine g_pick (by rfl) (by exact fun _ _ _ h => h) (stb_is _) (by exact fun _ _ _ h => h) ?_
    refine g_move (by rfl) (stb_is _) (by exact fun _ _ _ h => h) ?_
    refine g_move (by rfl) (stb_is _) (by exact fun _ _ _ h => h) ?_
    refine g_len (by rfl) (by exact fun _ _ _ h => h) rfl ?_
    refine g_move (by rfl) (stb_is _) (by exact fun _ _ _ h => h) ?_
    refine g_bin (r := .bool false) (by rfl) (by exact fun _ _ _ h => h) (by exact fun _ _ _ h => h) (by rfl) (run_neqi _ _ (by rw [HYS.out, HN.out])) ?_
    refine g_pick (by rfl) (by exact fun _ _ _ h => h) (stb_is _) (by exact fun _ _ _ h => h) ?_
    refine g_move (by rfl) (stb_is _) (by exact fun _ _ _ h => h) ?_
    refine g_move (by rfl) (stb_is _) (by exact fun _ _ _ h => h) ?_
    refine g_move (by rfl) (stb_is _) (by exact fun _ _ _ h => h) ?_
    refine g_move (by rfl) (stb_is _) (by exact fun _ _ _ h => h) ?_
    refine g_bin (r := .int .i64 (D : Int)) (by rfl) (by exact fun _ _ _ h => h) (by exact fun _ _ _ h => h) (by rfl) (fun W => run_subD M D m n HM.out HN.out hmx W) ?_
    refine g_bin (r := .int .i64 ((D + 2 : Nat) : Int)) (by rfl) (by exact fun _ _ _ h => h) (by exact fun _ _ _ h => h) (by rfl) (fun W => run_addD M D hmx W) ?_
    refine g_cutv (r := y.extract (D + 2) y.size) (by rfl) (by exact fun _ _ _ h => h) (by exact fun _ _ _ h => h) (fun w => run_cut1 y (D + 2) (by have := HYS.out; have := HXS.out; have := HM.out; omega) w) ?_
    refine g_move (by rfl) (stb_is _) (by exact fun _ _ _ h => h) ?_
    refine g_cutl (r := x.extract 2 x.size) (by rfl) (by exact fun _ _ _ h => h) (fun w => run_cut1 x 2 (by have := HXS.out; have := HM.out; omega) w) ?_
    refine g_bin (v := .string (y.extract (D + 2) y.size)) (u := .string (x.extract 2 x.size)) (r := .bool false) (by rfl) (by exact fun _ _ _ h => h) (by exact fun _ _ _ h => h) (by rfl) (run_neqs HXY.out) ?_
    refine g_pick (by rfl) (by exact fun _ _ _ h => h) (stb_is _) (by exact fun _ _ _ h => h) ?_
    refine g_move (by rfl) (stb_is _) (by exact fun _ _ _ h => h) ?_
    refine g_move (by rfl) (stb_is _) (by exact fun _ _ _ h => h) ?_
    refine g_cuth (r := y.extract 0 2) (by rfl) (by exact fun _ _ _ h => h) (fun w => run_cut0 y 2 (by have := HYS.out; have := HXS.out; have := HM.out; omega) w) ?_
    refine g_bin (v := .string (y.extract 0 2)) (u := .string ⟨#[0, 1]⟩) (r := .bool false) (by rfl) (by exact fun _ _ _ h => h) (by exact fun _ _ _ h => h) (by rfl) (run_neqs HY2.out) ?_
    intro w9 hR9 hb9
    iterate 33 (intro v hv; (try (obtain rfl : v = _ := hv)); (try clear hv))
    simp only [softEnd, Act.put, List.setIfInBounds_toArray, List.set_cons_succ, List.set_cons_zero, List.drop_succ_cons, List.drop_zero]
    have hres := hR9.below
    clear hR9 hb9 hR
    go_wp2_with fail
    have hsum : n - m + 2 = ((D + 2 : Nat) : Int) := by have := HM.out; have := HN.out; omega
    have HSUM := Lib.hid hsum
    clear hsum
    go_loop [13] (fun v => ∃ i : Nat, 2 ≤ i ∧ i ≤ D + 2 ∧ v = .int .i64 i) (fun v => D + 2 - (intOf v).toNat)
    case atStart => exact ⟨2, by omega, by omega, rfl⟩
    case round =>
      obtain ⟨i, hi2, hi, rfl⟩ := hrel
      by_cases hlt : i < D + 2
      · have hlt2 : (i : Int) < n - m + 2 := by have := HSUM.out; omega
        have hix : ∀ W : World, (Instr.index 9 (.string y) (.int .i64 (i : Int))).run Tryz.prog W = .ok (.int .u8 255) W := fun W => by
          rw [str_index y i (by have := HYS.out; have := HXS.out; have := HM.out; omega) W, HFF.out i hi2 hlt]; rfl
        go_wp2_with fail
        go_round
        case rel => exact ⟨i + 1, by omega, by omega, by go_num⟩
        case measure => simp [intOf]; omega
      · have hge2 : ¬ (i : Int) < n - m + 2 := by have := HSUM.out; omega
        go_wp2_with fail
        go_ret
        exact ⟨rfl, hres⟩

theorem masksLaw_any (s : ByteArray) (m n : Int) (w : World) (hs : s.size ≤ 140737488351232) :
    Calls Tryz.prog 6 #[.string s, .int .i64 m, .int .i64 n] w fun r w' => r = .returned (.bool true) ∧ Below w.heap.size w w' := by
  by_cases h : m < 0 ∨ n < m ∨ 512 < n
  · exact masks_out s m n w h fixed_any
  · obtain ⟨M, rfl⟩ := Int.eq_ofNat_of_zero_le (by omega : 0 ≤ m)
    obtain ⟨D, hD⟩ := Int.eq_ofNat_of_zero_le (by omega : 0 ≤ n - (M : Int))
    have hn : n = ((M + D : Nat) : Int) := by omega
    have hmx : M + D ≤ 512 := by omega
    have a1 : MaskR s (M : Int) = ((mskL s 16).take M, 0) := by unfold MaskR; rw [if_neg (by omega)]; rfl
    have a2 : MaskR s n = ((mskL s 16).take (M + D), 0) := by unfold MaskR; rw [if_neg (by omega), hn]; rfl
    have hl := mskL_length s 16
    have h1 := fun w => Mask_any s (M : Int) w hs
    have h2 := fun w => Mask_any s n w hs
    have h3 := fun w => Block_any s (M : Int) w (by omega)
    have h4 := fun w => Block_any s n w (by omega)
    rw [a1] at h1
    rw [a2] at h2
    refine masks_in s ⟨((mskL s 16).take M).toArray⟩ ⟨((mskL s 16).take (M + D)).toArray⟩ ⟨(BlockR s (M : Int)).1.toArray⟩ ⟨(BlockR s n).1.toArray⟩ M D (M : Int) n (BlockR s (M : Int)).2 (BlockR s n).2 w rfl hn hmx fixed_any h1 h2 h3 h4 ?_ ?_ ?_ ?_ ?_
    · rw [str_size, List.length_take]; omega
    · rw [str_size, List.length_take]; omega
    · rw [beq_iff_eq, str_take, List.take_take, show min M (M + D) = M by omega]
    · intro h62
      have e : BlockR s (M : Int) = ([], 42) := if_pos (Or.inl (by omega))
      rw [e]
      exact ⟨rfl, rfl⟩
    · intro h62
      have e : BlockR s (M : Int) = (blockL s M, 0) := by unfold BlockR; rw [if_neg (by omega)]; rfl
      have e2 : BlockR s n = (blockL s (M + D), 0) := by unfold BlockR; rw [if_neg (by omega), hn]; rfl
      rw [e, e2]
      refine ⟨rfl, rfl, ?_, ?_, ?_, ?_, ?_⟩
      · rw [str_size]; exact blockL_length s M (by omega)
      · rw [str_size]; exact blockL_length s (M + D) (by omega)
      · rw [beq_iff_eq, str_drop, str_drop]
        show (ByteArray.mk ((blockL s (M + D)).drop (D + 2)).toArray).toList = (ByteArray.mk ((blockL s M).drop 2).toArray).toList
        rw [block_drop s M D (by omega)]
      · rw [beq_iff_eq, str_take]; rfl
      · intro i h2 hi
        show ((blockL s (M + D)).getD i 0).toNat = 255
        rw [block_ff s M D i (by omega) h2 hi]; rfl
end Go.Proofs.YtjkjlbchbbpmaaaGreatDoor
