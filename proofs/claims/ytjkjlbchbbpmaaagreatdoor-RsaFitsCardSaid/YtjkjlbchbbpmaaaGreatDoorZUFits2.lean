/- rsa.fits, of a block of the right form: the walk. -/
import Derived.Test.YtjkjlbchbbpmaaaGreatDoorZU1
import Derived.Test.YtjkjlbchbbpmaaaGreatDoorZTFixed
namespace Go.Proofs.YtjkjlbchbbpmaaaGreatDoor
open Go.RowKit

section
variable {B : Nat} {w0 ws : World} {L : List (Nat × Array Value × TypeId)} {full : List Oper} {a0 : Act} {K : Act → World → Prop} {n : Nat} {l : List Oper} {o : Oper} {Γ : Env}
theorem g_cuthv {x y : Operand} {s r : ByteArray} {v : Value} (ho : o.op = .slice 9 x none (some y) none) (hx : Has ws a0 Γ x (Is (.string s))) (hy : Has ws a0 Γ y (Is v)) (hr : ∀ w, (Instr.sliceAt 9 (.string s) none (some v) none).run Tryz.prog w = .ok (.string r) w)
    (h : softG Tryz.prog B w0 ws L full a0 K n l ((o.dst, Is (.string r)) :: Γ)) (hlv : Live full ws a0 Γ o := by first | exact Or.inl rfl | exact live_of rfl rfl (fun _ _ _ h => h)) : softG Tryz.prog B w0 ws L full a0 K (n + 1) (o :: l) Γ :=
  g_two (x := x) (y := y) (u := v) (by rw [ho]; exact Array.mem_def.2 (List.Mem.head _)) (by rw [ho]; exact Array.mem_def.2 (List.Mem.tail _ (List.Mem.head _))) hx hy (fun w e h1 h2 => by
    unfold execOp
    simp only [ho, h1, Option.map_none, Option.map_some, h2]
    rw [Sem.run_bind, hr w]
    rfl) h hlv
theorem g_cut2v {x y z : Operand} {s r : ByteArray} {v u : Value} (ho : o.op = .slice 9 x (some y) (some z) none) (hx : Has ws a0 Γ x (Is (.string s))) (hy : Has ws a0 Γ y (Is v)) (hz : Has ws a0 Γ z (Is u)) (hr : ∀ w, (Instr.sliceAt 9 (.string s) (some v) (some u) none).run Tryz.prog w = .ok (.string r) w)
    (h : softG Tryz.prog B w0 ws L full a0 K n l ((o.dst, Is (.string r)) :: Γ)) (hlv : Live full ws a0 Γ o := by first | exact Or.inl rfl | exact live_of rfl rfl (fun _ _ _ h => h)) : softG Tryz.prog B w0 ws L full a0 K (n + 1) (o :: l) Γ :=
  g_any (stb_is _) (fun w e _ hb hat => by
    have h1 : e x = .string s := hx w _ hb (hat x (by rw [ho]; exact Array.mem_def.2 (List.Mem.head _)))
    have h2 : e y = v := hy w _ hb (hat y (by rw [ho]; exact Array.mem_def.2 (List.Mem.tail _ (List.Mem.head _))))
    have h3 : e z = u := hz w _ hb (hat z (by rw [ho]; exact Array.mem_def.2 (List.Mem.tail _ (List.Mem.tail _ (List.Mem.head _)))))
    unfold execOp
    simp only [ho, h1, Option.map_none, Option.map_some, h2, h3]
    rw [Sem.run_bind, hr w]
    exact ⟨rfl, Below.refl _ _⟩) h hlv
/-- '[]byte(s)'. -/
theorem g_bytes {B0 : Nat} {x : Operand} {s : ByteArray} (ho : o.op = .convert 9 46 x) (hx : Has ws a0 Γ x (Is (.string s))) (hsz : s.size ≤ 140737488355328) (hB : B0 ≤ ws.heap.size)
    (h : softG Tryz.prog B w0 ws L full a0 K n l ((o.dst, MB B0 (byteAt s) s.size) :: Γ)) (hlv : Live full ws a0 Γ o := by first | exact Or.inl rfl | exact live_of rfl rfl (fun _ _ _ h => h)) : softG Tryz.prog B w0 ws L full a0 K (n + 1) (o :: l) Γ :=
  g_any (stb_mb _ _ _) (fun w e _ hb hat => by
    have h1 : e x = .string s := hx w _ hb (hat x (by rw [ho]; exact Array.mem_singleton_self x))
    obtain ⟨v, w', hr, hm, hbl⟩ := run_bytesM w s hsz B0 (Nat.le_trans hB hb.size)
    unfold execOp
    simp only [ho, h1]
    rw [Sem.run_bind, hr]
    exact ⟨hm, hbl⟩) h hlv
end
theorem run_cut2 (b : ByteArray) (i k : Nat) (h0 : i ≤ k) (h : k ≤ b.size) (W : World) : (Instr.sliceAt 9 (.string b) (some (.int .i64 (i : Int))) (some (.int .i64 (k : Int))) none).run Tryz.prog W = .ok (.string (b.extract i k)) W := by
  have h1 : (i : Int) ≤ (k : Int) := by omega
  have h2 : (k : Int) ≤ (b.size : Int) := by omega
  simp [Instr.sliceAt, run_underlying Tryz.underlying9, go_sem, h0, h]
theorem run_sub (n k : Nat) (h : k ≤ n) (hn : n ≤ 4611686018427387904) (W : World) : (binOp .sub 3 (.int .i64 (n : Int)) (.int .i64 (k : Int))).run Tryz.prog W = .ok (.int .i64 ((n - k : Nat) : Int)) W := by
  have e : (n : Int) - (k : Int) = ((n - k : Nat) : Int) := by omega
  have h1 : (binOp .sub 3 (.int .i64 (n : Int)) (.int .i64 (k : Int))).run Tryz.prog W = .ok (.int .i64 (IntKind.i64.wrap ((n : Int) - (k : Int)))) W := by simp [binOp, go_sem]
  rw [h1, e, IntWalk.i64_in _ (by omega)]

theorem dropWhile_none (p : UInt8 → Bool) : ∀ l : List UInt8, l.dropWhile p = [] ↔ ∀ x, x ∈ l → p x = true
  | [] => by simp
  | a :: l => by
    rw [List.dropWhile_cons]
    by_cases h : p a = true
    · rw [if_pos h, dropWhile_none p l]
      simp [h]
    · rw [if_neg h]
      simp [h]
theorem trimB_nil (l : List UInt8) (c : UInt8) : Lib.trimB l c = [] ↔ ∀ x, x ∈ l → x = c := by
  have hr : Lib.trimRightB l c = [] ↔ ∀ x, x ∈ l → x = c := by
    unfold Lib.trimRightB
    rw [List.reverse_eq_nil_iff, dropWhile_none]
    simp
  constructor
  · intro h
    unfold Lib.trimB Lib.trimLeftB at h
    rw [dropWhile_none] at h
    refine hr.1 ?_
    unfold Lib.trimRightB at h ⊢
    cases hd : l.reverse.dropWhile (· == c) with
    | nil => rfl
    | cons y t =>
      have h1 : y = c := by
        have := h y (by rw [hd]; simp)
        simpa using this
      have h2 := List.head_dropWhile_not (· == c) (l := l.reverse) (by rw [hd]; simp)
      simp only [hd, List.head_cons] at h2
      rw [h1] at h2
      simp at h2
  · intro h
    unfold Lib.trimB
    rw [hr.2 h]; rfl
theorem zeros_iff (f : Nat → Nat) (hf : ∀ i, f i < 256) (m : Nat) : Lib.trimB (rowL f m) 0 = [] ↔ ∀ i, i < m → f i = 0 := by
  rw [trimB_nil]
  constructor
  · intro h i hi
    have h1 := h (UInt8.ofNat (f i)) (List.mem_of_getElem? (rowL_at f m i hi))
    have h2 := congrArg UInt8.toNat h1
    have h3 := hf i
    simp only [UInt8.toNat_ofNat'] at h2
    have : (0 : UInt8).toNat = 0 := rfl
    omega
  · intro h x hx
    obtain ⟨i, hi, rfl⟩ := List.mem_map.1 hx
    rw [h i (List.mem_range.1 hi)]; rfl
theorem and_mask (y T j : Nat) (hT : T = 2 ^ (8 - j)) : y &&& (T - 1) = y % T := by rw [hT]; exact Nat.and_two_pow_sub_one_eq_mod _ _
theorem first_mask : ∀ j, j ≤ 7 → ∀ x, x < 256 → ((x &&& (255 - (2 ^ (8 - j) - 1))) = 0 ↔ x < 2 ^ (8 - j)) := by
  intro j hj
  rcases (by omega : j = 0 ∨ j = 1 ∨ j = 2 ∨ j = 3 ∨ j = 4 ∨ j = 5 ∨ j = 6 ∨ j = 7) with rfl | rfl | rfl | rfl | rfl | rfl | rfl | rfl <;> decide +kernel
theorem first_div : ∀ j, j ≤ 7 → (255 : Int) / 2 ^ j = ((2 ^ (8 - j) - 1 : Nat) : Int) := by
  intro j hj
  rcases (by omega : j = 0 ∨ j = 1 ∨ j = 2 ∨ j = 3 ∨ j = 4 ∨ j = 5 ∨ j = 6 ∨ j = 7) with rfl | rfl | rfl | rfl | rfl | rfl | rfl | rfl <;> decide
theorem hOf_size (block : ByteArray) (h : 66 ≤ block.size) : (hOf block).size = 32 := by
  unfold hOf; rw [ByteArray.size_extract]; omega
theorem run_add1 (z : Nat) (h : z ≤ 4611686018427387904) (W : World) : (binOp .add 3 (.int .i64 (z : Int)) (.int .i64 1)).run Tryz.prog W = .ok (.int .i64 ((z + 1 : Nat) : Int)) W := by
  have h1 : (binOp .add 3 (.int .i64 (z : Int)) (.int .i64 1)).run Tryz.prog W = .ok (.int .i64 (IntKind.i64.wrap ((z : Int) + 1))) W := by simp [binOp, go_sem]
  rw [h1, IntWalk.i64_in _ (by omega)]; rfl
theorem run_cutb (g k cap z : Nat) (hz : z + 33 = k) (hk : k ≤ cap) (W : World) : (Instr.sliceAt 46 (.slice (some ⟨g, 0, none⟩) k cap) (some (.int .i64 ((z + 1 : Nat) : Int))) none none).run Tryz.prog W = .ok (.slice (some ⟨g, z + 1, none⟩) 32 (cap - (z + 1))) W := by
  have h1 : (z : Int) + 1 ≤ (k : Int) := by omega
  have h3 : (0 : Int) ≤ (z : Int) + 1 := by omega
  have h5 : k - (z + 1) = 32 := by omega
  have h6 : ¬ cap = z + 1 := by omega
  simp [go_sem, Tryz.underlying46]
  rw [if_pos ⟨h3, h1⟩, if_neg h6, h5]
/-- What fits. -/
def FineP (s block : ByteArray) (T : Nat) : Prop :=
  byteAt block (block.size - 1) = 188 ∧ byteAt block 0 < T ∧ (∀ i, i < block.size - 66 → inF block T i = 0) ∧ inF block T (block.size - 66) = 1 ∧ hashIn s (saltOf block T) = hOf block

set_option maxRecDepth 100000 in
set_option maxHeartbeats 3200000 in
theorem fits_run (s block : ByteArray) (b : Int) (n j T : Nat) (w : World) (hs : s.size ≤ 140737488351232) (hn : block.size = n) (hn66 : 66 ≤ n) (hn512 : n ≤ 512) (h1 : 1 ≤ b) (h2 : b ≤ 4096) (h3 : (n : Int) = (b + 7) / 8) (hj : 8 * (n : Int) - b = (j : Int)) (hj7 : j ≤ 7) (hT : T = 2 ^ (8 - j)) :
    Calls Tryz.prog 49 #[.string s, .string block, .int .i64 b] w (RetWhy (FineP s block T) w) := by
  have hbe := fun why w => because_any why w
  have HB := Lib.hid hbe
  have hsz : (block.size : Int) = (n : Int) := by omega
  have h5 : ((n : Int) != (b + 7) / 8) = false := by simp [h3]
  obtain ⟨z, hz⟩ : ∃ z, z = byteAt block (block.size - 1) := ⟨_, rfl⟩
  have hix : ∀ W : World, (Instr.index 9 (.string block) (.int .i64 ((n : Int) - 1))).run Tryz.prog W = .ok (.int .u8 (z : Int)) W := fun W => by
    rw [show (n : Int) - 1 = ((n - 1 : Nat) : Int) by omega, str_index block (n - 1) (by omega) W, hz, hn]; rfl
  have h1' : ¬ b < 1 := by omega
  have h2' : ¬ 4096 < b := by omega
  have h4' : ¬ (n : Int) < 66 := by omega
  have HZ := Lib.hid hz; have HN := Lib.hid hn; have HJ := Lib.hid hj; have HT := Lib.hid hT
  clear hbe hz h3 hj hT
  by_cases hz2 : z = 188
  · subst hz2
    clear hn
    go_enter Tryz.func49, Tryz.ntmps49
    go_wp2_with fail
    have hR := Rws.start w
    have hms : (block.extract 0 (n - 33)).size = n - 33 := by rw [ByteArray.size_extract, HN.out]; omega
    have hmat : ∀ i, i < n - 33 → byteAt (block.extract 0 (n - 33)) i = byteAt block i := fun i hi => by
      unfold byteAt
      simp only [ByteArray.data_extract, Array.toList_extract, List.extract_eq_take_drop, List.drop_zero]
      rw [List.getD_eq_getElem?_getD, List.getD_eq_getElem?_getD, List.getElem?_take_of_lt (by omega)]
    have HMS := Lib.hid hms; have HMAT := Lib.hid hmat
    clear hms hmat
    refine wp_region_softG 12 (by kernel_rfl) (by kernel_rfl) (by rfl) hR ?_
    refine g_move (by rfl) (stb_is _) (by exact fun _ _ _ h => h) ?_
    refine g_move (by rfl) (stb_is _) (by exact fun _ _ _ h => h) ?_
    refine g_bin (r := .int .i64 ((n - 33 : Nat) : Int)) (by rfl) (by exact fun _ _ _ h => h) (by exact fun _ _ _ h => h) (by rfl) (fun W => run_sub n 33 (by omega) (by omega) W) ?_
    refine g_cuthv (r := block.extract 0 (n - 33)) (by rfl) (by exact fun _ _ _ h => h) (by exact fun _ _ _ h => h) (fun W => run_cut0 block (n - 33) (by have := HN.out; omega) W) ?_
    refine g_bytes (B0 := w.heap.size) (by rfl) (by exact fun _ _ _ h => h) (by rw [HMS.out]; omega) (Nat.le_refl _) ?_
    refine g_move (by rfl) (stb_is _) (by exact fun _ _ _ h => h) ?_
    refine g_move (by rfl) (stb_is _) (by exact fun _ _ _ h => h) ?_
    refine g_bin (r := .int .i64 ((n - 33 : Nat) : Int)) (by rfl) (by exact fun _ _ _ h => h) (by exact fun _ _ _ h => h) (by rfl) (fun W => run_sub n 33 (by omega) (by omega) W) ?_
    refine g_move (by rfl) (stb_is _) (by exact fun _ _ _ h => h) ?_
    refine g_bin (r := .int .i64 ((n - 1 : Nat) : Int)) (by rfl) (by exact fun _ _ _ h => h) (by exact fun _ _ _ h => h) (by rfl) (fun W => run_sub n 1 (by omega) (by omega) W) ?_
    refine g_cut2v (r := block.extract (n - 33) (n - 1)) (by rfl) (by exact fun _ _ _ h => h) (by exact fun _ _ _ h => h) (by exact fun _ _ _ h => h) (fun W => run_cut2 block (n - 33) (n - 1) (by omega) (by have := HN.out; omega) W) ?_
    refine g_assign (by rfl) (stb_mb _ _ _) (by exact fun _ _ _ h => h) ?_
    intro w9 hR9 hb9
    iterate 10 (intro v hv; clear hv)
    intro v52 h52 v8 h8
    obtain rfl : v52 = _ := h52
    obtain ⟨g, cap, rfl, hrow⟩ := h8
    simp only [softEnd, Act.put, List.setIfInBounds_toArray, List.set_cons_succ, List.set_cons_zero, List.drop_succ_cons, List.drop_zero]
    rw [HMS.out] at hrow ⊢
    have hrow := hrow.congr HMAT.out
    go_upto_region 6 with fail
    rw [HJ.out, Int.toNat_natCast, first_div j hj7, ← HT.out]
    obtain ⟨f, hf⟩ : ∃ f, f = T - 1 := ⟨_, rfl⟩
    have hT256 : 2 ≤ T ∧ T ≤ 256 := by
      rw [HT.out]
      rcases (by omega : j = 0 ∨ j = 1 ∨ j = 2 ∨ j = 3 ∨ j = 4 ∨ j = 5 ∨ j = 6 ∨ j = 7) with rfl | rfl | rfl | rfl | rfl | rfl | rfl | rfl <;> decide
    obtain ⟨x, hx⟩ : ∃ x, x = byteAt block 0 := ⟨_, rfl⟩
    have hx256 : x < 256 := by rw [hx]; exact byteAt_lt _ _
    have c0 := hrow.cell 0 (by omega)
    rw [← hx] at c0
    have hmask := first_mask j hj7 x hx256
    rw [← HT.out, ← hf] at hmask
    have hand := u8_andNot_nat x f hx256 (by omega)
    rw [← hf]
    have HX := Lib.hid hx; have HF := Lib.hid hf
    clear hx hf
    by_cases hxT : x < T
    · have hz0 : (bits BinOp.andNot IntKind.u8 (x : Int) (f : Int) != 0) = false := by rw [hand, hmask.2 hxT]; rfl
      have hmk := fun w => Mask_any (hOf block) ((n - 33 : Nat) : Int) w (by rw [hOf_size block (by have := HN.out; omega)]; omega)
      have hmr : MaskR (hOf block) ((n - 33 : Nat) : Int) = ((mskL (hOf block) 16).take (n - 33), 0) := by unfold MaskR; rw [if_neg (by omega)]; rfl
      rw [hmr] at hmk
      have hho : block.extract (n - 33) (n - 1) = hOf block := by unfold hOf; rw [HN.out]
      rw [hho]
      obtain ⟨h, hh⟩ : ∃ h, h = hOf block := ⟨_, rfl⟩
      rw [← hh] at hmk ⊢
      have hki : ∀ i : Nat, i < n - 33 → ∀ W : World, (Instr.index 9 (.string ⟨((mskL h 16).take (n - 33)).toArray⟩) (.int .i64 (i : Int))).run Tryz.prog W = .ok (.int .u8 ((mskF h i : Nat) : Int)) W := fun i hi W => by
        have hl := mskL_length h 16
        rw [str_index _ i (by rw [str_size, List.length_take]; omega) W]
        unfold mskF
        show Result.ok (Value.int .u8 ((((mskL h 16).take (n - 33)).getD i 0).toNat : Int)) W = _
        rw [List.getD_eq_getElem?_getD, List.getElem?_take_of_lt hi, List.getD_eq_getElem?_getD]
      obtain ⟨kb, hkb⟩ : ∃ kb : ByteArray, kb = ⟨((mskL h 16).take (n - 33)).toArray⟩ := ⟨_, rfl⟩
      have hmk2 : ∀ w : World, Calls Tryz.prog 16 #[.string h, .int .i64 ((n - 33 : Nat) : Int)] w fun e w' => e = .returned (.tuple #[.string kb, .int .i64 0]) ∧ Below w.heap.size w w' := fun w => by rw [hkb]; exact hmk w
      rw [← hkb] at hki
      have hn33 : (n : Int) - 33 = ((n - 33 : Nat) : Int) := by omega
      obtain ⟨m, hm⟩ : ∃ m, m = n - 33 := ⟨_, rfl⟩
      rw [← hm] at hmk2 hki hrow hn33 ⊢
      have HMK := Lib.hid hmk2; have HKI := Lib.hid hki; have HH := Lib.hid hh; have HXT := Lib.hid hxT
      have HM := Lib.hid hm
      have hm33 : 33 ≤ m := by omega
      have hm512 : m ≤ 512 := by omega
      have hmn : n = m + 33 := by omega
      have HMN := Lib.hid hmn
      clear hmn
      clear hmask hand hix hxT hmk hmr hho hmk2 hki hkb hh hm
      go_wp2_with fail
      refine (HMK.out _).mono ?_
      rintro e w2 ⟨rfl, hb2⟩
      have hR2 := hR9.call hb2
      have hrow2 := hrow.below hb2
      clear hb2 hrow hR9 hb9 c0 hn33
      go_upto_region 10 with fail
      have hge := hrow2.ge
      have hbel2 := hR2.below
      clear hR2
      have hrow0 : RowM w2 w.heap.size g m cap (fun i => if i < 0 then byteAt block i ^^^ mskF h i else byteAt block i) := hrow2.congr fun i _ => by rw [if_neg (by omega)]
      clear hrow2
      go_loopw [74] (fun v wr => ∃ k : Nat, k ≤ m ∧ v = .int .i64 k ∧ RowM wr w.heap.size g m cap (fun i => if i < k then byteAt block i ^^^ mskF h i else byteAt block i) ∧ Below w.heap.size w wr) (fun v _ => m - (intOf v).toNat)
      case atStart => exact ⟨0, Nat.zero_le _, rfl, hrow0, hbel2⟩
      case round =>
        clear hrow0 hbel2
        obtain ⟨k, hk, rfl, hrow, hbel⟩ := hrel
        by_cases hlt : k < m
        · have ck := hrow.cell k hlt
          rw [if_neg (by omega)] at ck
          have hfr := hrow.free k hlt
          have hix := HKI.out k hlt
          obtain ⟨a, ha⟩ : ∃ a, a = byteAt block k := ⟨_, rfl⟩
          obtain ⟨c, hc⟩ : ∃ c, c = mskF h k := ⟨_, rfl⟩
          rw [← ha] at ck
          rw [← hc] at hix
          have hxor := u8_xor_nat a c (by rw [ha]; exact byteAt_lt _ _) (by rw [hc]; exact mskF_lt _ _)
          have HA := Lib.hid ha; have HC := Lib.hid hc; have HXO := Lib.hid hxor
          clear ha hc hxor
          have hlt2 : (k : Int) < (m : Int) := by omega
          go_upto_region 12 with fail
          go_region
          all_goals
            go_wp2_with fail
            go_roundw
            case rel =>
              rw [HXO.out]
              refine ⟨k + 1, by omega, by go_num, ((hrow.set k (a ^^^ c)).congr fun i hi => ?_).drew, (hbel.setCell hge _).drew⟩
              show (if i = k then a ^^^ c else if i < k then _ else _) = _
              by_cases e : i = k
              · rw [if_pos e, if_pos (by omega), e, HA.out, HC.out]
              · rw [if_neg e]
                by_cases e2 : i < k
                · rw [if_pos e2, if_pos (by omega)]
                · rw [if_neg e2, if_neg (by omega)]
            case measure => simp [intOf]; omega
        · obtain rfl : k = m := by omega
          have hrow1 : RowM wr w.heap.size g k cap (fun i => byteAt block i ^^^ mskF h i) := hrow.congr fun i hi => by rw [if_pos hi]
          have c1 := hrow1.cell 0 (by omega)
          have f1 := hrow1.free 0 (by omega)
          have hk0 : (0 : Int) < (k : Int) := by omega
          obtain ⟨y, hy⟩ : ∃ y, y = byteAt block 0 ^^^ mskF h 0 := ⟨_, rfl⟩
          rw [← hy] at c1
          have hy256 : y < 256 := by rw [hy]; exact xor_lt (byteAt_lt _ _) (mskF_lt _ _)
          have hand := u8_and_nat y f hy256 (by have := HF.out; omega)
          have HAND := Lib.hid hand; have HY := Lib.hid hy
          clear hrow hand hy
          have hin : ∀ i, i < k → (if i = 0 then y % T else byteAt block i ^^^ mskF h i) = inF block T i := fun i _ => by
            unfold inF
            rw [HY.out, HH.out]
          have hset : RowM (wr.setCell ⟨g, 0, none⟩ (.int .u8 (bits BinOp.and IntKind.u8 (y : Int) (f : Int)))) w.heap.size g k cap (inF block T) := by
            rw [HAND.out, HF.out, and_mask y T j HT.out]
            exact (hrow1.set 0 (y % T)).congr hin
          have hbel4 : Below w.heap.size w (wr.setCell ⟨g, 0, none⟩ (.int .u8 (bits BinOp.and IntKind.u8 (y : Int) (f : Int)))) := hbel.setCell hge _
          have HIN := Lib.hid hin
          clear hin
          go_upto_region 15 with fail
          obtain ⟨w4, hw4⟩ : ∃ w4, w4 = wr.setCell ⟨g, 0, none⟩ (.int .u8 (bits BinOp.and IntKind.u8 (y : Int) (f : Int))) := ⟨_, rfl⟩
          rw [← hw4] at hset hbel4 ⊢
          clear hw4 c1 f1 hrow1 hbel
          obtain ⟨z, hz⟩ : ∃ z, z = k - 33 := ⟨_, rfl⟩
          have hn66b : (n : Int) - 66 = (z : Int) := by have := HMN.out; omega
          have hz2 : z + 33 = k := by omega
          have hzc : (z : Int) ≤ (cap : Int) := by have := hset.le.1; omega
          have hzk : (z : Int) < (k : Int) := by omega
          have htx := hset.text 0 z cap (by omega)
          have hfun : (fun i => inF block T (0 + i)) = inF block T := funext fun i => by rw [Nat.zero_add]
          rw [hfun] at htx
          have hziff := zeros_iff (inF block T) (fun i => inF_lt block T i) z
          have htr := fun w => Tryz.strings_Trim_one ⟨(rowL (inF block T) z).toArray⟩ 0 (by decide) w (by rw [str_size, rowL_length]; omega)
          have hdl : (ByteArray.mk (rowL (inF block T) z).toArray).data.toList = rowL (inF block T) z := by simp
          rw [hdl] at htr
          obtain ⟨tr, htr2⟩ : ∃ tr : ByteArray, tr = ⟨(Lib.trimB (rowL (inF block T) z) 0).toArray⟩ := ⟨_, rfl⟩
          rw [← htr2] at htr
          obtain ⟨rz, hrz⟩ : ∃ rz : ByteArray, rz = ⟨(rowL (inF block T) z).toArray⟩ := ⟨_, rfl⟩
          rw [← hrz] at htr htx
          have hsize : block.size = k + 33 := by rw [HN.out, HMN.out]
          have HSZ := Lib.hid hsize; have HTR := Lib.hid htr; have HZ3 := Lib.hid hz2
          have hcell := hset.cell z (by omega)
          obtain ⟨v1, hv1⟩ : ∃ v1, v1 = inF block T z := ⟨_, rfl⟩
          rw [← hv1] at hcell
          have HV1 := Lib.hid hv1
          by_cases hall : ∀ i, i < z → inF block T i = 0
          · have ht0 : tr.toList.isEmpty = true := by rw [htr2, hziff.2 hall, Lib.toList_data]; rfl
            have HALL := Lib.hid hall
            clear hall hziff htr2 hrz htr hdl hv1 hfun hsize hz hz2
            go_upto_region 16 with fail
            go_wp2_with fail
            refine (HTR.out _).mono ?_
            rintro e w5 ⟨rfl, hw5⟩
            have hcell5 : w5.cell? ⟨g, z, none⟩ = some (.int .u8 (v1 : Int)) := by rcases hw5 with rfl | rfl <;> exact hcell
            have hset5 : RowM w5 w.heap.size g k cap (inF block T) := by rcases hw5 with rfl | rfl <;> exact hset
            have hbel5 : Below w.heap.size w w5 := by rcases hw5 with rfl | rfl
                                                      · exact hbel4
                                                      · exact hbel4.drew
            clear hw5 hcell hset hbel4 htx
            by_cases hv : v1 = 1
            · have hsalt : saltOf block T = ⟨(rowL (fun i => inF block T (z + 1 + i)) 32).toArray⟩ := by
                unfold saltOf
                rw [HSZ.out, show k + 33 - 65 = z + 1 by have := HZ3.out; omega]
              have hrp : (ByteArray.mk (Lib.repeatL (ByteArray.mk #[0]).data.toList 8).toArray) = zero8 := rfl
              have hrep := fun w => Tryz.strings_Repeat ⟨#[0]⟩ 8 w (by omega) (by decide)
              rw [hrp] at hrep
              have hs1 := fun w => sum256_any s (by omega) w
              obtain ⟨ss, hss⟩ : ∃ ss, ss = sha s := ⟨_, rfl⟩
              have hsss : ss.size = 32 := by rw [hss]; rfl
              obtain ⟨sl, hsl⟩ : ∃ sl, sl = saltOf block T := ⟨_, rfl⟩
              have hsls : sl.size = 32 := by rw [hsl, hsalt, str_size, rowL_length]
              have hs2 := fun w => sum256_any (zero8 ++ ss ++ sl) (by rw [ByteArray.size_append, ByteArray.size_append, hsss, hsls]; decide) w
              obtain ⟨hi2, hhi⟩ : ∃ hi2, hi2 = sha (zero8 ++ ss ++ sl) := ⟨_, rfl⟩
              have hhin : hi2 = hashIn s (saltOf block T) := by rw [hhi, hss, hsl]; rfl
              rw [← hss] at hs1
              rw [← hhi] at hs2
              have htx2 : ∀ w, Below w5.heap.size w5 w → (convert 46 9 (.slice (some ⟨g, z + 1, none⟩) 32 (cap - (z + 1)))).run Tryz.prog w = .ok (.string sl) w := fun w hb => by
                rw [hsl, hsalt]
                exact (hset5.below hb).text (z + 1) 32 _ (by have := HZ3.out; omega)
              have hcp := hset5.le
              have HREP := Lib.hid hrep; have HS1 := Lib.hid hs1; have HS2 := Lib.hid hs2; have HTX2 := Lib.hid htx2; have HHIN := Lib.hid hhin
              have HSSS := Lib.hid hsss; have HSLS := Lib.hid hsls
              have hR5 : Rws w.heap.size w w5 [] := ⟨hbel5, hbel5.size, (fun _ h => by cases h), List.Pairwise.nil⟩
              have HV := Lib.hid hv
              have hvb : ((v1 : Int) != 1) = false := by rw [hv]; rfl
              clear hsalt hrep hs1 hs2 htx2 hhin hhi hss hsl hsss hsls hrp hv
              go_wp2_with fail
              refine wp_region_softG 12 (by kernel_rfl) (by kernel_rfl) (by rfl) hR5 ?_
              refine g_call2 (by rfl) Tryz.func36 (by kernel_rfl) rfl (stb_is (.string zero8)) (A := Is (.string ⟨#[0]⟩)) (A' := Is (.int .i64 8)) (by exact fun _ _ _ h => h) (by exact fun _ _ _ h => h) (fun w v u hv hu => by obtain rfl : v = _ := hv; obtain rfl : u = _ := hu; exact (HREP.out w).mono fun _ _ ⟨he, hb⟩ => ⟨_, he, rfl, hb⟩) ?_
              refine g_move (by rfl) (stb_is _) (by exact fun _ _ _ h => h) ?_
              refine g_call1 (by rfl) Tryz.func26 (by kernel_rfl) rfl (stb_is (.string ss)) (A := Is (.string s)) (by exact fun _ _ _ h => h) (fun w v hv => by obtain rfl : v = _ := hv; exact (HS1.out w).mono fun _ _ ⟨he, hb⟩ => ⟨_, he, rfl, hb⟩) ?_
              refine g_bin (u := .string ss) (v := .string zero8) (r := .string (zero8 ++ ss)) (by rfl) (by exact fun _ _ _ h => h) (by exact fun _ _ _ h => h) (by rfl) (fun W => run_string_add_sum W zero8 ss (by rw [HSSS.out]; decide)) ?_
              refine g_move (by rfl) (stb_is _) (by exact fun _ _ _ h => h) ?_
              refine g_move (by rfl) (stb_is _) (by exact fun _ _ _ h => h) ?_
              refine g_bin (r := .int .i64 ((z + 1 : Nat) : Int)) (by rfl) (by exact fun _ _ _ h => h) (by exact fun _ _ _ h => h) (by rfl) (fun W => run_add1 z (by have := HZ3.out; omega) W) ?_
              refine g_two (x := .tmp 113) (y := .tmp 115) (v := .slice (some ⟨g, 0, none⟩) k cap) (u := .int .i64 ((z + 1 : Nat) : Int)) (r := .slice (some ⟨g, z + 1, none⟩) 32 (cap - (z + 1))) (by exact Array.mem_def.2 (List.Mem.head _)) (by exact Array.mem_def.2 (List.Mem.tail _ (List.Mem.head _))) (by exact fun _ _ _ h => h) (by exact fun _ _ _ h => h) (fun W e h1 h2 => by
                unfold execOp
                simp only [h1, h2, Option.map_none, Option.map_some]
                rw [Sem.run_bind, run_cutb g k cap z (by have := HZ3.out; omega) hcp.1 W]
                rfl) ?_
              refine g_conv (by rfl) (by exact fun _ _ _ h => h) HTX2.out ?_
              refine g_bin (u := .string sl) (v := .string (zero8 ++ ss)) (r := .string (zero8 ++ ss ++ sl)) (by rfl) (by exact fun _ _ _ h => h) (by exact fun _ _ _ h => h) (by rfl) (fun W => run_string_add_sum W (zero8 ++ ss) sl (by rw [ByteArray.size_append, HSSS.out, HSLS.out]; decide)) ?_
              refine g_call1 (by rfl) Tryz.func26 (by kernel_rfl) rfl (stb_is (.string hi2)) (A := Is (.string (zero8 ++ ss ++ sl))) (by exact fun _ _ _ h => h) (fun w v hv => by obtain rfl : v = _ := hv; exact (HS2.out w).mono fun _ _ ⟨he, hb⟩ => ⟨_, he, rfl, hb⟩) ?_
              refine g_move (by rfl) (stb_is _) (by exact fun _ _ _ h => h) ?_
              intro w6 hR6 hb6
              iterate 10 (intro v hv; clear hv)
              intro v119 h119 v120 h120
              obtain rfl : v119 = _ := h119
              obtain rfl : v120 = _ := h120
              simp only [softEnd, Act.put, List.setIfInBounds_toArray, List.set_cons_succ, List.set_cons_zero, List.drop_succ_cons, List.drop_zero]
              have hbel6 := hR6.below
              clear hR6 hR5 hb6
              by_cases hq : hi2 = h
              · have hqb : (hi2.toList == h.toList) = true := by rw [hq]; simp
                have hf : FineP s block T := ⟨by rw [← HZ.out], by rw [← HX.out]; exact HXT.out, by rw [HSZ.out, show k + 33 - 66 = z by have := HZ3.out; omega]; exact HALL.out, by rw [HSZ.out, show k + 33 - 66 = z by have := HZ3.out; omega, ← HV1.out]; exact HV.out, by rw [← HHIN.out, hq, HH.out]⟩
                have HFN := Lib.hid hf
                clear hf hq
                go_wp2_with fail
                go_ret
                exact ⟨Or.inl ⟨HFN.out, rfl⟩, hbel6⟩
              · have hqb : (hi2.toList == h.toList) = false := by
                  rw [beq_eq_false_iff_ne]
                  intro h0
                  rw [Lib.toList_data, Lib.toList_data] at h0
                  exact hq (ByteArray.ext (Array.toList_inj.1 h0))
                have hnf : ¬ FineP s block T := fun h0 => hq (by rw [HHIN.out, h0.2.2.2.2, HH.out])
                have HNF := Lib.hid hnf
                clear hnf hq
                go_wp2_with fail
                refine (HB.out _ _).mono ?_
                rintro e w7 ⟨rfl, rfl⟩
                go_wp2_with fail
                go_ret
                exact ⟨Or.inr ⟨HNF.out, _, rfl⟩, hbel6⟩
            · have hvb : ((v1 : Int) != 1) = true := by rw [bne_iff_ne]; omega
              have hnf : ¬ FineP s block T := fun h => hv (by rw [HV1.out]; have h1 := h.2.2.2.1; rw [HSZ.out, show k + 33 - 66 = z by have := HZ3.out; omega] at h1; exact h1)
              have HNF := Lib.hid hnf
              clear hnf hv
              go_wp2_with fail
              refine (HB.out _ _).mono ?_
              rintro e w6 ⟨rfl, rfl⟩
              go_wp2_with fail
              go_ret
              exact ⟨Or.inr ⟨HNF.out, _, rfl⟩, hbel5⟩
          · have ht0 : tr.toList.isEmpty = false := by
              rw [htr2, List.isEmpty_eq_false_iff]
              intro h0
              refine hall (hziff.1 ?_)
              rw [Lib.toList_data] at h0
              simpa using h0
            have hnf : ¬ FineP s block T := fun h => hall (by have h1 := h.2.2.1; rw [HSZ.out, show k + 33 - 66 = z by have := HZ3.out; omega] at h1; exact h1)
            have HNF := Lib.hid hnf
            clear hall hziff htr2 hrz htr hdl hv1 hfun hsize hz hz2 hnf hcell
            go_wp2_with fail
            refine (HTR.out _).mono ?_
            rintro e w5 ⟨rfl, hw5⟩
            have hbel5 : Below w.heap.size w w5 := by rcases hw5 with rfl | rfl
                                                      · exact hbel4
                                                      · exact hbel4.drew
            clear hw5 hset hbel4 htx
            go_wp2_with fail
            refine (HB.out _ _).mono ?_
            rintro e w6 ⟨rfl, rfl⟩
            go_wp2_with fail
            go_ret
            exact ⟨Or.inr ⟨HNF.out, _, rfl⟩, hbel5⟩
    · have hz0 : (bits BinOp.andNot IntKind.u8 (x : Int) (f : Int) != 0) = true := by
        rw [hand, bne_iff_ne]
        intro h
        exact hxT (hmask.1 (by omega))
      have hnf : ¬ FineP s block T := fun h => hxT (by rw [HX.out]; exact h.2.1)
      have HNF := Lib.hid hnf
      clear hnf hmask hand hix hxT
      go_wp2_with fail
      refine (HB.out _ _).mono ?_
      rintro e w1 ⟨rfl, rfl⟩
      have hres := hR9.below
      go_wp2_with fail
      go_ret
      exact ⟨Or.inr ⟨HNF.out, _, rfl⟩, hres⟩
  · have hzb : ((z : Int) != 188) = true := by rw [bne_iff_ne]; omega
    have hnf : ¬ FineP s block T := fun h => hz2 (by rw [HZ.out]; exact h.1)
    have HNF := Lib.hid hnf
    clear hn hz2 hnf
    go_enter Tryz.func49, Tryz.ntmps49
    go_wp2_with fail
    refine (HB.out _ _).mono ?_
    rintro e w1 ⟨rfl, rfl⟩
    go_wp2_with fail
    go_ret
    exact ⟨Or.inr ⟨HNF.out, _, rfl⟩, Below.refl _ _⟩
end Go.Proofs.YtjkjlbchbbpmaaaGreatDoor
