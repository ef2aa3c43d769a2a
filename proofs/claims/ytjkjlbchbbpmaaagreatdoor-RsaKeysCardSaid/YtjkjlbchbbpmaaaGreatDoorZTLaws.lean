/- RsaKeys, RsaOpens, RsaBlocks: for every input true. -/
import Derived.Test.YtjkjlbchbbpmaaaGreatDoorZTFixed
import Derived.Test.YtjkjlbchbbpmaaaGreatDoorZX3
namespace Go.Proofs.YtjkjlbchbbpmaaaGreatDoor
open Go.RowKit

theorem small_key {n e : ByteArray} (h : KeyOk n e) : n.size ≤ 256 ∧ e.size ≤ 4 :=
  ⟨size_of_bits h.1 (by have := h.2.2.2.1; omega), size_of_bits h.2.1 (by have := h.2.2.2.2.2; omega)⟩

set_option maxRecDepth 100000 in
set_option maxHeartbeats 1600000 in
theorem keys_big (n e : ByteArray) (w : World) (hbig : 4000 < n.size ∨ 4000 < e.size) (h0 : ∀ w : World, Calls Tryz.prog 10 #[] w fun e w' => e = .returned (.bool true) ∧ Below w.heap.size w w')
    (h1 : ∀ w : World, Calls Tryz.prog 9 #[.agg #[.string n, .string e]] w fun r w' => r = .returned (.int .i64 40) ∧ Below w.heap.size w w') :
    Calls Tryz.prog 3 #[.agg #[.string n, .string e]] w fun r w' => r = .returned (.bool true) ∧ Below w.heap.size w w' := by
  have H0 := Lib.hid h0; have H1 := Lib.hid h1
  clear h0 h1
  have hR0 := Rws.start w
  by_cases hn : 4000 < n.size
  · have hn2 : (4000 : Int) < (n.size : Int) := by omega
    clear hbig
    go_enter Tryz.func3, Tryz.ntmps3
    go_upto_region 1 with (refine wpList_box_rws rfl _ _ (by rfl) (by assumption) _ rfl ?_; intro g w1 hR)
    go_wp2_with (refine wpList_load_rws rfl _ _ (by rfl) (by assumption) _ rfl #[.string n, .string e] _ (by repeat (first | exact List.Mem.head _ | refine List.Mem.tail _ ?_)) _ Tryz.underlying23 rfl (by kernel_rfl) ?_)
    refine (H1.out _).mono ?_
    rintro r w2 ⟨rfl, hb⟩
    have hR := hR.call hb
    have c0 : w2.cell? ⟨g, 0, none⟩ = some (.string n) := hR.cellAt (List.Mem.head _) 0 rfl
    have c1 : w2.cell? ⟨g, 1, none⟩ = some (.string e) := hR.cellAt (List.Mem.head _) 1 rfl
    clear hb
    go_wp2_with fail
    refine (H0.out _).mono ?_
    rintro r wl ⟨rfl, hb⟩
    have hres := (hR.call hb).below
    clear hb hR
    go_wp2_with fail
    go_ret
    exact ⟨rfl, hres⟩
  · have hn2 : ¬ (4000 : Int) < (n.size : Int) := by omega
    have he2 : (4000 : Int) < (e.size : Int) := by omega
    clear hbig
    go_enter Tryz.func3, Tryz.ntmps3
    go_upto_region 1 with (refine wpList_box_rws rfl _ _ (by rfl) (by assumption) _ rfl ?_; intro g w1 hR)
    go_wp2_with (refine wpList_load_rws rfl _ _ (by rfl) (by assumption) _ rfl #[.string n, .string e] _ (by repeat (first | exact List.Mem.head _ | refine List.Mem.tail _ ?_)) _ Tryz.underlying23 rfl (by kernel_rfl) ?_)
    refine (H1.out _).mono ?_
    rintro r w2 ⟨rfl, hb⟩
    have hR := hR.call hb
    have c0 : w2.cell? ⟨g, 0, none⟩ = some (.string n) := hR.cellAt (List.Mem.head _) 0 rfl
    have c1 : w2.cell? ⟨g, 1, none⟩ = some (.string e) := hR.cellAt (List.Mem.head _) 1 rfl
    clear hb
    go_wp2_with fail
    refine (H0.out _).mono ?_
    rintro r wl ⟨rfl, hb⟩
    have hres := (hR.call hb).below
    clear hb hR
    go_wp2_with fail
    go_ret
    exact ⟨rfl, hres⟩

set_option maxRecDepth 100000 in
set_option maxHeartbeats 1600000 in
theorem keys_small (n e : ByteArray) (c : Int) (b : Bool) (w : World) (hn : n.size ≤ 4000) (he : e.size ≤ 4000) (hc : (b = true ∧ c = 0) ∨ (b = false ∧ c = 40)) (h0 : ∀ w : World, Calls Tryz.prog 10 #[] w fun e w' => e = .returned (.bool true) ∧ Below w.heap.size w w')
    (h1 : ∀ w : World, Calls Tryz.prog 9 #[.agg #[.string n, .string e]] w fun r w' => r = .returned (.int .i64 c) ∧ Below w.heap.size w w')
    (h2 : ∀ w : World, Calls Tryz.prog 11 #[.agg #[.string n, .string e]] w fun r w' => r = .returned (.bool b) ∧ Below w.heap.size w w') :
    Calls Tryz.prog 3 #[.agg #[.string n, .string e]] w fun r w' => r = .returned (.bool true) ∧ Below w.heap.size w w' := by
  have H0 := Lib.hid h0; have H1 := Lib.hid h1; have H2 := Lib.hid h2
  clear h0 h1 h2
  have hR0 := Rws.start w
  have hn2 : ¬ (4000 : Int) < (n.size : Int) := by omega
  have he2 : ¬ (4000 : Int) < (e.size : Int) := by omega
  clear hn he
  rcases hc with ⟨rfl, rfl⟩ | ⟨rfl, rfl⟩
  all_goals
    go_enter Tryz.func3, Tryz.ntmps3
    go_upto_region 1 with (refine wpList_box_rws rfl _ _ (by rfl) (by assumption) _ rfl ?_; intro g w1 hR)
    go_wp2_with (refine wpList_load_rws rfl _ _ (by rfl) (by assumption) _ rfl #[.string n, .string e] _ (by repeat (first | exact List.Mem.head _ | refine List.Mem.tail _ ?_)) _ Tryz.underlying23 rfl (by kernel_rfl) ?_)
    refine (H1.out _).mono ?_
    rintro r w2 ⟨rfl, hb⟩
    have hR := hR.call hb
    have c0 : w2.cell? ⟨g, 0, none⟩ = some (.string n) := hR.cellAt (List.Mem.head _) 0 rfl
    have c1 : w2.cell? ⟨g, 1, none⟩ = some (.string e) := hR.cellAt (List.Mem.head _) 1 rfl
    clear hb
    go_wp2_with (refine wpList_load_rws rfl _ _ (by rfl) (by assumption) _ rfl #[.string n, .string e] _ (by repeat (first | exact List.Mem.head _ | refine List.Mem.tail _ ?_)) _ Tryz.underlying23 rfl (by kernel_rfl) ?_)
    refine (H2.out _).mono ?_
    rintro r w3 ⟨rfl, hb⟩
    have hR := hR.call hb
    have c0 : w3.cell? ⟨g, 0, none⟩ = some (.string n) := hR.cellAt (List.Mem.head _) 0 rfl
    have c1 : w3.cell? ⟨g, 1, none⟩ = some (.string e) := hR.cellAt (List.Mem.head _) 1 rfl
    clear hb
    go_wp2_with fail
    refine (H0.out _).mono ?_
    rintro r wl ⟨rfl, hb⟩
    have hres := (hR.call hb).below
    clear hb hR
    go_wp2_with fail
    go_ret
    exact ⟨rfl, hres⟩

theorem keysLaw_any (n e : ByteArray) (w : World) (hn : n.size ≤ 140737488351232) (he : e.size ≤ 140737488351232) :
    Calls Tryz.prog 3 #[.agg #[.string n, .string e]] w fun r w' => r = .returned (.bool true) ∧ Below w.heap.size w w' := by
  have hc := fun w => check_any n e w hn he
  by_cases hb : 4000 < n.size ∨ 4000 < e.size
  · have hk : ¬ KeyOk n e := fun h => by have := small_key h; omega
    rw [if_neg hk] at hc
    exact keys_big n e w hb fixed_any hc
  · have hr := fun w => rcheck_any n e w (by omega) (by omega)
    by_cases hk : KeyOk n e
    · rw [if_pos hk] at hc
      rw [decide_eq_true hk] at hr
      exact keys_small n e 0 true w (by omega) (by omega) (Or.inl ⟨rfl, rfl⟩) fixed_any hc hr
    · rw [if_neg hk] at hc
      rw [decide_eq_false hk] at hr
      exact keys_small n e 40 false w (by omega) (by omega) (Or.inr ⟨rfl, rfl⟩) fixed_any hc hr

set_option maxRecDepth 100000 in
set_option maxHeartbeats 1600000 in
theorem opens_big (n e s : ByteArray) (w : World) (hbig : 4000 < n.size ∨ 4000 < e.size) (h0 : ∀ w : World, Calls Tryz.prog 10 #[] w fun e w' => e = .returned (.bool true) ∧ Below w.heap.size w w')
    (h1 : ∀ w : World, Calls Tryz.prog 12 #[.agg #[.string n, .string e], .string s] w fun r w' => r = .returned (.tuple #[.string ⟨#[]⟩, .int .i64 40]) ∧ Below w.heap.size w w') :
    Calls Tryz.prog 4 #[.agg #[.string n, .string e], .string s] w fun r w' => r = .returned (.bool true) ∧ Below w.heap.size w w' := by
  have H0 := Lib.hid h0; have H1 := Lib.hid h1
  clear h0 h1
  have hR0 := Rws.start w
  by_cases hn : 4000 < n.size
  · have hn2 : (4000 : Int) < (n.size : Int) := by omega
    clear hbig
    go_enter Tryz.func4, Tryz.ntmps4
    go_upto_region 1 with (refine wpList_box_rws rfl _ _ (by rfl) (by assumption) _ rfl ?_; intro g w1 hR)
    go_wp2_with (refine wpList_load_rws rfl _ _ (by rfl) (by assumption) _ rfl #[.string n, .string e] _ (by repeat (first | exact List.Mem.head _ | refine List.Mem.tail _ ?_)) _ Tryz.underlying23 rfl (by kernel_rfl) ?_)
    refine (H1.out _).mono ?_
    rintro r w2 ⟨rfl, hb⟩
    have hR := hR.call hb
    have c0 : w2.cell? ⟨g, 0, none⟩ = some (.string n) := hR.cellAt (List.Mem.head _) 0 rfl
    have c1 : w2.cell? ⟨g, 1, none⟩ = some (.string e) := hR.cellAt (List.Mem.head _) 1 rfl
    clear hb
    go_wp2_with fail
    refine (H0.out _).mono ?_
    rintro r wl ⟨rfl, hb⟩
    have hres := (hR.call hb).below
    clear hb hR
    go_wp2_with fail
    go_ret
    exact ⟨rfl, hres⟩
  · have hn2 : ¬ (4000 : Int) < (n.size : Int) := by omega
    have he2 : (4000 : Int) < (e.size : Int) := by omega
    clear hbig
    go_enter Tryz.func4, Tryz.ntmps4
    go_upto_region 1 with (refine wpList_box_rws rfl _ _ (by rfl) (by assumption) _ rfl ?_; intro g w1 hR)
    go_wp2_with (refine wpList_load_rws rfl _ _ (by rfl) (by assumption) _ rfl #[.string n, .string e] _ (by repeat (first | exact List.Mem.head _ | refine List.Mem.tail _ ?_)) _ Tryz.underlying23 rfl (by kernel_rfl) ?_)
    refine (H1.out _).mono ?_
    rintro r w2 ⟨rfl, hb⟩
    have hR := hR.call hb
    have c0 : w2.cell? ⟨g, 0, none⟩ = some (.string n) := hR.cellAt (List.Mem.head _) 0 rfl
    have c1 : w2.cell? ⟨g, 1, none⟩ = some (.string e) := hR.cellAt (List.Mem.head _) 1 rfl
    clear hb
    go_wp2_with fail
    refine (H0.out _).mono ?_
    rintro r wl ⟨rfl, hb⟩
    have hres := (hR.call hb).below
    clear hb hR
    go_wp2_with fail
    go_ret
    exact ⟨rfl, hres⟩

set_option maxRecDepth 100000 in
set_option maxHeartbeats 1600000 in
theorem opens_small (n e s x : ByteArray) (c : Int) (w : World) (hn : n.size ≤ 4000) (he : e.size ≤ 4000) (h0 : ∀ w : World, Calls Tryz.prog 10 #[] w fun e w' => e = .returned (.bool true) ∧ Below w.heap.size w w')
    (h1 : ∀ w : World, Calls Tryz.prog 12 #[.agg #[.string n, .string e], .string s] w fun r w' => r = .returned (.tuple #[.string x, .int .i64 c]) ∧ Below w.heap.size w w')
    (h2 : ∀ w : World, Calls Tryz.prog 13 #[.agg #[.string n, .string e], .string s] w fun r w' => r = .returned (.tuple #[.string x, .int .i64 c]) ∧ Below w.heap.size w w') :
    Calls Tryz.prog 4 #[.agg #[.string n, .string e], .string s] w fun r w' => r = .returned (.bool true) ∧ Below w.heap.size w w' := by
  have H0 := Lib.hid h0; have H1 := Lib.hid h1; have H2 := Lib.hid h2
  clear h0 h1 h2
  have hR0 := Rws.start w
  have hn2 : ¬ (4000 : Int) < (n.size : Int) := by omega
  have he2 : ¬ (4000 : Int) < (e.size : Int) := by omega
  have hx : (x.toList == x.toList) = true := by simp
  have hcc : (c == c) = true := by simp
  clear hn he
  go_enter Tryz.func4, Tryz.ntmps4
  go_upto_region 1 with (refine wpList_box_rws rfl _ _ (by rfl) (by assumption) _ rfl ?_; intro g w1 hR)
  go_wp2_with (refine wpList_load_rws rfl _ _ (by rfl) (by assumption) _ rfl #[.string n, .string e] _ (by repeat (first | exact List.Mem.head _ | refine List.Mem.tail _ ?_)) _ Tryz.underlying23 rfl (by kernel_rfl) ?_)
  refine (H1.out _).mono ?_
  rintro r w2 ⟨rfl, hb⟩
  have hR := hR.call hb
  have c0 : w2.cell? ⟨g, 0, none⟩ = some (.string n) := hR.cellAt (List.Mem.head _) 0 rfl
  have c1 : w2.cell? ⟨g, 1, none⟩ = some (.string e) := hR.cellAt (List.Mem.head _) 1 rfl
  clear hb
  go_wp2_with (refine wpList_load_rws rfl _ _ (by rfl) (by assumption) _ rfl #[.string n, .string e] _ (by repeat (first | exact List.Mem.head _ | refine List.Mem.tail _ ?_)) _ Tryz.underlying23 rfl (by kernel_rfl) ?_)
  refine (H2.out _).mono ?_
  rintro r w3 ⟨rfl, hb⟩
  have hR := hR.call hb
  have c0 : w3.cell? ⟨g, 0, none⟩ = some (.string n) := hR.cellAt (List.Mem.head _) 0 rfl
  have c1 : w3.cell? ⟨g, 1, none⟩ = some (.string e) := hR.cellAt (List.Mem.head _) 1 rfl
  clear hb
  go_wp2_with fail
  refine (H0.out _).mono ?_
  rintro r wl ⟨rfl, hb⟩
  have hres := (hR.call hb).below
  clear hb hR
  go_wp2_with fail
  go_ret
  exact ⟨rfl, hres⟩

theorem opensLaw_any (n e s : ByteArray) (w : World) (hn : n.size ≤ 140737488351232) (he : e.size ≤ 140737488351232) :
    Calls Tryz.prog 4 #[.agg #[.string n, .string e], .string s] w fun r w' => r = .returned (.bool true) ∧ Below w.heap.size w w' := by
  have hc := fun w => open_any n e s w hn he
  by_cases hb : 4000 < n.size ∨ 4000 < e.size
  · have hk : ¬ KeyOk n e := fun h => by have := small_key h; omega
    have ho : OpenR n e s = ([], 40) := if_pos hk
    rw [ho] at hc
    exact opens_big n e s w hb fixed_any hc
  · have hr := fun w => ropen_any n e s w (by omega) (by omega)
    exact opens_small n e s ⟨(OpenR n e s).1.toArray⟩ (OpenR n e s).2 w (by omega) (by omega) fixed_any hc hr

set_option maxRecDepth 100000 in
set_option maxHeartbeats 1600000 in
theorem blocks_core (s x y : ByteArray) (n c d : Int) (w : World) (h0 : ∀ w : World, Calls Tryz.prog 10 #[] w fun e w' => e = .returned (.bool true) ∧ Below w.heap.size w w')
    (h1 : ∀ w : World, Calls Tryz.prog 14 #[.string s, .int .i64 n] w fun r w' => r = .returned (.tuple #[.string x, .int .i64 c]) ∧ Below w.heap.size w w')
    (h2 : ∀ w : World, Calls Tryz.prog 15 #[.string s, .int .i64 n] w fun r w' => r = .returned (.tuple #[.string x, .int .i64 c]) ∧ Below w.heap.size w w')
    (h3 : ∀ w : World, Calls Tryz.prog 16 #[.string s, .int .i64 n] w fun r w' => r = .returned (.tuple #[.string y, .int .i64 d]) ∧ Below w.heap.size w w')
    (h4 : ∀ w : World, Calls Tryz.prog 17 #[.string s, .int .i64 n] w fun r w' => r = .returned (.tuple #[.string y, .int .i64 d]) ∧ Below w.heap.size w w') :
    Calls Tryz.prog 5 #[.string s, .int .i64 n] w fun r w' => r = .returned (.bool true) ∧ Below w.heap.size w w' := by
  have H0 := Lib.hid h0; have H1 := Lib.hid h1; have H2 := Lib.hid h2; have H3 := Lib.hid h3; have H4 := Lib.hid h4
  clear h0 h1 h2 h3 h4
  have hx : (x.toList == x.toList) = true := by simp
  have hy : (y.toList == y.toList) = true := by simp
  have hcc : (c == c) = true := by simp
  have hdd : (d == d) = true := by simp
  have hR := Rws.start w
  go_enter Tryz.func5, Tryz.ntmps5
  go_wp2_with fail
  refine (H1.out _).mono ?_
  rintro r w1 ⟨rfl, hb⟩
  have hR := hR.call hb
  clear hb
  go_wp2_with fail
  refine (H2.out _).mono ?_
  rintro r w2 ⟨rfl, hb⟩
  have hR := hR.call hb
  clear hb
  go_wp2_with fail
  refine (H3.out _).mono ?_
  rintro r w3 ⟨rfl, hb⟩
  have hR := hR.call hb
  clear hb
  go_wp2_with fail
  refine (H4.out _).mono ?_
  rintro r w4 ⟨rfl, hb⟩
  have hR := hR.call hb
  clear hb
  go_wp2_with fail
  refine (H0.out _).mono ?_
  rintro r wl ⟨rfl, hb⟩
  have hres := (hR.call hb).below
  clear hb hR
  go_wp2_with fail
  go_ret
  exact ⟨rfl, hres⟩

theorem blocksLaw_any (s : ByteArray) (n : Int) (w : World) (hs : s.size ≤ 140737488351232) :
    Calls Tryz.prog 5 #[.string s, .int .i64 n] w fun r w' => r = .returned (.bool true) ∧ Below w.heap.size w w' :=
  blocks_core s ⟨(BlockR s n).1.toArray⟩ ⟨(MaskR s n).1.toArray⟩ n (BlockR s n).2 (MaskR s n).2 w fixed_any (fun w => Block_any s n w (by omega)) (fun w => rblock_any s n w (by omega)) (fun w => Mask_any s n w hs) (fun w => rMask_any s n w (by omega))
end Go.Proofs.YtjkjlbchbbpmaaaGreatDoor
