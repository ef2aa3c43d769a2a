/- LBuildR LReplW, in one text. -/
import Derived.Test.YthpagppipifgeaaGreatDoorZLC
import Derived.Laws.MakeOwn
import Derived.Laws.Tables
import Derived.Laws.IdiomStrings
import Derived.Laws.AppendOwn
import Derived.Maps.AppendAt
import Derived.Deep.AppendLies
import Derived.OneCell
import Derived.Test.YthpagppipifgeaaGreatDoorZLB
import Derived.Test.YthpagppipifgeaaGreatDoorZLRws2
import Derived.Test.YthpagppipifgeaaGreatDoorShelf
import Derived.BigQuiet
/- (*strings.Replacer).build at the program's four words: the walk. -/
namespace Go.Proofs.YthpagppipifgeaaGreatDoor
open Go.RowKit

def BT (b0 : Nat) (x34 x92 tv : Value) (w : World) : Prop := (∀ i, w.frozen? ⟨b0, i, none⟩ = false) ∧ (∀ i, i < 256 → i ≠ 34 → i ≠ 92 → w.cell? ⟨b0, i, none⟩ = some (.slice none 0 0)) ∧ w.cell? ⟨b0, 34, none⟩ = some x34 ∧ w.cell? ⟨b0, 92, none⟩ = some x92 ∧ w.cell? ⟨b0, 256, none⟩ = some tv
theorem BT.move {b0 : Nat} {x y z : Value} {u u' : World} (h : BT b0 x y z u) (hm : u'.heap[b0]? = u.heap[b0]?) : BT b0 x y z u' := by
  have hc : ∀ i, u'.cell? ⟨b0, i, none⟩ = u.cell? ⟨b0, i, none⟩ := fun i => by simp only [World.cell?, hm]
  have hf : ∀ i, u'.frozen? ⟨b0, i, none⟩ = u.frozen? ⟨b0, i, none⟩ := fun i => by simp only [World.frozen?, hm]
  exact ⟨fun i => (hf i).trans (h.1 i), fun i a b c => (hc i).trans (h.2.1 i a b c), (hc _).trans h.2.2.1, (hc _).trans h.2.2.2.1, (hc _).trans h.2.2.2.2⟩
theorem BT.lt {b0 : Nat} {x y z : Value} {u : World} (h : BT b0 x y z u) : b0 < u.heap.size := World.block_lt_of_cell? u _ h.2.2.1
theorem BT.set256 {b0 : Nat} {x y z : Value} {u : World} (h : BT b0 x y z u) (v : Value) : BT b0 x y v (u.setCell ⟨b0, 256, none⟩ v) :=
  ⟨fun i => by simpa using h.1 i, fun i a b c => (World.cell?_setCell_other _ _ _ _ (by simp <;> omega)).trans (h.2.1 i a b c), (World.cell?_setCell_other _ _ _ _ (by simp)).trans h.2.2.1, (World.cell?_setCell_other _ _ _ _ (by simp)).trans h.2.2.2.1, World.cell?_setCell_same _ _ _ h.2.2.2.2⟩
theorem BT.set92 {b0 : Nat} {x y z : Value} {u : World} (h : BT b0 x y z u) (v : Value) : BT b0 x v z (u.setCell ⟨b0, 92, none⟩ v) :=
  ⟨fun i => by simpa using h.1 i, fun i a b c => (World.cell?_setCell_other _ _ _ _ (by simp <;> omega)).trans (h.2.1 i a b c), (World.cell?_setCell_other _ _ _ _ (by simp)).trans h.2.2.1, World.cell?_setCell_same _ _ _ h.2.2.2.1, (World.cell?_setCell_other _ _ _ _ (by simp)).trans h.2.2.2.2⟩
theorem BT.set34 {b0 : Nat} {x y z : Value} {u : World} (h : BT b0 x y z u) (v : Value) : BT b0 v y z (u.setCell ⟨b0, 34, none⟩ v) :=
  ⟨fun i => by simpa using h.1 i, fun i a b c => (World.cell?_setCell_other _ _ _ _ (by simp <;> omega)).trans (h.2.1 i a b c), World.cell?_setCell_same _ _ _ h.2.2.1, (World.cell?_setCell_other _ _ _ _ (by simp)).trans h.2.2.2.1, (World.cell?_setCell_other _ _ _ _ (by simp)).trans h.2.2.2.2⟩
theorem BT.below {b0 : Nat} {x y z : Value} {u u' : World} (h : BT b0 x y z u) (hb : Below u.heap.size u u') : BT b0 x y z u' := h.move (hb.block b0 h.lt)
def BytesAt (v : Value) (b1 b2 : UInt8) (w : World) : Prop := ∃ g c, v = .slice (some ⟨g, 0, none⟩) 2 c ∧ 2 ≤ c ∧ w.cell? ⟨g, 0, none⟩ = some (.int .u8 b1.toNat) ∧ w.cell? ⟨g, 1, none⟩ = some (.int .u8 b2.toNat)
theorem eq_nil (w : World) : (binOp BinOp.eql 51 (.slice none 0 0) (.slice none 0 0)).run Tryz.prog w = .ok (.bool true) w := by kernel_rfl
theorem one_byte (u : World) (b : UInt8) : (convert 51 9 (.slice (some ⟨u.heap.size, 0, none⟩) 1 1)).run Tryz.prog (u.alloc (.cells #[.int .u8 b.toNat] 5)) = .ok (.string ⟨#[b]⟩) (u.alloc (.cells #[.int .u8 b.toNat] 5)) := by
  have h := run_convert_bytes_back (P := Tryz.prog) (u.alloc (.cells #[.int .u8 b.toNat] 5)) 51 9 5 ⟨u.heap.size, 0, none⟩ 1 [b] Tryz.underlying51 Tryz.underlying5 Tryz.underlying9 (fun j hj => by
    have : j = 0 := by simpa using hj
    subst this; simp [Addr.add])
  simpa using h
theorem one_92 (u : World) : (convert 51 9 (.slice (some ⟨u.heap.size, 0, none⟩) 1 1)).run Tryz.prog (u.alloc (.cells #[.int .u8 92] 5)) = .ok (.string ⟨#[92]⟩) (u.alloc (.cells #[.int .u8 92] 5)) := one_byte u 92
theorem one_34 (u : World) : (convert 51 9 (.slice (some ⟨u.heap.size, 0, none⟩) 1 1)).run Tryz.prog (u.alloc (.cells #[.int .u8 34] 5)) = .ok (.string ⟨#[34]⟩) (u.alloc (.cells #[.int .u8 34] 5)) := one_byte u 34
theorem bytes_new (u : World) (g : Nat) (hg : g = u.heap.size) (a b : UInt8) (c : Nat) (hc : 2 ≤ c) (k : Nat × Nat) : BytesAt (.slice (some ⟨g, 0, none⟩) 2 c) a b (u.alloc (.cells (bytesRow ⟨#[a, b]⟩ c) 5 k)).drew := by
  subst hg
  have hn := heap_alloc_new u (.cells (bytesRow ⟨#[a, b]⟩ c) 5 k)
  refine ⟨_, c, rfl, hc, ?_, ?_⟩
  · rw [World.cell?_drew]; simp only [World.cell?, hn]; rw [if_neg (by simp), bytesRow, Array.getElem?_append_left (by simp)]; simp
  · rw [World.cell?_drew]; simp only [World.cell?, hn]; rw [if_neg (by simp), bytesRow, Array.getElem?_append_left (by simp)]; simp
theorem BytesAt.move {v : Value} {b1 b2 : UInt8} {u u' : World} (h : BytesAt v b1 b2 u) (hm : ∀ g, v.ownBlock = some g → u'.heap[g]? = u.heap[g]?) : BytesAt v b1 b2 u' := by
  obtain ⟨g, c, rfl, hc, h0, h1⟩ := h
  have e := hm g (by simp [Value.ownBlock])
  have hc' : ∀ i, u'.cell? ⟨g, i, none⟩ = u.cell? ⟨g, i, none⟩ := fun i => by simp only [World.cell?, e]
  exact ⟨g, c, rfl, hc, (hc' 0).trans h0, (hc' 1).trans h1⟩
theorem BytesAt.lt {v : Value} {b1 b2 : UInt8} {u : World} (h : BytesAt v b1 b2 u) {g : Nat} (hg : v.ownBlock = some g) : g < u.heap.size := by
  obtain ⟨g', c, rfl, hc, h0, h1⟩ := h
  obtain rfl : g' = g := by simpa [Value.ownBlock] using hg
  exact World.block_lt_of_cell? u _ h0
/-- Bytes lie neither in the table nor in the row of texts. -/
theorem BytesAt.apart {v x y z tv : Value} {b1 b2 : UInt8} {u : World} {b0 base : Nat} {s0 : ByteArray} (h : BytesAt v b1 b2 u) (hT : BT b0 x y z u) (hO : u.ownsRow base 9 1 tv 1 [.string s0]) {g : Nat} (hg : v.ownBlock = some g) : g ≠ b0 ∧ tv.ownBlock ≠ some g := by
  obtain ⟨g', c, rfl, hc, h0, h1⟩ := h
  obtain rfl : g' = g := by simpa [Value.ownBlock] using hg
  constructor
  · rintro rfl
    have := hT.2.1 0 (by omega) (by omega) (by omega)
    rw [this] at h0
    cases h0
  · intro e
    obtain ⟨_, ⟨_, hn⟩ | ⟨g1, c1, cur, rfl, hbg, hh, r⟩⟩ := id hO
    · omega
    · obtain rfl : g1 = g' := by simpa [Value.ownBlock] using e
      have := World.ownsRow.cells hO (g := g1) rfl 0 _ rfl
      rw [show (⟨g1, 0, none⟩ : Addr).add 0 = ⟨g1, 0, none⟩ from rfl, h0] at this
      cases this
/-- The table that quotes lies at b0. -/
def BQ (b0 g1 c1 g2 c2 ts c : Nat) (w : World) : Prop := BT b0 (.slice (some ⟨g1, 0, none⟩) 2 c1) (.slice (some ⟨g2, 0, none⟩) 2 c2) (.slice (some ⟨ts, 0, none⟩) 2 c) w
  ∧ (w.cell? ⟨g1, 0, none⟩ = some (.int .u8 92) ∧ w.cell? ⟨g1, 1, none⟩ = some (.int .u8 34)) ∧ (w.cell? ⟨g2, 0, none⟩ = some (.int .u8 92) ∧ w.cell? ⟨g2, 1, none⟩ = some (.int .u8 92))
  ∧ w.cell? ⟨ts, 0, none⟩ = some (.string ⟨#[92]⟩) ∧ w.cell? ⟨ts, 1, none⟩ = some (.string ⟨#[34]⟩) ∧ 2 ≤ c1 ∧ 2 ≤ c2 ∧ 2 ≤ c
theorem BQ.below {b0 g1 c1 g2 c2 ts c : Nat} {u u' : World} (h : BQ b0 g1 c1 g2 c2 ts c u) (hb : Below u.heap.size u u') : BQ b0 g1 c1 g2 c2 ts c u' := by
  obtain ⟨h1, ⟨h2, h3⟩, ⟨h4, h5⟩, h6, h7, h8⟩ := h
  exact ⟨h1.below hb, ⟨(hb.cell (World.block_lt_of_cell? u _ h2)).trans h2, (hb.cell (World.block_lt_of_cell? u _ h3)).trans h3⟩, ⟨(hb.cell (World.block_lt_of_cell? u _ h4)).trans h4, (hb.cell (World.block_lt_of_cell? u _ h5)).trans h5⟩, (hb.cell (World.block_lt_of_cell? u _ h6)).trans h6, (hb.cell (World.block_lt_of_cell? u _ h7)).trans h7, h8⟩
theorem BQ.mk' {b0 base : Nat} {x34 x92 tv : Value} {w : World} (hT : BT b0 x34 x92 tv w) (h1 : BytesAt x34 92 34 w) (h2 : BytesAt x92 92 92 w) (hO : w.ownsRow base 9 1 tv 2 [.string ⟨#[92]⟩, .string ⟨#[34]⟩]) : ∃ g1 c1 g2 c2 ts c, BQ b0 g1 c1 g2 c2 ts c w := by
  obtain ⟨g1, c1, rfl, hc1, a0, a1⟩ := h1
  obtain ⟨g2, c2, rfl, hc2, b0, b1⟩ := h2
  obtain ⟨_, ⟨_, hn⟩ | ⟨ts, c, cur, rfl, hbg, hh, hcc, r⟩⟩ := id hO
  · omega
  · have e0 := World.ownsRow.cells hO (g := ts) rfl 0 _ rfl
    have e1 := World.ownsRow.cells hO (g := ts) rfl 1 _ rfl
    exact ⟨g1, c1, g2, c2, ts, c, hT, ⟨a0, a1⟩, ⟨b0, b1⟩, e0, e1, hc1, hc2, hcc⟩
/-- The replacer's words. -/
def RepW (sb : Nat) (w : World) : Prop := w.cell? ⟨sb, 0, none⟩ = some (.string ⟨#[34]⟩) ∧ w.cell? ⟨sb, 1, none⟩ = some (.string ⟨#[92, 34]⟩) ∧ w.cell? ⟨sb, 2, none⟩ = some (.string ⟨#[92]⟩) ∧ w.cell? ⟨sb, 3, none⟩ = some (.string ⟨#[92, 92]⟩)
theorem info_str3 : (Tryz.prog.info? 9).map (fun i => (i.zero, i.size, i.bytes)) = some (some (.string ⟨#[]⟩), 1, 16) := by kernel_rfl
def z2s : Array Value := madeCells #[.string ⟨#[]⟩] 2
theorem run_make2 (u : World) : (Instr.makeSlice 43 (.int .i64 0) (.int .i64 2)).run Tryz.prog u = .ok (.slice (some ⟨u.heap.size, 0, none⟩) 0 2) (u.alloc (.cells z2s 9)) := by
  obtain ⟨i0, hi, hz0, hz1, hz2⟩ := info_parts info_str3
  have h := run_make (P := Tryz.prog) u 43 9 i0 (.string ⟨#[]⟩) Tryz.underlying43 hi hz0 .i64 .i64 0 2 (by omega) (by omega) (by rw [hz2]; omega) (by omega)
  simpa [hz1, Value.cells, z2s] using h
set_option maxRecDepth 100000 in
theorem zc_list : Tryz.zeroCells163.toList = List.replicate 257 (.slice none 0 0) := by kernel_rfl
/-- The replacer's table as 'build' begins it. -/
def tbl0 (v : Value) : Array Value := ((List.replicate 257 (Value.slice none 0 0)).set 256 v).toArray
theorem tbl0_get (v : Value) (i : Nat) (h : i < 256) : (tbl0 v)[i]? = some (.slice none 0 0) := by
  rw [tbl0, List.getElem?_toArray, List.getElem?_set_ne (by omega), List.getElem?_replicate, if_pos (by omega)]
theorem tbl0_256 (v : Value) : (tbl0 v)[256]? = some v := by
  rw [tbl0, List.getElem?_toArray, List.getElem?_set_self (by rw [List.length_replicate]; omega)]
theorem run_tbl0 (u : World) (v : Value) (hv : v.oneCell' = true) (g : Nat) (h : u.heap[g]? = some (.cells Tryz.zeroCells163 163 (0, 0))) :
    (storeCells ⟨g, 0, none⟩ (Tryz.zeroCells163.toList.set 256 v)).run Tryz.prog u = .ok () (u.setRow g (tbl0 v)) := by
  have hz : Tryz.zeroCells163.size = 257 := by rw [← Array.length_toList, zc_list]; exact List.length_replicate ..
  have := run_storeCells_from (P := Tryz.prog) g 163 (Tryz.zeroCells163.toList.set 256 v) 0 _ u h (by rw [List.length_set, Array.length_toList]; omega) (fun x hx => by
    rw [zc_list] at hx
    rcases List.mem_or_eq_of_mem_set hx with h | h
    · rw [List.eq_of_mem_replicate h]; rfl
    · rw [h]; exact hv)
  rw [List.take_zero, List.nil_append] at this
  rw [tbl0, ← zc_list]
  exact this
set_option maxRecDepth 100000 in
set_option maxHeartbeats 4000000 in
theorem build_r (rb sb cap : Nat) (w : World) (h0 : w.cell? ⟨rb, 4, none⟩ = some (.slice (some ⟨sb, 0, none⟩) 4 cap)) (hw : RepW sb w) (_ : 4 ≤ cap) :
    Calls Tryz.prog 85 #[.pointer (some ⟨rb, 0, none⟩)] w fun e w' => ∃ b0, e = .returned (.iface 164 (.pointer (some ⟨b0, 0, none⟩))) ∧ (∃ g1 c1 g2 c2 ts c, BQ b0 g1 c1 g2 c2 ts c w') ∧ Below w.heap.size w w' := by
  obtain ⟨c0, c1, c2, c3⟩ := hw
  obtain ⟨i0, hi, hz0, hz1, hz2⟩ := info_parts info_str3
  have hmk := run_make2
  go_enter Tryz.func85, Tryz.ntmps85
  go_upto_region 6 with fail
  go_loopg [4, 5] 2 (fun gg s4 s5 wr => wr = w ∧ ∃ kk : Nat, kk + gg = 2 ∧ s5 = .int .i64 (2 * kk : Nat) ∧ s4 = .bool (kk == 0))
  case atStart => exact ⟨rfl, 0, rfl, rfl, rfl⟩
  case round =>
    obtain ⟨rfl, kk, hkk, rfl, rfl⟩ := hrel
    rcases (by omega : kk = 0 ∨ kk = 1 ∨ kk = 2) with rfl | rfl | rfl
    · go_wp2_with fail
      go_roundg 1
      case measure => omega
      case rel => exact ⟨rfl, 1, rfl, rfl, rfl⟩
    · go_wp2_with fail
      go_roundg 0
      case measure => omega
      case rel => exact ⟨rfl, 2, rfl, rfl, rfl⟩
    · have hst := run_tbl0 ((wr.alloc (.cells z2s 9)).alloc (.cells Tryz.zeroCells163 163)) (.slice (some ⟨wr.heap.size, 0, none⟩) 0 2) rfl (wr.heap.size + 1) (by have := heap_alloc_new (wr.alloc (.cells z2s 9)) (.cells Tryz.zeroCells163 163); simpa using this)
      go_upto_region 28 with fail
      have hZ0 : ((wr.alloc (.cells z2s 9)).alloc (.cells Tryz.zeroCells163 163)).heap[wr.heap.size + 1]? = some (.cells Tryz.zeroCells163 163 (0, 0)) := by have := heap_alloc_new (wr.alloc (.cells z2s 9)) (.cells Tryz.zeroCells163 163); simpa using this
      clear hst
      obtain ⟨wz, hwz⟩ : ∃ wz, wz = ((wr.alloc (.cells z2s 9)).alloc (.cells Tryz.zeroCells163 163)).setRow (wr.heap.size + 1) (tbl0 (.slice (some ⟨wr.heap.size, 0, none⟩) 0 2)) := ⟨_, rfl⟩
      have hB : wz.heap[wr.heap.size + 1]? = some (.cells (tbl0 (.slice (some ⟨wr.heap.size, 0, none⟩) 0 2)) 163 (0, 0)) := by rw [hwz]; exact setRow_heap _ _ _ _ _ _ hZ0
      have hBT : BT (wr.heap.size + 1) (.slice none 0 0) (.slice none 0 0) (.slice (some ⟨wr.heap.size, 0, none⟩) 0 2) wz := by
        refine ⟨fun i => by simp [World.frozen?, hB], fun i hi _ _ => ?_, ?_, ?_, ?_⟩
        · simp only [World.cell?, hB]; rw [if_neg (by simp)]; exact tbl0_get _ i hi
        · simp only [World.cell?, hB]; rw [if_neg (by simp)]; exact tbl0_get _ 34 (by omega)
        · simp only [World.cell?, hB]; rw [if_neg (by simp)]; exact tbl0_get _ 92 (by omega)
        · simp only [World.cell?, hB]; rw [if_neg (by simp)]; exact tbl0_256 _
      rw [← hwz]
      have hbw : Below wr.heap.size wr wz := by
        rw [hwz]
        exact (((Below.refl _ wr).alloc (Nat.le_refl _) _).alloc (by simp) _).trans ⟨rfl, rfl, rfl, by simp [World.setRow], fun k hk => setRow_other _ _ k _ (by omega)⟩
      have hown : wz.ownsRow wr.heap.size 9 1 (.slice (some ⟨wr.heap.size, 0, none⟩) 0 2) 0 [] := by
        rw [hwz]
        have h1 := (World.ownsRow_made wr (e := 9) (size := 1) z2s 2 (Nat.le_refl _) (by unfold maxLen; omega) (by simp [z2s, madeCells])).alloc (.cells Tryz.zeroCells163 163)
        obtain ⟨hl, ⟨h0, _⟩ | ⟨g, c, cur, hv, hg, hh, r⟩⟩ := h1
        · cases h0
        · refine ⟨hl, Or.inr ⟨g, c, cur, hv, hg, ?_, r⟩⟩
          cases hv
          exact (setRow_other _ _ _ _ (by omega)).trans hh
      have hLs := World.block_lt_of_cell? wr _ c0
      have hLr := World.block_lt_of_cell? wr _ h0
      obtain ⟨b0, hb0⟩ : ∃ b0, b0 = wr.heap.size + 1 := ⟨_, rfl⟩
      have hnb0 : (Value.slice (some ⟨wr.heap.size, 0, none⟩) 0 2).ownBlock ≠ some b0 := by rw [hb0]; simp [Value.ownBlock]
      rw [← hb0] at hBT
      rw [← hb0]
      have HW : Hid (∀ u, Below wr.heap.size wr u → RepW sb u) := Lib.hid fun u hu =>
        ⟨(hu.cell (p := ⟨sb, 0, none⟩) hLs).trans c0, (hu.cell (p := ⟨sb, 1, none⟩) hLs).trans c1, (hu.cell (p := ⟨sb, 2, none⟩) hLs).trans c2, (hu.cell (p := ⟨sb, 3, none⟩) hLs).trans c3⟩
      have hbb : wr.heap.size < b0 := by omega
      have hg92 : ((⟨#[92]⟩ : ByteArray)[0]'(by decide)).toNat = 92 := rfl
      have hg34 : ((⟨#[34]⟩ : ByteArray)[0]'(by decide)).toNat = 34 := rfl
      clear hwz hB hZ0 c0 c1 c2 c3 h0 hb0
      obtain ⟨wa, rfl⟩ : ∃ wa, wa = wr := ⟨_, rfl⟩
      go_loopg [12] 2 (fun gg s12 u => ∃ (kk : Nat) (x34 x92 tv : Value), kk + gg = 2 ∧ s12 = .int .i64 (2 - 2 * (kk : Int)) ∧ Aside (BT b0 x34 x92 tv u) ∧ Aside (Below wa.heap.size wa u)
        ∧ Aside (tv.ownBlock ≠ some b0) ∧ Aside (u.ownsRow wa.heap.size 9 1 tv kk ([.string ⟨#[92]⟩, .string ⟨#[34]⟩].take kk)) ∧ Aside (kk = 0 → x34 = .slice none 0 0 ∧ x92 = .slice none 0 0) ∧ Aside (1 ≤ kk → BytesAt x92 92 92 u) ∧ Aside (kk = 1 → x34 = .slice none 0 0) ∧ Aside (kk = 2 → BytesAt x34 92 34 u))
      case atStart => exact ⟨0, _, _, _, rfl, rfl, hBT, hbw, hnb0, hown, fun _ => ⟨rfl, rfl⟩, fun h => by omega, fun h => by omega, fun h => by omega⟩
      case round =>
        obtain ⟨kk, x34, x92, tv, hk2, rfl, HT, HB, HN, HO, H0, H1, H2, H3⟩ := hrel
        rcases (by omega : kk = 0 ∨ kk = 1 ∨ kk = 2) with rfl | rfl | rfl
        · obtain ⟨rfl, rfl⟩ := H0.out rfl
          obtain ⟨tf, ta, t34, t92, t256⟩ := HT.out
          obtain ⟨d0, d1, d2, d3⟩ := HW.out _ HB.out
          have hen := eq_nil
          go_upto_region 33 with fail
          have hob := one_92 wr
          have hAL := b_trans (b_alloc wr (.cells #[.int .u8 92] 5)) (b_alloc _ (.cells #[.string ⟨#[92]⟩] 9))
          have hnb : tv.ownBlock ≠ some b0 := HN.out
          go_upto_region 34 with (at_builtin; refine wpList_append_own_at _ rfl _ _ 43 rfl wa.heap.size 9 i0 (.string ⟨#[]⟩) 1 16 Tryz.underlying43 hi hz0 hz1 hz2 rfl (by decide) tv 0 [] rfl ((HO.out.alloc _).alloc _) ⟨wr.heap.size + 1, 0, none⟩ 1 1 [.string ⟨#[92]⟩] rfl rfl ?c1 ?c2 ?c3 (by omega) ?c5 ?_)
          case c2 => rfl
          case c3 => unfold maxLen; omega
          case c5 => have := HB.out.size; omega
          intro v' w2 hown2 hgr hne hat
          obtain ⟨g1, c1, rfl⟩ : ∃ g1 c1, v' = .slice (some ⟨g1, 0, none⟩) 1 c1 := by
            obtain ⟨_, ⟨_, h0⟩ | ⟨g, c, cur, hv, _⟩⟩ := hown2
            · omega
            · exact ⟨g, c, hv⟩
          have hlt0 := HT.out.lt
          have hBT2 : BT b0 (.slice none 0 0) (.slice none 0 0) tv w2 := (HT.out.below hAL).move (hgr.block b0 (Nat.lt_of_lt_of_le hlt0 hAL.size) (Ne.symm hnb))
          have hnb2 : (Value.slice (some ⟨g1, 0, none⟩) 1 c1).ownBlock ≠ some b0 := by
            rcases hat with h | h
            · rw [h]; exact hnb
            · rw [h]; simp; have := hAL.size; simp at this; omega
          have q256 := hBT2.2.2.2.2
          have qf := hBT2.1
          have HBT2 := Lib.hid hBT2
          have hbd : Below wa.heap.size wr w2 := (Below.refl _ wr).trans ((hAL.mono HB.out.size).grown hgr (by have := HB.out.size; simp; omega) (fun q hq => (HO.out.lt q hq).1))
          have HBD := Lib.hid hbd
          have HOW := Lib.hid hown2
          have hby := fun u => run_bytes_of_string (P := Tryz.prog) u 9 51 5 ⟨#[92, 92]⟩ Tryz.underlying9 Tryz.underlying51 Tryz.underlying5
          clear hBT2 hbd hown2 hgr hne hat
          go_upto_region 34 with fail
          have h3 := HBT2.out.set256 (.slice (some ⟨g1, 0, none⟩) 1 c1)
          obtain ⟨w3, hw3⟩ : ∃ w3, w3 = w2.setCell ⟨b0, 256, none⟩ (.slice (some ⟨g1, 0, none⟩) 1 c1) := ⟨_, rfl⟩
          rw [← hw3] at h3 ⊢
          have q92 := h3.2.2.2.1
          have qf3 := h3.1
          have hlt3 := h3.lt
          have hO3 : w3.ownsRow wa.heap.size 9 1 (.slice (some ⟨g1, 0, none⟩) 1 c1) 1 [.string ⟨#[92]⟩] := by rw [hw3]; exact ownsRow_setCell_other HOW.out hnb2 _
          have hB3 : Below wa.heap.size wr w3 := by rw [hw3]; exact HBD.out.setCell (Nat.le_of_lt hbb) _
          have HALL := Lib.hid (And.intro h3 (And.intro hO3 hB3))
          clear hw3 h3 hO3 hB3 HBT2 HBD HOW q256 qf
          go_wp2_with fail
          obtain ⟨h3, hO3, hB3⟩ := HALL.out
          have hcg : 2 ≤ grownCap w3 2 0 5 := grownCap_ge w3 2 0 _
          go_roundg 1
          case measure => omega
          case rel =>
            refine ⟨1, _, _, _, rfl, by go_num, ((h3.set92 _).below (b_alloc _ _)).move rfl, ?_, hnb2, ?_, fun h => by omega, ?_, fun _ => rfl, fun h => by omega⟩
            · exact (HB.out.trans (((hB3.setCell (Nat.le_of_lt hbb) _).alloc (by have := hB3.size; have := HB.out.size; simp; omega) _))).drew
            · exact ((ownsRow_setCell_other hO3 hnb2 _).alloc _).drew
            · intro _
              exact bytes_new _ _ (by simp) 92 92 _ hcg _
        · obtain rfl := H2.out rfl
          have hBY := H1.out (Nat.le_refl _)
          have hO1 : wr.ownsRow wa.heap.size 9 1 tv 1 [.string ⟨#[92]⟩] := HO.out
          obtain ⟨tf, ta, t34, t92, t256⟩ := HT.out
          obtain ⟨d0, d1, d2, d3⟩ := HW.out _ HB.out
          have hen := eq_nil
          go_upto_region 33 with fail
          have hob := one_34 wr
          have hAL := b_trans (b_alloc wr (.cells #[.int .u8 34] 5)) (b_alloc _ (.cells #[.string ⟨#[34]⟩] 9))
          have hnb : tv.ownBlock ≠ some b0 := HN.out
          go_upto_region 34 with (at_builtin; refine wpList_append_own_at _ rfl _ _ 43 rfl wa.heap.size 9 i0 (.string ⟨#[]⟩) 1 16 Tryz.underlying43 hi hz0 hz1 hz2 rfl (by decide) tv 1 [.string ⟨#[92]⟩] rfl ((hO1.alloc _).alloc _) ⟨wr.heap.size + 1, 0, none⟩ 1 1 [.string ⟨#[34]⟩] rfl rfl ?e1 ?e2 ?e3 (by omega) ?e5 ?_)
          case e2 => rfl
          case e3 => unfold maxLen; omega
          case e5 => have := HB.out.size; omega
          intro v' w2 hown2 hgr hne hat
          obtain ⟨g1, c1, rfl⟩ : ∃ g1 c1, v' = .slice (some ⟨g1, 0, none⟩) 2 c1 := by
            obtain ⟨_, ⟨_, h0⟩ | ⟨g, c, cur, hv, _⟩⟩ := hown2
            · omega
            · exact ⟨g, c, hv⟩
          have hlt0 := HT.out.lt
          have hBT2 : BT b0 (.slice none 0 0) x92 tv w2 := (HT.out.below hAL).move (hgr.block b0 (Nat.lt_of_lt_of_le hlt0 hAL.size) (Ne.symm hnb))
          have hnb2 : (Value.slice (some ⟨g1, 0, none⟩) 2 c1).ownBlock ≠ some b0 := by
            rcases hat with h | h
            · rw [h]; exact hnb
            · rw [h]; simp; have := hAL.size; simp at this; omega
          have q256 := hBT2.2.2.2.2
          have qf := hBT2.1
          have HBT2 := Lib.hid hBT2
          have HKP : Hid (∀ g, x92.ownBlock = some g → g < wr.heap.size ∧ g ≠ b0 ∧ w2.heap[g]? = wr.heap[g]?) := Lib.hid fun g hg => by
            have hl := hBY.lt hg
            obtain ⟨ha, hb⟩ := hBY.apart HT.out hO1 hg
            exact ⟨hl, ha, (hgr.block g (Nat.lt_of_lt_of_le hl hAL.size) (fun e => hb e.symm)).trans (hAL.block g hl)⟩
          have hbd : Below wa.heap.size wr w2 := (Below.refl _ wr).trans ((hAL.mono HB.out.size).grown hgr (by have := HB.out.size; simp; omega) (fun q hq => (HO.out.lt q hq).1))
          have HBD := Lib.hid hbd
          have HOW := Lib.hid hown2
          have hby := fun u => run_bytes_of_string (P := Tryz.prog) u 9 51 5 ⟨#[92, 34]⟩ Tryz.underlying9 Tryz.underlying51 Tryz.underlying5
          clear hBT2 hbd hown2 hgr hne hat
          go_upto_region 34 with fail
          have h3 := HBT2.out.set256 (.slice (some ⟨g1, 0, none⟩) 2 c1)
          obtain ⟨w3, hw3⟩ : ∃ w3, w3 = w2.setCell ⟨b0, 256, none⟩ (.slice (some ⟨g1, 0, none⟩) 2 c1) := ⟨_, rfl⟩
          rw [← hw3] at h3 ⊢
          have q34 := h3.2.2.1
          have qf3 := h3.1
          have hlt3 := h3.lt
          have HKQ : Hid (∀ g, x92.ownBlock = some g → g < w3.heap.size ∧ g ≠ b0 ∧ w3.heap[g]? = wr.heap[g]?) := Lib.hid fun g hg => by
            obtain ⟨h1, h2, h4⟩ := HKP.out g hg
            have hs := HBD.out.size
            rw [hw3]
            refine ⟨by simp; omega, h2, ?_⟩
            exact (heap_setCell_other w2 ⟨b0, 256, none⟩ g _ h2).trans h4
          have hO3 : w3.ownsRow wa.heap.size 9 1 (.slice (some ⟨g1, 0, none⟩) 2 c1) 2 [.string ⟨#[92]⟩, .string ⟨#[34]⟩] := by rw [hw3]; exact ownsRow_setCell_other HOW.out hnb2 _
          have hB3 : Below wa.heap.size wr w3 := by rw [hw3]; exact HBD.out.setCell (Nat.le_of_lt hbb) _
          have HALL := Lib.hid (And.intro h3 (And.intro hO3 hB3))
          clear hw3 h3 hO3 hB3 HBT2 HBD HOW q256 qf
          go_wp2_with fail
          obtain ⟨h3, hO3, hB3⟩ := HALL.out
          have hcg : 2 ≤ grownCap w3 2 0 5 := grownCap_ge w3 2 0 _
          go_roundg 0
          case measure => omega
          case rel =>
            refine ⟨2, _, _, _, rfl, by go_num, ((h3.set34 _).below (b_alloc _ _)).move rfl, ?_, hnb2, ?_, fun h => by omega, ?_, fun h => by omega, ?_⟩
            · exact (HB.out.trans (((hB3.setCell (Nat.le_of_lt hbb) _).alloc (by have := hB3.size; have := HB.out.size; simp; omega) _))).drew
            · exact ((ownsRow_setCell_other hO3 hnb2 _).alloc _).drew
            · intro _
              refine hBY.move fun g hg => ?_
              obtain ⟨h1, h2, h4⟩ := HKQ.out g hg
              refine Eq.trans ?_ h4
              exact ((b_alloc (w3.setCell _ _) _).block g (by simpa using h1)).trans (heap_setCell_other w3 ⟨b0, 34, none⟩ g _ h2)
            · intro _
              exact bytes_new _ _ (by simp) 92 34 _ hcg _
        · obtain ⟨g1, c1, g2, c2, ts, c, hQ⟩ := BQ.mk' HT.out (H3.out rfl) (H1.out (by omega)) HO.out
          have hbb2 := HB.out
          clear HT HB HN HO H0 H1 H2 H3
          go_wp2_with fail
          go_ret
          exact ⟨_, rfl, ⟨_, _, _, _, _, _, hQ⟩, hbb2⟩
end Go.Proofs.YthpagppipifgeaaGreatDoor
/- strings.byteStringReplacer.Replace at the table that quotes: the walk. -/
namespace Go.Proofs.YthpagppipifgeaaGreatDoor
open Go.RowKit

theorem neq_some2 (g c : Nat) (w : World) : (binOp BinOp.neq 51 (.slice (some ⟨g, 0, none⟩) 2 c) (.slice none 0 0)).run Tryz.prog w = .ok (.bool true) w := by kernel_rfl
theorem neq_none2 (w : World) : (binOp BinOp.neq 51 (.slice none 0 0) (.slice none 0 0)).run Tryz.prog w = .ok (.bool false) w := by kernel_rfl
/-- The table's cell of a byte. -/
def cellB (g1 c1 g2 c2 : Nat) (c : UInt8) : Value := if c = 34 then .slice (some ⟨g1, 0, none⟩) 2 c1 else if c = 92 then .slice (some ⟨g2, 0, none⟩) 2 c2 else .slice none 0 0
theorem BQ.at_ {b0 g1 c1 g2 c2 ts c : Nat} {w : World} (h : BQ b0 g1 c1 g2 c2 ts c w) (x : UInt8) : w.cell? ⟨b0, x.toNat, none⟩ = some (cellB g1 c1 g2 c2 x) := by
  obtain ⟨⟨_, ha, h34, h92, _⟩, _⟩ := h
  unfold cellB
  split
  · next e => subst e; exact h34
  · split
    · next e => subst e; exact h92
    · next e1 e2 =>
      refine ha _ (UInt8.toNat_lt x) (fun e => e1 ?_) (fun e => e2 ?_)
      · exact UInt8.toNat_inj.1 e
      · exact UInt8.toNat_inj.1 e
theorem info_u8 : (Tryz.prog.info? 5).map (fun i => (i.zero, i.size, i.bytes)) = some (some (.int .u8 0), 1, 1) := by kernel_rfl
theorem run_makeB (M : Nat) (hM : M ≤ 1000) (u : World) : (Instr.makeSlice 51 (.int .i64 M) (.int .i64 M)).run Tryz.prog u = .ok (.slice (some ⟨u.heap.size, 0, none⟩) M M) (u.alloc (.cells (madeCells #[.int .u8 0] M) 5)) := by
  obtain ⟨i0, hi, hz0, hz1, hz2⟩ := info_parts info_u8
  have h := run_make (P := Tryz.prog) u 51 5 i0 (.int .u8 0) Tryz.underlying51 hi hz0 .i64 .i64 M M (by omega) (by omega) (by rw [hz2]; omega) (by omega)
  simpa [hz1, Value.cells] using h
theorem run_makeB' (M : Nat) (hM : M ≤ 100000 := by omega) (u : World) : (Instr.makeSlice 51 (.int .i64 M) (.int .i64 M)).run Tryz.prog u = .ok (.slice (some ⟨u.heap.size, 0, none⟩) M M) (u.alloc (.cells (madeCells #[.int .u8 0] M) 5)) := by
  obtain ⟨i0, hi, hz0, hz1, hz2⟩ := info_parts info_u8
  have h := run_make (P := Tryz.prog) u 51 5 i0 (.int .u8 0) Tryz.underlying51 hi hz0 .i64 .i64 M M (by omega) (by omega) (by rw [hz2]; omega) (by omega)
  simpa [hz1, Value.cells] using h
theorem quote_part {l : List UInt8} {i : Nat} {x : UInt8} (hx : l[i]? = some x) : quoteL (l.take (i + 1)) = quoteL (l.take i) ++ quoteC x ∧ (quoteL (l.take i)).length + (quoteC x).length ≤ (quoteL l).length := by
  obtain ⟨hi, rfl⟩ := List.getElem?_eq_some_iff.1 hx
  have e : quoteL (l.take (i + 1)) = quoteL (l.take i) ++ quoteC l[i] := by rw [take_snoc hi, quote_snoc]
  refine ⟨e, ?_⟩
  have h2 : quoteL l = quoteL (l.take (i + 1)) ++ quoteL (l.drop (i + 1)) := by
    unfold quoteL
    rw [← List.flatMap_append, List.take_append_drop]
  rw [h2, e]
  simp only [List.length_append]
  omega
theorem row_put (D E : List UInt8) (rest : List Value) : ((bvs D ++ rest).toArray.toList.take D.length ++ (bvs E ++ (bvs D ++ rest).toArray.toList.drop (D.length + (bvs E).length))).toArray = (bvs (D ++ E) ++ rest.drop E.length).toArray := by
  congr 1
  have h1 : (bvs D).length = D.length := bvs_len D
  have h2 : (bvs E).length = E.length := bvs_len E
  rw [List.toList_toArray, ← h1, List.take_left, bvs_app, List.append_assoc, h2, ← List.drop_drop, List.drop_left]
/-- Bytes copied into a row of one's own. -/
theorem run_copyB {B g M c1 ga : Nat} {w0 w : World} {D : List UInt8} {rest : List Value} (E : List UInt8) (h : Rws B w0 w [(g, (bvs D ++ rest).toArray, 5)]) (hM : D.length + rest.length = M) (hE : D.length + E.length ≤ M)
    (hs : ∀ j v, (bvs E)[j]? = some v → w.cell? ((⟨ga, 0, none⟩ : Addr).add j) = some v) :
    ∃ w3, (Builtin.copy_ #[51, 51] 3 #[.slice (some ⟨g, D.length, none⟩) (M - D.length) (M - D.length), .slice (some ⟨ga, 0, none⟩) E.length c1]).run Tryz.prog w = .ok (goInt E.length) w3 ∧ Rws B w0 w3 [(g, (bvs (D ++ E) ++ rest.drop E.length).toArray, 5)] := by
  have h1 := run_copy_row (P := Tryz.prog) w 51 51 3 5 g D.length (M - D.length) (M - D.length) ⟨ga, 0, none⟩ E.length c1 _ _ (bvs E) Tryz.underlying51 (by kernel_rfl) (h.row _ (List.Mem.head _)).2 (by rw [bvs_len]; exact (Nat.min_eq_left (by omega)).symm) hs (by simp [bvs_len]; omega) (bvs_cells _)
  rw [bvs_len] at h1
  refine ⟨_, h1, ?_⟩
  have := h.set (g := g) Pick.here (bvs (D ++ E) ++ rest.drop E.length).toArray
  have e := row_put D E rest
  rw [bvs_len] at e
  show Rws B w0 (w.setRow g (List.take D.length (bvs D ++ rest).toArray.toList ++ bvs E ++ List.drop (D.length + E.length) (bvs D ++ rest).toArray.toList).toArray) _
  rw [List.append_assoc, e]
  exact this
theorem row_set (D : List UInt8) (x : UInt8) (rest : List Value) (h : 1 ≤ rest.length) : (bvs D ++ rest).toArray.setIfInBounds D.length (.int .u8 ((x.toNat : Nat) : Int)) = (bvs (D ++ [x]) ++ rest.drop 1).toArray := by
  apply Array.ext'
  rw [Array.toList_setIfInBounds]
  cases rest with
  | nil => simp at h
  | cons y r =>
    have h1 : (bvs D).length = D.length := bvs_len D
    show List.set (bvs D ++ y :: r) D.length _ = _
    rw [List.set_append_right _ _ (by omega), h1, Nat.sub_self, bvs_app]
    simp [bvs]
theorem run_textB (g M : Nat) (D : List UInt8) (u : World) (hM : D.length = M) (hc : ∀ j v, (bvs D)[j]? = some v → u.cell? ((⟨g, 0, none⟩ : Addr).add j) = some v) : (convert 51 9 (.slice (some ⟨g, 0, none⟩) M M)).run Tryz.prog u = .ok (.string (bs D)) u := by
  subst hM
  exact run_convert_bytes_back (P := Tryz.prog) u 51 9 5 ⟨g, 0, none⟩ D.length D Tryz.underlying51 Tryz.underlying5 Tryz.underlying9 (fun j hj => hc j _ (by
    rw [bvs, List.getElem?_map, List.getElem?_eq_getElem (by simpa using hj)]; rfl))
theorem spc_next {l : List UInt8} {i : Nat} {x : UInt8} (hx : l[i]? = some x) : spc (l.take (i + 1)) = spc (l.take i) + (if spC x then 1 else 0) := by
  obtain ⟨hi, rfl⟩ := List.getElem?_eq_some_iff.1 hx
  rw [take_snoc hi, spc_snoc]
set_option maxRecDepth 100000 in
set_option maxHeartbeats 4000000 in
theorem brep_any (b0 g1 c1 g2 c2 ts c : Nat) (l : List UInt8) (w : World) (hq : BQ b0 g1 c1 g2 c2 ts c w) (hs : l.length ≤ 64) :
    Calls Tryz.prog 188 #[.pointer (some ⟨b0, 0, none⟩), .string (bs l)] w (RetS (bs (quoteL l)) w) := by
  have HQ := Lib.hid hq
  have q256 := hq.1.2.2.2.2
  have hns := neq_some2
  have hnn := neq_none2
  have hsz := bs_size l
  have hdt : (bs l).data.toList = l := by simp [bs]
  have hspl : spc l ≤ l.length := List.countP_le_length
  clear hq
  go_enter Tryz.func188, Tryz.ntmps188
  go_upto_if 26 with fail
  go_cut [5, 6] (fun s5 s6 wx => s5 = .int .i64 ((l.length + spc l : Nat) : Int) ∧ s6 = .bool (decide (0 < spc l)) ∧ Below w.heap.size w wx)
  case first =>
    by_cases h16 : 16 ≤ l.length
    · have h16z : (16 : Int) ≤ (l.length : Int) := by omega
      have hcs := count_spc l
      obtain ⟨n92, hn92⟩ : ∃ n, n = l.count 92 := ⟨_, rfl⟩
      obtain ⟨n34, hn34⟩ : ∃ n, n = l.count 34 := ⟨_, rfl⟩
      have H92 : Hid (∀ wx, Calls Tryz.prog 190 #[.string (bs l), .string ⟨#[92]⟩] wx fun e w' => e = .returned (.int .i64 (n92 : Int)) ∧ w' = wx) := Lib.hid fun wx => by
        have := Tryz.strings_Count_one (bs l) 92 wx
        rw [hdt] at this
        rw [hn92]; exact this
      have H34 : Hid (∀ wx, Calls Tryz.prog 190 #[.string (bs l), .string ⟨#[34]⟩] wx fun e w' => e = .returned (.int .i64 (n34 : Int)) ∧ w' = wx) := Lib.hid fun wx => by
        have := Tryz.strings_Count_one (bs l) 34 wx
        rw [hdt] at this
        rw [hn34]; exact this
      rw [← hn92, ← hn34] at hcs
      have hg92 : ((⟨#[92]⟩ : ByteArray)[0]'(by decide)).toNat = 92 := rfl
      have hg34 : ((⟨#[34]⟩ : ByteArray)[0]'(by decide)).toNat = 34 := rfl
      clear hn92 hn34
      rw [decide_eq_true h16z]
      clear h16z
      go_upto_region 5 with fail
      go_loopg [5, 6, 8, 9, 32] 2 (fun gg s5 s6 s8 s9 s32 wr => ∃ (kk a : Nat), kk + gg = 2 ∧ s32 = .int .i64 kk ∧ s5 = .int .i64 ((l.length + a : Nat) : Int) ∧ s6 = .bool (decide (0 < a)) ∧ a ≤ 64 ∧ Aside (a = if kk = 0 then 0 else if kk = 1 then n92 else n92 + n34) ∧ Aside (Below w.heap.size w wr))
      case atStart => exact ⟨0, 0, rfl, rfl, rfl, rfl, by omega, rfl, Below.refl _ _⟩
      case round =>
        obtain ⟨kk, a, hkk, rfl, rfl, rfl, ha64, HA, BW⟩ := hrel
        have hQr := HQ.out.below BW.out
        have q0 := hQr.2.2.2.1
        have q1 := hQr.2.2.2.2.1
        have q34 : wr.cell? ⟨b0, 34, none⟩ = some (.slice (some ⟨g1, 0, none⟩) 2 c1) := hQr.at_ 34
        have q92 : wr.cell? ⟨b0, 92, none⟩ = some (.slice (some ⟨g2, 0, none⟩) 2 c2) := hQr.at_ 92
        clear hQr
        rcases (by omega : kk = 0 ∨ kk = 1 ∨ kk = 2) with rfl | rfl | rfl
        · obtain rfl : a = 0 := HA.out
          by_cases h92 : n92 = 0
          · subst h92
            go_wp2_with (go_at_call 190; refine (H92.out _).mono ?_; rintro e w' ⟨rfl, rfl⟩)
            go_roundg 1
            case measure => omega
            case rel => exact ⟨1, 0, rfl, rfl, by go_num, by simp, by omega, rfl, BW.out⟩
          · have hz : ((n92 : Int) != 0) = true := by simp; omega
            have hz1 : 0 < n92 := by omega
            go_upto_region 9 with (go_at_call 190; refine (H92.out _).mono ?_; rintro e w' ⟨rfl, rfl⟩)
            go_quiet (fail)
            go_wp2_with fail
            go_roundg 1
            case measure => omega
            case rel => exact ⟨1, n92, rfl, rfl, by go_num, by simp; omega, by omega, rfl, below_drawn BW.out _⟩
        · obtain rfl : a = n92 := HA.out
          clear H92
          by_cases h34 : n34 = 0
          · subst h34
            go_wp2_with (go_at_call 190; refine (H34.out _).mono ?_; rintro e w' ⟨rfl, rfl⟩)
            go_roundg 0
            case measure => omega
            case rel => exact ⟨2, a, rfl, rfl, by go_num, by simp, by omega, rfl, BW.out⟩
          · have hz : ((n34 : Int) != 0) = true := by simp; omega
            have hz1 : 0 < n34 := by omega
            go_upto_region 9 with (go_at_call 190; refine (H34.out _).mono ?_; rintro e w' ⟨rfl, rfl⟩)
            go_quiet (fail)
            go_wp2_with fail
            go_roundg 0
            case measure => omega
            case rel => exact ⟨2, a + n34, rfl, rfl, by go_num, by simp; omega, by omega, rfl, below_drawn BW.out _⟩
        · obtain rfl : a = n92 + n34 := HA.out
          rw [hcs]
          go_wp2_with fail
          go_meet
          exact ⟨rfl, rfl, BW.out⟩
    · have h16z : ¬ (16 : Int) ≤ (l.length : Int) := by omega
      rw [decide_eq_false h16z]
      clear h16z h16
      go_upto_region 13 with fail
      go_loopg [5, 6, 10, 11] l.length (fun gg s5 s6 s10 s11 wr => ∃ (i a : Nat), i ≤ l.length ∧ gg = l.length - i ∧ s10 = .int .i64 i ∧ s5 = .int .i64 ((l.length + a : Nat) : Int) ∧ s6 = .bool (decide (0 < a)) ∧ a ≤ i ∧ Aside (a = spc (l.take i)) ∧ Aside (Below w.heap.size w wr))
      case atStart => exact ⟨0, 0, by omega, rfl, rfl, rfl, rfl, by omega, rfl, Below.refl _ _⟩
      case round =>
        obtain ⟨i, a, hil, rfl, rfl, rfl, rfl, hai, HA, BW⟩ := hrel
        by_cases hlt : i < l.length
        · have hltz : (i : Int) < (l.length : Int) := by omega
          obtain ⟨x, hx⟩ : ∃ x, l[i]? = some x := ⟨l[i], by simp [hlt]⟩
          have hgi := bs_get l i x hx
          have hnx := spc_next hx
          have hQr := HQ.out.below BW.out
          have qx := hQr.at_ x
          have hx256 : x.toNat < 256 := UInt8.toNat_lt x
          rw [← HA.out] at hnx
          clear hx hQr
          by_cases x34 : x = 34
          · subst x34
            replace qx : wr.cell? ⟨b0, 34, none⟩ = some (.slice (some ⟨g1, 0, none⟩) 2 c1) := qx
            replace hnx : spc (l.take (i + 1)) = a + 1 := hnx
            have HN := Lib.hid hnx
            clear hnx
            go_wp2_with fail
            go_roundg (l.length - (i + 1))
            case measure => omega
            case rel => exact ⟨i + 1, a + 1, hlt, rfl, by go_num, by go_num, by simp, by omega, HN.out.symm, BW.out⟩
          · by_cases x92 : x = 92
            · subst x92
              replace qx : wr.cell? ⟨b0, 92, none⟩ = some (.slice (some ⟨g2, 0, none⟩) 2 c2) := qx
              replace hnx : spc (l.take (i + 1)) = a + 1 := hnx
              have HN := Lib.hid hnx
              clear hnx
              go_wp2_with fail
              go_roundg (l.length - (i + 1))
              case measure => omega
              case rel => exact ⟨i + 1, a + 1, hlt, rfl, by go_num, by go_num, by simp, by omega, HN.out.symm, BW.out⟩
            · replace qx : wr.cell? ⟨b0, x.toNat, none⟩ = some (.slice none 0 0) := by rw [qx]; unfold cellB; rw [if_neg x34, if_neg x92]
              replace hnx : spc (l.take (i + 1)) = a := by rw [hnx]; simp [spC, x34, x92]
              have HN := Lib.hid hnx
              clear hnx
              go_wp2_with fail
              go_roundg (l.length - (i + 1))
              case measure => omega
              case rel => exact ⟨i + 1, a, hlt, rfl, by go_num, by go_num, rfl, by omega, HN.out.symm, BW.out⟩
        · have hltz : ¬ (i : Int) < (l.length : Int) := by omega
          obtain rfl : i = l.length := by omega
          have ha : a = spc l := by rw [HA.out, List.take_length]
          subst ha
          go_wp2_with fail
          go_meet
          exact ⟨rfl, rfl, BW.out⟩
  case rest =>
  obtain ⟨rfl, rfl, hb1⟩ := hcut
  have HB1 := Lib.hid hb1
  clear hb1
  by_cases h0 : spc l = 0
  · have hq0 := quote_none h0
    rw [h0]
    go_wp2_with fail
    go_ret
    rw [hq0]
    exact ⟨rfl, HB1.out⟩
  have h0' : decide (0 < spc l) = true := by simp; omega
  rw [h0']
  clear h0'
  have hql := quote_len l
  obtain ⟨M, hM⟩ : ∃ M, M = l.length + spc l := ⟨_, rfl⟩
  rw [← hM] at hql ⊢
  have hM1 : 1 ≤ M := by omega
  have hM2 : M ≤ 128 := by omega
  have HM := Lib.hid hM
  clear hM h0 hspl
  have hmk := run_makeB M (by omega)
  go_upto_region 24 with fail
  have hR := (Rws.start wc).alloc (madeCells #[.int .u8 0] M) 5
  have hml : (madeCells #[Value.int .u8 0] M).toList.length = M := by simp [madeCells]
  have HR := Lib.hid hR
  obtain ⟨zs, hzs⟩ : ∃ zs, zs = (madeCells #[Value.int .u8 0] M).toList := ⟨_, rfl⟩
  have e0 : madeCells #[Value.int .u8 0] M = zs.toArray := by rw [hzs]
  rw [e0] at HR ⊢
  rw [← hzs] at hml
  clear hR hmk e0 hzs
  obtain ⟨wn, hwn⟩ : ∃ wn, wn = wc.alloc (.cells zs.toArray 5) := ⟨_, rfl⟩
  obtain ⟨g, hg⟩ : ∃ g, g = wc.heap.size := ⟨_, rfl⟩
  rw [← hwn] at HR ⊢
  rw [← hg] at HR ⊢
  have HG := Lib.hid hg
  clear hwn hg
  go_loopg [13, 14, 15] l.length (fun gg s13 s14 s15 wr => ∃ (i : Nat) (D : List UInt8) (rest : List Value), i ≤ l.length ∧ gg = l.length - i ∧ s13 = .int .i64 D.length ∧ s14 = .int .i64 i ∧ D.length + rest.length = M ∧ Aside (D = quoteL (l.take i)) ∧ Aside (Rws g wc wr [(g, (bvs D ++ rest).toArray, 5)]))
  case atStart => exact ⟨0, [], zs, by omega, rfl, rfl, rfl, by simpa using hml, rfl, HR.out⟩
  case round =>
    obtain ⟨i, D, rest, hil, rfl, rfl, rfl, hDl, HD, HR2⟩ := hrel
    by_cases hlt : i < l.length
    · have hltz : (i : Int) < (l.length : Int) := by omega
      obtain ⟨x, hx⟩ : ∃ x, l[i]? = some x := ⟨l[i], by simp [hlt]⟩
      have hgi := bs_get l i x hx
      obtain ⟨hnx, hnl⟩ := quote_part hx
      have hQr := HQ.out.below (b_trans HB1.out (HG.out ▸ HR2.out.below))
      have qx := hQr.at_ x
      have hx256 : x.toNat < 256 := UInt8.toNat_lt x
      rw [← HD.out] at hnx hnl
      rw [hql] at hnl
      clear HD hx
      by_cases x34 : x = 34
      · subst x34
        have qa := hQr.2.1
        clear hQr
        replace qx : wr.cell? ⟨b0, 34, none⟩ = some (.slice (some ⟨g1, 0, none⟩) 2 c1) := qx
        have hDM : D.length + 2 ≤ M := hnl
        replace hnx : quoteL (l.take (i + 1)) = D ++ [92, 34] := hnx
        have HN := Lib.hid hnx
        have hDz : (D.length : Int) ≤ (M : Int) := by omega
        clear hnx hnl
        go_upto_region 28 with fail
        have hR := HR2.out
        obtain ⟨w3, hcp, hR3⟩ := run_copyB (c1 := c1) (ga := g1) [92, 34] hR.drew hDl hDM (fun j v hj => by
          match j, hj with
          | 0, hj => simp [bvs] at hj; subst hj; exact (World.cell?_drew ..).trans qa.1
          | 1, hj => simp [bvs] at hj; subst hj; exact (World.cell?_drew ..).trans qa.2)
        have hcp : (Builtin.copy_ #[51, 51] 3 #[.slice (some ⟨g, D.length, none⟩) (M - D.length) (M - D.length), .slice (some ⟨g1, 0, none⟩) 2 c1]).run Tryz.prog wr.drew = .ok (.int .i64 2) w3 := hcp
        have HR3 := Lib.hid hR3
        clear hR hR3 HR2
        go_region
        go_wp2_with fail
        go_roundg (l.length - (i + 1))
        case measure => omega
        case rel => exact ⟨i + 1, D ++ [92, 34], rest.drop 2, hlt, rfl, by simp, by go_num, by simp; omega, HN.out.symm, HR3.out⟩
      · by_cases x92 : x = 92
        · subst x92
          have qa := hQr.2.2.1
          clear hQr
          replace qx : wr.cell? ⟨b0, 92, none⟩ = some (.slice (some ⟨g2, 0, none⟩) 2 c2) := qx
          have hDM : D.length + 2 ≤ M := hnl
          replace hnx : quoteL (l.take (i + 1)) = D ++ [92, 92] := hnx
          have HN := Lib.hid hnx
          have hDz : (D.length : Int) ≤ (M : Int) := by omega
          clear hnx hnl
          go_upto_region 28 with fail
          have hR := HR2.out
          obtain ⟨w3, hcp, hR3⟩ := run_copyB (c1 := c2) (ga := g2) [92, 92] hR.drew hDl hDM (fun j v hj => by
            match j, hj with
            | 0, hj => simp [bvs] at hj; subst hj; exact (World.cell?_drew ..).trans qa.1
            | 1, hj => simp [bvs] at hj; subst hj; exact (World.cell?_drew ..).trans qa.2)
          have hcp : (Builtin.copy_ #[51, 51] 3 #[.slice (some ⟨g, D.length, none⟩) (M - D.length) (M - D.length), .slice (some ⟨g2, 0, none⟩) 2 c2]).run Tryz.prog wr.drew = .ok (.int .i64 2) w3 := hcp
          have HR3 := Lib.hid hR3
          clear hR hR3 HR2
          go_region
          go_wp2_with fail
          go_roundg (l.length - (i + 1))
          case measure => omega
          case rel => exact ⟨i + 1, D ++ [92, 92], rest.drop 2, hlt, rfl, by simp, by go_num, by simp; omega, HN.out.symm, HR3.out⟩
        · replace qx : wr.cell? ⟨b0, x.toNat, none⟩ = some (.slice none 0 0) := by rw [qx]; unfold cellB; rw [if_neg x34, if_neg x92]
          have hqc : quoteC x = [x] := by unfold quoteC; rw [if_neg x34, if_neg x92]
          rw [hqc] at hnx hnl
          have hDM : D.length + 1 ≤ M := hnl
          have HN := Lib.hid hnx
          have hDz : (D.length : Int) < (M : Int) := by omega
          have hrs := row_set D x rest (by omega)
          have hRw := HR2.out
          clear hnx hnl hQr HR2 hqc x34 x92
          go_wp2_with (refine wR_storec rfl (by rfl) (by assumption) (by rfl) (by rfl) Pick.here rfl (by kernel_rfl) (by simp [bvs_len]; omega) rfl hrs ?_; intro w3 hR3)
          go_roundg (l.length - (i + 1))
          case measure => omega
          case rel => exact ⟨i + 1, D ++ [x], rest.drop 1, hlt, rfl, by simp, by go_num, by simp; omega, HN.out.symm, hR3⟩
    · have hltz : ¬ (i : Int) < (l.length : Int) := by omega
      obtain rfl : i = l.length := by omega
      have hD : D = quoteL l := by rw [HD.out, List.take_length]
      have hr0 : rest = [] := by
        apply List.eq_nil_of_length_eq_zero
        rw [hD] at hDl; omega
      subst hr0
      have hcv := run_textB g M D wr (by rw [hD]; exact hql) (fun j v hj => by
        have := HR2.out.cellAt (List.Mem.head _) j (v := v) (by simpa using hj)
        rw [Addr.add_lit, Nat.zero_add]; exact this)
      have hfin : Below w.heap.size w wr := b_trans HB1.out (HG.out ▸ HR2.out.below)
      have HF := Lib.hid (And.intro hD hfin)
      clear hD hfin HR2 HD
      go_wp2_with fail
      go_ret
      exact ⟨congrArg (fun x => Ending.returned (.string (bs x))) HF.out.1, HF.out.2⟩
end Go.Proofs.YthpagppipifgeaaGreatDoor
