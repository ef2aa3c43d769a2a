/- (*strings.Replacer).Replace at the program's four words: the walk. -/
import Derived.Test.YthpagppipifgeaaGreatDoorZLW
import Derived.Test.YthpagppipifgeaaGreatDoorZLC
namespace Go.Proofs.YthpagppipifgeaaGreatDoor
open Go.RowKit

theorem BQ.keep {b0 g1 c1 g2 c2 ts c rb : Nat} {d : Int} {u u' : World} (h : BQ b0 g1 c1 g2 c2 ts c u) (hr : u.cell? ⟨rb, 0, none⟩ = some (.int .u32 d)) (hm : ∀ k, k ≠ rb → u'.heap[k]? = u.heap[k]?) : BQ b0 g1 c1 g2 c2 ts c u' := by
  obtain ⟨h1, ⟨h2, h3⟩, ⟨h4, h5⟩, h6, h7, h8⟩ := h
  have n0 : b0 ≠ rb := by rintro rfl; have := h1.2.1 0 (by omega) (by omega) (by omega); rw [this] at hr; cases hr
  have n1 : g1 ≠ rb := by rintro rfl; rw [h2] at hr; cases hr
  have n2 : g2 ≠ rb := by rintro rfl; rw [h4] at hr; cases hr
  have n3 : ts ≠ rb := by rintro rfl; rw [h6] at hr; cases hr
  have hc : ∀ k i, k ≠ rb → u'.cell? ⟨k, i, none⟩ = u.cell? ⟨k, i, none⟩ := fun k i hk => by simp only [World.cell?, hm k hk]
  exact ⟨h1.move (hm b0 n0), ⟨(hc _ _ n1).trans h2, (hc _ _ n1).trans h3⟩, ⟨(hc _ _ n2).trans h4, (hc _ _ n2).trans h5⟩, (hc _ _ n3).trans h6, (hc _ _ n3).trans h7, h8⟩
/-- The Replacer's row. -/
def RepRow (rb : Nat) (d s : Int) (v o : Value) (w : World) : Prop := w.heap[rb]? = some (.cells #[.int .u32 d, .int .i32 s, .int .u32 0, v, o] 116 (0, 0))
theorem RepRow.cell {rb : Nat} {d s : Int} {v o : Value} {w : World} (h : RepRow rb d s v o w) (i : Nat) : w.cell? ⟨rb, i, none⟩ = (#[.int .u32 d, .int .i32 s, .int .u32 0, v, o] : Array Value)[i]? := by
  unfold RepRow at h
  simp only [World.cell?, h]
  rw [if_neg (by simp)]
theorem RepRow.thaw {rb : Nat} {d s : Int} {v o : Value} {w : World} (h : RepRow rb d s v o w) (i : Nat) : w.frozen? ⟨rb, i, none⟩ = false := by
  unfold RepRow at h
  simp [World.frozen?, h]
theorem RepRow.once {rb : Nat} {d s : Int} {v o : Value} {w : World} (h : RepRow rb d s v o w) : OnceIn rb d s w := ⟨h.cell 0, h.cell 1, h.thaw 0, h.thaw 1⟩
theorem RepRow.lt {rb : Nat} {d s : Int} {v o : Value} {w : World} (h : RepRow rb d s v o w) : rb < w.heap.size := (Array.getElem?_eq_some_iff.1 h).1
theorem RepRow.set0 {rb : Nat} {d s : Int} {v o : Value} {w : World} (h : RepRow rb d s v o w) (x : Int) : RepRow rb x s v o (w.setCell ⟨rb, 0, none⟩ (.int .u32 x)) := heap_setCell_same w rb 0 _ _ _ h
theorem RepRow.set1 {rb : Nat} {d s : Int} {v o : Value} {w : World} (h : RepRow rb d s v o w) (x : Int) : RepRow rb d x v o (w.setCell ⟨rb, 1, none⟩ (.int .i32 x)) := heap_setCell_same w rb 1 _ _ _ h
theorem RepRow.set3 {rb : Nat} {d s : Int} {v o : Value} {w : World} (h : RepRow rb d s v o w) (x : Value) : RepRow rb d s x o (w.setCell ⟨rb, 3, none⟩ x) := heap_setCell_same w rb 3 _ _ _ h
theorem RepRow.set4 {rb : Nat} {d s : Int} {v o : Value} {w : World} (h : RepRow rb d s v o w) (x : Value) : RepRow rb d s v x (w.setCell ⟨rb, 4, none⟩ x) := heap_setCell_same w rb 4 _ _ _ h
theorem RepRow.below {rb : Nat} {d s : Int} {v o : Value} {w w' : World} (h : RepRow rb d s v o w) (hb : Below w.heap.size w w') : RepRow rb d s v o w' := (hb.block rb h.lt).trans h
def ifB (b0 : Nat) : Value := .iface 164 (.pointer (some ⟨b0, 0, none⟩))
/-- Built: the table lies there, and the Replacer has it. -/
def BuiltAt (rb : Nat) (d s : Int) (w : World) : Prop := ∃ b0, RepRow rb d s (ifB b0) (.slice none 0 0) w ∧ ∃ g1 c1 g2 c2 ts c, BQ b0 g1 c1 g2 c2 ts c w
theorem BuiltAt.set0 {rb : Nat} {d s : Int} {w : World} (h : BuiltAt rb d s w) (x : Int) : BuiltAt rb x s (w.setCell ⟨rb, 0, none⟩ (.int .u32 x)) := by
  obtain ⟨b0, hr, g1, c1, g2, c2, ts, c, hq⟩ := h
  exact ⟨b0, hr.set0 x, g1, c1, g2, c2, ts, c, hq.keep (hr.cell 0) fun k hk => heap_setCell_other w _ k _ hk⟩
theorem BuiltAt.set1 {rb : Nat} {d s : Int} {w : World} (h : BuiltAt rb d s w) (x : Int) : BuiltAt rb d x (w.setCell ⟨rb, 1, none⟩ (.int .i32 x)) := by
  obtain ⟨b0, hr, g1, c1, g2, c2, ts, c, hq⟩ := h
  exact ⟨b0, hr.set1 x, g1, c1, g2, c2, ts, c, hq.keep (hr.cell 0) fun k hk => heap_setCell_other w _ k _ hk⟩
theorem BuiltAt.drew {rb : Nat} {d s : Int} {w : World} (h : BuiltAt rb d s w) : BuiltAt rb d s w.drew := by
  obtain ⟨b0, hr, g1, c1, g2, c2, ts, c, hq⟩ := h
  exact ⟨b0, hr, g1, c1, g2, c2, ts, c, hq.keep (hr.cell 0) fun k hk => rfl⟩
set_option maxRecDepth 100000 in
set_option maxHeartbeats 1600000 in
theorem bonce_any (rb sb cap : Nat) (w : World) (h : RepRow rb 0 1 .nilIface (.slice (some ⟨sb, 0, none⟩) 4 cap) w) (hw : RepW sb w) (hcap : 4 ≤ cap) :
    Calls Tryz.prog 70 #[.pointer (some ⟨rb, 0, none⟩)] w fun e w' => e = .returned (.tuple #[]) ∧ BuiltAt rb 0 1 w' ∧ Below rb w w' := by
  have HB : Hid _ := Lib.hid (build_r rb sb cap w (h.cell 4) hw hcap)
  have HR := Lib.hid h
  clear h hw
  go_enter Tryz.func70, Tryz.ntmps70
  go_wp2_with (go_at_call 85; refine HB.out.mono ?_; rintro e w1 ⟨b0, rfl, ⟨g1, c1, g2, c2, ts, c, hq⟩, hb⟩; have hr := HR.out.below hb; have q3 := hr.cell 3; have q4 := hr.cell 4; have z3 := hr.thaw 3; have z4 := hr.thaw 4; have HRR := Lib.hid hr; have HQ := Lib.hid hq; have HBB := Lib.hid hb; clear hr hq hb)
  go_end0
  refine ⟨rfl, ⟨b0, (HRR.out.set3 _).set4 _, g1, c1, g2, c2, ts, c, ?_⟩, ?_⟩
  · refine HQ.out.keep (rb := rb) (HRR.out.cell 0) fun k hk => ?_
    exact (heap_setCell_other _ ⟨rb, 4, none⟩ k _ hk).trans (heap_setCell_other _ ⟨rb, 3, none⟩ k _ hk)
  · exact ((HBB.out.mono (Nat.le_of_lt HR.out.lt)).setCell (p := ⟨rb, 3, none⟩) (Nat.le_refl _) _).setCell (p := ⟨rb, 4, none⟩) (Nat.le_refl _) _
theorem repMethod (v : Value) (w : World) : (Go.method 356 164 v "Replace").run Tryz.prog w = .ok (188, v) w := by kernel_rfl
set_option maxRecDepth 100000 in
set_option maxHeartbeats 1600000 in
theorem repl_ok : ReplOk := by
  intro rb s w hr hs
  obtain ⟨sb, cap, h, hsb, hcap, p0, p1, p2, p3⟩ := hr
  have h0 : RepRow rb 0 0 .nilIface (.slice (some ⟨sb, 0, none⟩) 4 cap) w := h
  have h1 := h0.set1 1
  have hne : sb ≠ rb := by omega
  have hc : ∀ i, (w.setCell ⟨rb, 1, none⟩ (.int .i32 1)).cell? ⟨sb, i, none⟩ = w.cell? ⟨sb, i, none⟩ := fun i => World.cell?_of_block (heap_setCell_other w ⟨rb, 1, none⟩ sb _ hne)
  have hD := on_do rb (fun u => BuiltAt rb 0 1 u ∧ Below rb w u) w h0.once (Lib.hid ((bonce_any rb sb cap _ h1 ⟨(hc _).trans p0, (hc _).trans p1, (hc _).trans p2, (hc _).trans p3⟩ hcap).mono fun e w' ⟨he, hb, hbl⟩ => ⟨he, ⟨hb, ((Below.refl rb w).setCell (p := ⟨rb, 1, none⟩) (Nat.le_refl _) _).trans hbl⟩, hb.choose_spec.1.once⟩))
  have HD := Lib.hid hD
  have HL : Hid (s.data.toList.length ≤ 64) := Lib.hid (by simpa using hs)
  clear h0 h1 hc hD h p0 p1 p2 p3 hsb hcap
  go_enter Tryz.func42, Tryz.ntmps42
  go_upto_region 2 with (go_at_call 69; refine HD.out.mono ?_; rintro e wf ⟨rfl, hu⟩; have HU := Lib.hid hu; clear hu)
  have hf : BuiltAt rb 1 0 wf ∧ Below rb w wf := by
    obtain ⟨u, ⟨hu, hbu⟩, _, rfl⟩ := HU.out
    exact ⟨(hu.drew.set0 1).set1 0, (hbu.drew.setCell (p := ⟨rb, 0, none⟩) (Nat.le_refl _) (.int .u32 1)).setCell (p := ⟨rb, 1, none⟩) (Nat.le_refl _) (.int .i32 0)⟩
  clear HU
  obtain ⟨hf, hbl⟩ := hf
  obtain ⟨b0, hrr, g1, c1, g2, c2, ts, c, hq⟩ := hf
  have q3 := hrr.cell 3
  have HR : Hid (Calls Tryz.prog 188 #[.pointer (some ⟨b0, 0, none⟩), .string s] wf (RetS (bs (quoteL s.data.toList)) wf)) := Lib.hid (by
    have := brep_any b0 g1 c1 g2 c2 ts c s.data.toList wf hq HL.out
    rw [show bs s.data.toList = s by cases s; simp [bs]] at this
    exact this)
  have HBL := Lib.hid (And.intro hbl hrr.lt)
  clear hq hrr hbl
  unfold ifB at q3
  have hme := repMethod
  go_wp2_with (go_at_call 188; refine HR.out.mono ?_; rintro e w2 ⟨rfl, hb2⟩)
  go_ret
  exact ⟨rfl, HBL.out.1.trans (hb2.mono (Nat.le_of_lt HBL.out.2))⟩
end Go.Proofs.YthpagppipifgeaaGreatDoor
