/- The reference of hash (layer 2): Of of 256 bits: the walk. -/
import Derived.Test.YtjkjlbchbbpmaaaGreatDoorZR2
import Derived.Deep.RegionHeld3
import Derived.Deep.AppendLies
namespace Go.Proofs.YtjkjlbchbbpmaaaGreatDoor
open Go.RowKit

/-- The document's kind of 256 bits. -/
def kdc (kv fv : Value) : Array Value := #[.int .i64 32, .int .i64 64, .int .i64 32, .int .i64 7, .int .i64 18, .int .i64 3, .int .i64 17, .int .i64 19, .int .i64 10, .int .i64 6, .int .i64 11, .int .i64 25, .int .i64 2, .int .i64 13, .int .i64 22, kv, fv]
def nilK : Value := .slice none 0 0
theorem kd_info : (Tryz.prog.info? 99).map (·.size) = some 17 := by kernel_rfl
theorem zero_kd : ∀ w : World, (zeroValue 99).run Tryz.prog w = .ok (.agg #[.int .i64 0, .int .i64 0, .int .i64 0, .int .i64 0, .int .i64 0, .int .i64 0, .int .i64 0, .int .i64 0, .int .i64 0, .int .i64 0, .int .i64 0, .int .i64 0, .int .i64 0, .int .i64 0, .int .i64 0, .slice none 0 0, .slice none 0 0]) w := fun w => by kernel_rfl
theorem built_kd : Tryz.prog.built 99 [(0, .int .i64 32), (1, .int .i64 64), (2, .int .i64 32), (3, .agg (arr3 7 18 3)), (4, .agg (arr3 17 19 10)), (5, .agg (arr3 6 11 25)), (6, .agg (arr3 2 13 22)), (7, .slice none 0 0), (8, .slice none 0 0)] = some (kdc nilK nilK) := by kernel_rfl
def zkd : Array Value := #[.int .i64 0, .int .i64 0, .int .i64 0, .int .i64 0, .int .i64 0, .int .i64 0, .int .i64 0, .int .i64 0, .int .i64 0, .int .i64 0, .int .i64 0, .int .i64 0, .int .i64 0, .int .i64 0, .int .i64 0, .slice none 0 0, .slice none 0 0]

theorem Rws.grown {B : Nat} {w0 w w' : World} {L : List (Nat × Array Value × TypeId)} {row : Option Nat} (h : Rws B w0 w L) (hg : w.grownBy w' row) (hr : ∀ k, row = some k → B ≤ k ∧ ∀ x, x ∈ L → x.1 ≠ k) : Rws B w0 w' L :=
  ⟨h.below.grown hg h.len (fun k hk => (hr k hk).1), Nat.le_trans h.len hg.size, fun x hx => ⟨(h.row x hx).1, (hg.block x.1 (h.lt hx) (fun e => (hr x.1 e.symm).2 x hx rfl)).trans (h.row x hx).2⟩, h.nd⟩
theorem B64.far {w : World} {B : Nat} {v : Value} {l : List Nat} (h : B64 w B v l) : ∀ k, v.ownBlock = some k → B ≤ k := by
  intro k hk
  obtain ⟨_, ⟨rfl, _⟩ | ⟨g, cap, cur, rfl, hg, _⟩⟩ := h
  · cases hk
  · have : g = k := Option.some.inj hk
    omega
theorem wpList_store_rwsB {ops : Array Oper} {Q : Exit → Act → World → Prop} {rest : List Oper} {a : Act} {w w0 : World} {o : Oper} {B : Nat} {L : List (Nat × Array Value × TypeId)} (hgd : o.guard = none) (ty : TypeId) (x y : Operand) (ho : o.op = .store ty x y) (h : Rws B w0 w L) (g : Nat) (hx : a.eval x = .pointer (some ⟨g, 0, none⟩))
    (new : Array Value) (hy : a.eval y = .agg new) (cs : Array Value) (t : TypeId) (L' : List (Nat × Array Value × TypeId)) (hm : Pick L (g, cs, t) L')
    (hi : (Tryz.prog.info? ty).map (·.size) = some new.size) (hc : cs.size = new.size) (h1 : new.all (·.oneCell') = true)
    (hK : ∀ w', Rws B w0 w' ((g, new, t) :: L') → (∀ (g2 n c : Nat) (f : Nat → Nat), g2 ≠ g → Rd w .u64 (some ⟨g2, 0, none⟩) n c f → Rd w' .u64 (some ⟨g2, 0, none⟩) n c f) → wpList Tryz.prog ops Q rest (a.put o.dst undef) w') : wpList Tryz.prog ops Q (o :: rest) a w := by
  refine wpList_plain hgd fun K hKK => ?_
  unfold Oper.wp execOp
  simp only [ho, hx, hy, Instr.storeAt, Instr.sureAddr, Sem.run_bind, Sem.run_pure, Result.andThen_ok, run_storeVar_row w g t ty cs new (h.row _ hm.mem).2 hi hc h1]
  exact hKK _ _ (hK _ (h.set hm new) fun g2 n c f h2 hr => ⟨hr.sh, hr.le, hr.cm, fun j hj => (cell_setRow_other w g new _ (by rw [blk_some]; exact h2)).trans (hr.cell j hj)⟩)
theorem kdc_set (kv fv v : Value) : (kdc kv fv).setIfInBounds 15 v = kdc v fv := rfl
theorem kdc_set2 (kv fv v : Value) : (kdc kv fv).setIfInBounds 16 v = kdc kv v := rfl

theorem grow_next {B0 B : Nat} {w wr w5 w6 : World} {g4 gr : Nat} {cs zs : Array Value} {t : TypeId} {kv : Value} {l : List Nat} {x gk ck j : Nat}
    (hR : Rws B0 w wr [(g4, cs, t), (gr, zs, t)]) (hbuf : B64 wr B kv l) (hBs : B ≤ wr.heap.size) (hB : B0 ≤ B) (h4 : g4 < B) (hr : gr < B)
    (hb5 : Below wr.drew.heap.size wr.drew w5) (hgrow : (w5.alloc (.cells #[.int .u64 (x : Int)] 51)).grownBy w6 kv.ownBlock)
    (hown : w6.ownsRow B 51 1 (.slice (some ⟨gk, 0, none⟩) (l.length + 1) ck) (l.length + 1) ((l.map fun (c : Nat) => Value.int .u64 (c : Int)) ++ [.int .u64 (x : Int)])) :
    Rws B0 w (w6.setCell ⟨g4, j, none⟩ (.slice (some ⟨gk, 0, none⟩) (l.length + 1) ck)) [(g4, cs.setIfInBounds j (.slice (some ⟨gk, 0, none⟩) (l.length + 1) ck), t), (gr, zs, t)] ∧
    B64 (w6.setCell ⟨g4, j, none⟩ (.slice (some ⟨gk, 0, none⟩) (l.length + 1) ck)) B (.slice (some ⟨gk, 0, none⟩) (l.length + 1) ck) (l ++ [x]) ∧
    (∀ (gp n cp : Nat) (f : Nat → Nat), gp < B → gp ≠ g4 → Rd wr .u64 (some ⟨gp, 0, none⟩) n cp f → Rd (w6.setCell ⟨g4, j, none⟩ (.slice (some ⟨gk, 0, none⟩) (l.length + 1) ck)) .u64 (some ⟨gp, 0, none⟩) n cp f) ∧
    B ≤ (w6.setCell ⟨g4, j, none⟩ (.slice (some ⟨gk, 0, none⟩) (l.length + 1) ck)).heap.size := by
  have hfar := hbuf.far
  have hA := hb5.alloc hb5.size (.cells #[.int .u64 (x : Int)] 51)
  have hR5 := hR.drew.call hA
  have hR6 := hR5.grown hgrow (fun k hk => ⟨by have := hfar k hk; omega, fun y hy => by
    have hk2 := hfar k hk
    rcases List.mem_cons.1 hy with rfl | hy
    · show g4 ≠ k; omega
    · rcases List.mem_cons.1 hy with rfl | hy
      · show gr ≠ k; omega
      · exact absurd hy List.not_mem_nil⟩)
  have hsz : wr.heap.size ≤ (w5.alloc (.cells #[.int .u64 (x : Int)] 51)).heap.size := hA.size
  refine ⟨hR6.setc j _, ?_, fun gp n cp f hp h4p hrd => ?_, ?_⟩
  · unfold B64
    rw [List.length_append, List.map_append]
    exact ownsRow_setCell_below hown h4 _
  · have hRd5 := Rd.below (w := wr.drew) (w' := w5.alloc (.cells #[.int .u64 (x : Int)] 51)) ⟨hrd.sh, hrd.le, hrd.cm, fun i hi => hrd.cell i hi⟩ hA (Nat.le_refl _)
    have hgpk : ∀ k, kv.ownBlock = some k → gp ≠ k := fun k hk => by have := hfar k hk; omega
    refine ⟨hrd.sh, hrd.le, hrd.cm, fun i hi => ?_⟩
    rw [World.cell?_setCell_other _ _ _ _ (fun e => by have := congrArg Addr.block e; simp only [blk_some] at this; omega)]
    rw [hgrow.cell_far _ (show gp < _ by omega) (fun e => hgpk gp e.symm rfl)]
    exact hRd5.cell i hi
  · have h6 : (w6.setCell ⟨g4, j, none⟩ (.slice (some ⟨gk, 0, none⟩) (l.length + 1) ck)).heap.size = w6.heap.size := by
      exact World.size_setCell ..
    rw [h6]
    have := hgrow.size
    omega

set_option maxRecDepth 100000 in
set_option maxHeartbeats 3200000 in
theorem r2of_any (w : World) :
    Calls Tryz.prog 67 #[.int .i64 0] w fun e w' => ∃ gk ck gf cf, e = .returned (.tuple #[.agg (kdc (.slice (some ⟨gk, 0, none⟩) 64 ck) (.slice (some ⟨gf, 0, none⟩) 8 cf)), .bool true]) ∧ Rd w' .u64 (some ⟨gk, 0, none⟩) 64 ck kF ∧ Rd w' .u64 (some ⟨gf, 0, none⟩) 8 cf firstF ∧ Below w.heap.size w w' := by
  have hR0 := Rws.start w
  go_enter Tryz.func67, Tryz.ntmps67
  go_upto_region 1 with (refine wpList_alloc_rws (cs := zkd) rfl _ (by rfl) (by assumption) zero_kd ?_; intro gr w1 hR)
  go_wp2_with (first
    | (refine wpList_alloc_rws (cs := zkd) rfl _ (by rfl) (by assumption) zero_kd ?_; intro g4 w1 hR)
    | (refine wpList_store_rws rfl _ _ _ (by rfl) (by assumption) _ rfl (kdc nilK nilK) (by rfl) _ _ _ (by repeat (first | exact Pick.here | apply Pick.there)) (by exact kd_info) (by rfl) (by simp [kdc, nilK, Value.oneCell']) ?_; intro w2 hR))
  refine (r2primes_any _).mono ?_
  rintro e w3 ⟨gp, cp, rfl, hgp, hrd, hb3⟩
  have hR3 := hR.call hb3
  have hg4 : g4 < w2.heap.size := hR.lt (List.Mem.head _)
  have hgr : gr < w2.heap.size := hR.lt (List.Mem.tail _ (List.Mem.head _))
  have hw2 : w.heap.size ≤ w2.heap.size := hR.len
  obtain ⟨B, hB⟩ : ∃ B, B = w3.heap.size := ⟨_, rfl⟩
  have hB2 : w2.heap.size ≤ B := by rw [hB]; exact hb3.size
  have hgpB : gp < B := by rw [hB]; exact hrd.lt (show 0 < 80 by omega)
  have hBs : B ≤ w3.heap.size := Nat.le_of_eq hB
  have hb0 : B64 w3 B nilK (((prs.take 0).map fun p => rootF p 3 32)) := B64.nil w3 B
  have HB := Lib.hid hB
  clear hB hR hb3
  go_wp2_with fail
  go_loopw [7] (fun iv wr => ∃ (i : Nat) (kv : Value), i ≤ 64 ∧ iv = .int .i64 i ∧ Rws w.heap.size w wr [(g4, kdc kv nilK, 99), (gr, zkd, 99)] ∧ B64 wr B kv ((prs.take i).map fun p => rootF p 3 32) ∧ Rd wr .u64 (some ⟨gp, 0, none⟩) 80 cp (fun j => prs.getD j 0) ∧ B ≤ wr.heap.size) (fun iv _ => 64 - (intOf iv).toNat)
  case atStart => exact ⟨0, nilK, Nat.zero_le _, rfl, hR3, hb0, hrd, hBs⟩
  case round =>
    clear hR3 hb0 hrd hBs
    obtain ⟨i, kv, hi, rfl, hR, hbuf, hrd, hBs⟩ := hrel
    by_cases hin : i < 64
    · have hdec : decide ((i : Int) < 64) = true := by rw [decide_eq_true_eq]; omega
      obtain ⟨q, hq⟩ : ∃ q, q = prs.getD i 0 := ⟨_, rfl⟩
      have c1 : wr.cell? ⟨g4, 15, none⟩ = some kv := hR.cellAt (List.Mem.head _) 15 rfl
      have c3 : wr.cell? ⟨g4, 0, none⟩ = some (.int .i64 32) := hR.cellAt (List.Mem.head _) 0 rfl
      have c2 : wr.cell? ⟨gp, i, none⟩ = some (.int .u64 (q : Int)) := by
        have h := hrd.cell i (by omega)
        simp only [← hq] at h
        simpa [blk_some, off_some] using h
      have hq512 : q < 512 := by
        have h : ∀ j, j < 64 → prs.getD j 0 < 512 := by decide
        rw [hq]; exact h i hin
      have hroot := fun w => r2root_any q 3 w hq512 (by omega) (by omega)
      obtain ⟨x, hx⟩ : ∃ x, x = rootF q 3 32 := ⟨_, rfl⟩
      rw [← hx] at hroot
      have i1 : (i : Int) < 80 := by omega
      have i0 : (0 : Int) ≤ (i : Int) := by omega
      obtain ⟨l, hl⟩ : ∃ l, l = (prs.take i).map fun p => rootF p 3 32 := ⟨_, rfl⟩
      rw [← hl] at hbuf
      have hll : l.length = i := by
        have h80 : prs.length = 80 := by decide
        rw [hl, List.length_map, List.length_take, h80]; omega
      have hnext : ((prs.take (i + 1)).map fun p => rootF p 3 32) = l ++ [x] := by
        have h80 : i < prs.length := by have : prs.length = 80 := by decide
                                        omega
        rw [List.take_succ_eq_append_getElem h80, List.map_append, ← hl, hx, hq, List.getD_eq_getElem?_getD, List.getElem?_eq_getElem h80]
        rfl
      have hfar := hbuf.far
      have hne4 : some g4 ≠ kv.ownBlock := fun e => by have := hfar g4 e.symm; omega
      have hneP : some gp ≠ kv.ownBlock := fun e => by have := hfar gp e.symm; omega
      have hg4w : g4 < wr.heap.size := hR.lt (List.Mem.head _)
      have hgpw : gp < wr.heap.size := by omega
      have c4 : wr.frozen? ⟨g4, 15, none⟩ = false := hR.thaw (List.Mem.head _) 15
      obtain ⟨ii, hi0, hz0, hz1, hz2⟩ := info_parts r2info64
      have HROOT := Lib.hid hroot; have HX := Lib.hid hx; have HQ := Lib.hid hq; have HL := Lib.hid hl; have HLL := Lib.hid hll; have HNX := Lib.hid hnext; have HFAR := Lib.hid hfar
      have HI0 := Lib.hid hi0; have HZ0 := Lib.hid hz0; have HZ1 := Lib.hid hz1; have HZ2 := Lib.hid hz2
      clear hroot hx hq hl hll hnext hfar hi0 hz0 hz1 hz2
      go_upto_region 12 with (refine wR_loadc rfl (by rfl) (by assumption) rfl (by repeat (first | exact List.Mem.head _ | refine List.Mem.tail _ ?_)) (v := .int .i64 64) rfl isAgg_int ?_)
      clear hdec
      go_region_law (first
          | (go_simp; go_at_call 105; refine (HROOT.out _).mono ?_; rintro e w5 ⟨rfl, hb5⟩; have hs5 : wr.heap.size ≤ w5.heap.size := hb5.size; have c15 := (hb5.cell (p := ⟨g4, 15, none⟩) hg4w).trans c1; have c15a := ((hb5.alloc hs5 (.cells #[Value.int .u64 (x : Int)] 51)).cell (p := ⟨g4, 15, none⟩) hg4w).trans c1; have f15a := ((hb5.alloc hs5 (.cells #[Value.int .u64 (x : Int)] 51)).frozen (p := ⟨g4, 15, none⟩) hg4w).trans c4; go_wp2_with fail)
          | (refine step_append_lies _ (by rfl) (.tmp 36) (.tmp 44) _ (by rfl) B 51 ii _ 1 8 Tryz.underlying47 HI0.out HZ0.out HZ1.out HZ2.out rfl (by omega) kv l.length (l.map fun (c : Nat) => Value.int .u64 (c : Int)) (by rfl) ((show B64 wr.drew B kv l from hbuf).below hb5 |>.below ((Below.refl _ _).alloc (Nat.le_refl _) (.cells #[Value.int .u64 (x : Int)] 51)))
              ⟨w5.heap.size, 0, none⟩ 1 1 [.int .u64 (x : Int)] (by rfl) (by rfl) (World.news_of_block (cs := #[.int .u64 (x : Int)]) (t := 51) (fr := (0, 0)) (heap_alloc_new w5 _)) (by simp [Value.oneCell'])
              (by omega) (by rw [HLL.out]; unfold maxLen; omega) (by rw [HLL.out]; omega) (by simp; omega) (w5.heap.size + 1) (by simp) ?_; intro gk ck w6 hown6 hgrow hat hlt; have c15b := (hgrow.cell_far ⟨g4, 15, none⟩ (by simp; omega) hne4).trans c15a; have f15b := (hgrow.frozen_far ⟨g4, 15, none⟩ (by simp; omega) hne4).trans f15a))
      all_goals (
        obtain ⟨hRn, hbn, hrn, hsn⟩ := grow_next (j := 15) hR hbuf hBs (by omega) (by omega) (by omega) hb5 hgrow hown6
        have hrn2 := hrn gp 80 cp _ hgpB (by omega) hrd
        clear hR hbuf hrd hBs hb5 hgrow hown6 hrn
        rw [kdc_set] at hRn
        go_wp2_with fail
        exact ⟨⟨i + 1, _, by omega, congrArg (Value.int .i64) (by omega), hRn, by rw [HNX.out]; exact hbn, hrn2, hsn⟩, by show 64 - ((i : Int) + 1).toNat < 64 - (i : Int).toNat; omega⟩)
    · have hdec : decide ((i : Int) < 64) = false := by rw [decide_eq_false_iff_not]; omega
      obtain rfl : i = 64 := by omega
      obtain ⟨gk, ck, rfl, hgk, hrk⟩ := hbuf.form (by decide)
      have hlk : ((prs.take 64).map fun p => rootF p 3 32).length = 64 := by decide +kernel
      rw [hlk] at hrk
      rw [hlk] at hR
      have hrk2 : Rd wr .u64 (some ⟨gk, 0, none⟩) 64 ck kF := hrk.congr (by intro j _; rfl)
      have hgkw : gk < wr.heap.size := hrk2.lt (show 0 < 64 by omega)
      clear hrk hbuf
      obtain ⟨B2, hB2e⟩ : ∃ B2, B2 = wr.heap.size := ⟨_, rfl⟩
      have hBB : B ≤ B2 := by omega
      have hgkB : gk < B2 := by omega
      have hb0 : B64 wr B2 nilK ((prs.take 0).map fun p => rootF p 2 32) := B64.nil wr B2
      have hBs2 : B2 ≤ wr.heap.size := Nat.le_of_eq hB2e
      clear hB2e hBs
      go_wp2_with (refine wR_loadc rfl (by rfl) (by assumption) rfl (by repeat (first | exact List.Mem.head _ | refine List.Mem.tail _ ?_)) (v := .int .i64 64) rfl isAgg_int ?_)
      go_loopw [8] (fun iv wr => ∃ (i : Nat) (fv : Value), i ≤ 8 ∧ iv = .int .i64 i ∧ Rws w.heap.size w wr [(g4, kdc (.slice (some ⟨gk, 0, none⟩) 64 ck) fv, 99), (gr, zkd, 99)] ∧ B64 wr B2 fv ((prs.take i).map fun p => rootF p 2 32) ∧ Rd wr .u64 (some ⟨gp, 0, none⟩) 80 cp (fun j => prs.getD j 0) ∧ Rd wr .u64 (some ⟨gk, 0, none⟩) 64 ck kF ∧ B2 ≤ wr.heap.size) (fun iv _ => 8 - (intOf iv).toNat)
      case atStart => exact ⟨0, nilK, Nat.zero_le _, rfl, hR, hb0, hrd, hrk2, hBs2⟩
      case round =>
        clear hR hb0 hrd hBs2 hrk2
        obtain ⟨i, fv, hi, rfl, hR, hbuf, hrd, hrk, hBs⟩ := hrel
        by_cases hin : i < 8
        · have hdec : decide ((i : Int) < 8) = true := by rw [decide_eq_true_eq]; omega
          obtain ⟨q, hq⟩ : ∃ q, q = prs.getD i 0 := ⟨_, rfl⟩
          have c1 : wr.cell? ⟨g4, 16, none⟩ = some fv := hR.cellAt (List.Mem.head _) 16 rfl
          have c3 : wr.cell? ⟨g4, 0, none⟩ = some (.int .i64 32) := hR.cellAt (List.Mem.head _) 0 rfl
          have c2 : wr.cell? ⟨gp, i, none⟩ = some (.int .u64 (q : Int)) := by
            have h := hrd.cell i (by omega)
            simp only [← hq] at h
            simpa [blk_some, off_some] using h
          have hq512 : q < 512 := by
            have h : ∀ j, j < 64 → prs.getD j 0 < 512 := by decide
            rw [hq]; exact h i (by omega)
          have hroot := fun w => r2root_any q 2 w hq512 (by omega) (by omega)
          obtain ⟨x, hx⟩ : ∃ x, x = rootF q 2 32 := ⟨_, rfl⟩
          rw [← hx] at hroot
          have i1 : (i : Int) < 80 := by omega
          have i0 : (0 : Int) ≤ (i : Int) := by omega
          obtain ⟨l, hl⟩ : ∃ l, l = (prs.take i).map fun p => rootF p 2 32 := ⟨_, rfl⟩
          rw [← hl] at hbuf
          have hll : l.length = i := by
            have h80 : prs.length = 80 := by decide
            rw [hl, List.length_map, List.length_take, h80]; omega
          have hnext : ((prs.take (i + 1)).map fun p => rootF p 2 32) = l ++ [x] := by
            have h80 : i < prs.length := by have : prs.length = 80 := by decide
                                            omega
            rw [List.take_succ_eq_append_getElem h80, List.map_append, ← hl, hx, hq, List.getD_eq_getElem?_getD, List.getElem?_eq_getElem h80]
            rfl
          have hfar := hbuf.far
          have hne4 : some g4 ≠ fv.ownBlock := fun e => by have := hfar g4 e.symm; omega
          have hneP : some gp ≠ fv.ownBlock := fun e => by have := hfar gp e.symm; omega
          have hg4w : g4 < wr.heap.size := hR.lt (List.Mem.head _)
          have hgpw : gp < wr.heap.size := by omega
          have c4 : wr.frozen? ⟨g4, 16, none⟩ = false := hR.thaw (List.Mem.head _) 16
          obtain ⟨ii, hi0, hz0, hz1, hz2⟩ := info_parts r2info64
          have HROOT := Lib.hid hroot; have HX := Lib.hid hx; have HQ := Lib.hid hq; have HL := Lib.hid hl; have HLL := Lib.hid hll; have HNX := Lib.hid hnext; have HFAR := Lib.hid hfar
          have HI0 := Lib.hid hi0; have HZ0 := Lib.hid hz0; have HZ1 := Lib.hid hz1; have HZ2 := Lib.hid hz2
          clear hroot hx hq hl hll hnext hfar hi0 hz0 hz1 hz2
          have hw0 : IntKind.i64.wrap (i : Int) = (i : Int) := IntWalk.i64_in _ (by omega)
          have hw1 : IntKind.i64.wrap (0 + (i : Int)) = (0 : Int) + (i : Int) := IntWalk.i64_in _ (by omega)
          have i2 : (0 : Int) + (i : Int) < 80 := by omega
          have i3 : (0 : Int) ≤ 0 + (i : Int) := by omega
          have i4 : ((0 : Int) + (i : Int)).toNat = i := by omega
          go_upto_region 16 with fail
          clear hdec
          go_region_law (first
              | (go_simp; go_at_call 105; refine (HROOT.out _).mono ?_; rintro e w5 ⟨rfl, hb5⟩; have hs5 : wr.heap.size ≤ w5.heap.size := hb5.size; have c15 := (hb5.cell (p := ⟨g4, 16, none⟩) hg4w).trans c1; have c15a := ((hb5.alloc hs5 (.cells #[Value.int .u64 (x : Int)] 51)).cell (p := ⟨g4, 16, none⟩) hg4w).trans c1; have f15a := ((hb5.alloc hs5 (.cells #[Value.int .u64 (x : Int)] 51)).frozen (p := ⟨g4, 16, none⟩) hg4w).trans c4; go_wp2_with fail)
              | (refine step_append_lies _ (by rfl) (.tmp 52) (.tmp 62) _ (by rfl) B2 51 ii _ 1 8 Tryz.underlying47 HI0.out HZ0.out HZ1.out HZ2.out rfl (by omega) fv l.length (l.map fun (c : Nat) => Value.int .u64 (c : Int)) (by rfl) ((show B64 wr.drew B2 fv l from hbuf).below hb5 |>.below ((Below.refl _ _).alloc (Nat.le_refl _) (.cells #[Value.int .u64 (x : Int)] 51)))
                  ⟨w5.heap.size, 0, none⟩ 1 1 [.int .u64 (x : Int)] (by rfl) (by rfl) (World.news_of_block (cs := #[.int .u64 (x : Int)]) (t := 51) (fr := (0, 0)) (heap_alloc_new w5 _)) (by simp [Value.oneCell'])
                  (by omega) (by rw [HLL.out]; unfold maxLen; omega) (by rw [HLL.out]; omega) (by simp; omega) (w5.heap.size + 1) (by simp) ?_; intro gf cf w6 hown6 hgrow hat hlt; have c15b := (hgrow.cell_far ⟨g4, 16, none⟩ (by simp; omega) hne4).trans c15a; have f15b := (hgrow.frozen_far ⟨g4, 16, none⟩ (by simp; omega) hne4).trans f15a))
          all_goals (
            obtain ⟨hRn, hbn, hrn, hsn⟩ := grow_next (j := 16) hR hbuf hBs (by omega) (by omega) (by omega) hb5 hgrow hown6
            have hrn2 := hrn gp 80 cp _ (by omega) (by omega) hrd
            have hrn3 := hrn gk 64 ck _ hgkB (by omega) hrk
            clear hR hbuf hrd hrk hBs hb5 hgrow hown6 hrn
            rw [kdc_set2] at hRn
            go_wp2_with fail
            exact ⟨⟨i + 1, _, by omega, congrArg (Value.int .i64) (by omega), hRn, by rw [HNX.out]; exact hbn, hrn2, hrn3, hsn⟩, by show 8 - ((i : Int) + 1).toNat < 8 - (i : Int).toNat; omega⟩)
        · have hdec : decide ((i : Int) < 8) = false := by rw [decide_eq_false_iff_not]; omega
          obtain rfl : i = 8 := by omega
          obtain ⟨gf, cf, rfl, hgf, hrf⟩ := hbuf.form (by decide)
          have hlk : ((prs.take 8).map fun p => rootF p 2 32).length = 8 := by decide +kernel
          rw [hlk] at hrf
          rw [hlk] at hR
          have hf8 : ∀ j, j < 8 → (((prs.take 8).map fun p => rootF p 2 32).getD j 0) = firstF j := by decide +kernel
          have hrf2 : Rd wr .u64 (some ⟨gf, 0, none⟩) 8 cf firstF := hrf.congr hf8
          clear hrf hbuf hrd
          go_wp2_with (first
            | (refine wpList_load_rws rfl _ _ (by rfl) (by assumption) _ rfl (kdc (.slice (some ⟨gk, 0, none⟩) 64 ck) (.slice (some ⟨gf, 0, none⟩) 8 cf)) _ (by repeat (first | exact List.Mem.head _ | refine List.Mem.tail _ ?_)) _ Tryz.underlying99 rfl (by exact kd_info) ?_)
            | (refine wpList_store_rwsB rfl _ _ _ (by rfl) (by assumption) _ rfl (kdc (.slice (some ⟨gk, 0, none⟩) 64 ck) (.slice (some ⟨gf, 0, none⟩) 8 cf)) (by rfl) _ _ _ (by repeat (first | exact Pick.here | apply Pick.there)) (by exact kd_info) (by rfl) (by simp [kdc, Value.oneCell']) ?_; intro w7 hR7 hrd7))
          exact bodyPost_rws2 Tryz.results67 (by assumption) _ rfl _ _ (List.Mem.head _) _ Tryz.underlying99 rfl (by exact kd_info) _ rfl rfl fun hb => ⟨gk, ck, gf, cf, rfl, hrd7 _ _ _ _ (by omega) hrk, hrd7 _ _ _ _ (by omega) hrf2, hb⟩
end Go.Proofs.YtjkjlbchbbpmaaaGreatDoor
