/- ZRForm ZRRise, in one text. -/
import Derived.Test.YtebhiplcoioenaaGreatDoorZZPairs
import Derived.Test.YtebhiplcoioenaaGreatDoorZZWhole
import Derived.Test.YtebhiplcoioenaaGreatDoorZDN
import Derived.Deep.Upon
import Derived.Deep.LoopGhost
import Derived.Test.YtebhiplcoioenaaGreatDoorZZRise
import Derived.Test.YtebhiplcoioenaaGreatDoorZZLawKit
/- ostiaryref06.Form: the walk. -/
namespace Go.Proofs.YtebhiplcoioenaaGreatDoor
open Go.RowKit

/-- Bytes that lie there, or none. -/
def SrcB (w : World) (ad : Option Addr) (m : Bs) : Prop := (m = [] ∧ ad = none) ∨ ∃ g f, ad = some ⟨g, f, none⟩ ∧ ∀ (j : Nat) x, m[j]? = some x → w.cell? ⟨g, f + j, none⟩ = some (.int .u8 (x.toNat : Nat))
theorem SrcB.grown {w w' : World} {ad : Option Addr} {m : Bs} (h : SrcB w ad m) (hb : Below w.heap.size w w') : SrcB w' ad m := by
  rcases h with h | ⟨g, f, rfl, hc⟩
  · exact Or.inl h
  · refine Or.inr ⟨g, f, rfl, fun j x hj => ?_⟩
    have := hc j x hj
    have hlt : g < w.heap.size := World.block_lt_of_cell? w _ this
    exact (hb.cell (p := ⟨g, f + j, none⟩) hlt).trans this
theorem SrcB.of_own {B : Nat} {w : World} {v : Value} {l : Bs} (h : OwnB B w v l) : ∃ ad c, v = .slice ad l.length c ∧ SrcB w ad l ∧ (ad = none → c = 0) := by
  have ho := h
  obtain ⟨hl, ⟨rfl, h0⟩ | ⟨g, cap, cur, rfl, hg, hh, hn, hcm, hcs, htk⟩⟩ := h
  · have : l = [] := List.eq_nil_of_length_eq_zero h0
    subst this
    exact ⟨none, 0, rfl, Or.inl ⟨rfl, rfl⟩, fun _ => rfl⟩
  · have hc := World.ownsRow.cells ho (g := g) rfl
    refine ⟨_, _, rfl, Or.inr ⟨g, 0, rfl, fun j x hj => ?_⟩, fun h => by cases h⟩
    have := hc j (.int .u8 (x.toNat : Nat)) (by unfold ByC; rw [List.getElem?_map, hj]; rfl)
    rw [Addr.add_lit] at this
    exact this
theorem SrcB.of_row {w : World} {B g cap : Nat} {l : Bs} (h : RowM w B g cap l) : SrcB w (some ⟨g, 0, none⟩) l := Or.inr ⟨g, 0, rfl, fun j x hj => by rw [Nat.zero_add]; exact h.cell hj⟩
/-- A row of bytes behind one's own, as a step. -/
theorem wp_joinB {w w1 : World} {B : Nat} {ops : Array Oper} {rest : List Oper} {o : Oper} {a : Act} {Q : Exit → Act → World → Prop} {v : Value} (hgd : o.guard = none) (s x : Operand) (ho : o.op = .call { callee := .builtin .append, args := #[s, x], argTypes := #[68, 68] })
    {l m : Bs} {ad : Option Addr} {c : Nat} (hsv : a.eval s = v) (hxv : a.eval x = .slice ad m.length c) (hO : OwnB B w1 v l) (hS : SrcB w1 ad m) (hB : B ≤ w.heap.size) (hb : Below B w w1) (hne : v ≠ .slice none 0 0) (hcz : ad = none → c = 0) (hk : l.length + m.length ≤ 140737488355328)
    (h : ∀ v' w2, OwnB B w2 v' (l ++ m) → Below B w w2 → wpList Tryz.prog ops Q rest (a.put o.dst v') w2) : wpList Tryz.prog ops Q (o :: rest) a w1 := by
  obtain ⟨i0, hi, hz0, hz1, hz2⟩ := info_parts info_u8
  have hbs := hb.size
  refine wpList_plain hgd fun K hK => ?_
  unfold Oper.wp
  rcases hS with ⟨rfl, rfl⟩ | ⟨g, f, rfl, hc⟩
  · obtain rfl := hcz rfl
    have hO2 := hO
    obtain ⟨hl, ⟨rfl, _⟩ | ⟨g, cap, cur, rfl, hg, hh, hn, hcm, hcs, htk⟩⟩ := hO2
    · exact absurd rfl hne
    · have hr := run_append_nothing (P := Tryz.prog) w1 68 68 o.type 5 i0 Tryz.underlying68 hi (some ⟨g, 0, none⟩) l.length cap hn (.slice none 0 0) (Src.ofNil w1 Tryz.underlying68 0)
      simp only [execOp, ho, resolve, invoke, builtin, Sem.run_bind, Sem.run_pure, Result.andThen_ok, List.map_toArray, List.map_cons, List.map_nil, hsv, hxv]
      have hr2 : (Builtin.append_ #[68, 68] o.type #[.slice (some ⟨g, 0, none⟩) l.length cap, .slice none ([] : Bs).length 0]).run Tryz.prog w1 = .ok (.slice (some ⟨g, 0, none⟩) l.length cap) w1 := hr
      rw [hr2]
      exact hK _ _ (h _ w1 (by rw [List.append_nil]; exact hO) hb)
  · obtain ⟨v', w2, hr, hown, hgr, _, hat⟩ := run_append_own_at (P := Tryz.prog) w1 B 68 o.type 5 i0 (.int .u8 0) 1 1 Tryz.underlying68 hi hz0 hz1 hz2 rfl (by decide) v l.length (ByC l) hO ⟨g, f, none⟩ m.length c (ByC m) (by simp [ByC]) (fun k u hj => by
      rw [Addr.add_lit]
      unfold ByC at hj
      rw [List.getElem?_map] at hj
      cases hx : m[k]? with
      | none => rw [hx] at hj; cases hj
      | some y => rw [hx] at hj; cases hj; exact hc k y hx) (by
        intro u hu
        unfold ByC at hu
        obtain ⟨y, _, rfl⟩ := List.mem_map.1 hu
        rfl) (by unfold maxLen; omega) (by omega) (by omega)
    simp only [execOp, ho, resolve, invoke, builtin, Sem.run_bind, Sem.run_pure, Result.andThen_ok, List.map_toArray, List.map_cons, List.map_nil, hsv, hxv, hr]
    have hown2 : OwnB B w2 v' (l ++ m) := by
      unfold OwnB ByC
      rw [List.length_append, List.map_append]; exact hown
    exact hK _ _ (h v' w2 hown2 (hb.grown hgr (by omega) (fun q hq => (hO.lt q hq).1)))
/-- What form a value's first bytes have. -/
theorem whole_cat (c t : Int) (k : Bool) (s : Bs) : wholeS c t k s = (fstS c t k :: lenS s.length) ++ s := rfl
/-- A row that was just laid is one's own. -/
theorem own_new (l : Bs) (cs : Array Value) (hcs : cs = (ByC l).toArray) (u : World) (hm : l.length ≤ 8) {B : Nat} (hB : B ≤ u.heap.size) : OwnB B (u.alloc (.cells cs 5)) (.slice (some ⟨u.heap.size, 0, none⟩) l.length l.length) l := by
  have hlen : cs.size = l.length := by rw [hcs]; simp [ByC]
  exact ⟨by simp [ByC], Or.inr ⟨u.heap.size, l.length, cs, rfl, hB, heap_alloc_new _ _, Nat.le_refl _, by unfold maxLen; omega, by rw [hlen]; simp, by rw [hcs, Nat.mul_one]; simp only [ByC]; exact List.take_of_length_le (by simp)⟩⟩
/-- A text's bytes as a row of one's own, as a step. -/
theorem wp_rowB {w1 : World} {ops : Array Oper} {rest : List Oper} {o : Oper} {a : Act} {Q : Exit → Act → World → Prop} (hgd : o.guard = none) (x : Operand) (ho : o.op = .convert 9 68 x) {l : Bs} (hx : a.eval x = .string (bs l)) (hl : l.length ≤ 140737488355328)
    (h : ∀ cap w2, SrcB w2 (some ⟨w1.heap.size, 0, none⟩) l → Below w1.heap.size w1 w2 → wpList Tryz.prog ops Q rest (a.put o.dst (.slice (some ⟨w1.heap.size, 0, none⟩) l.length cap)) w2) : wpList Tryz.prog ops Q (o :: rest) a w1 := by
  obtain ⟨cap, w2, hr, hrow, hb⟩ := conv_row w1 l hl
  refine wpList_plain hgd fun K hK => ?_
  unfold Oper.wp execOp
  simp only [ho, hx, Sem.run_bind, hr, Result.andThen_ok]
  exact hK _ _ (h cap w2 (SrcB.of_row hrow) hb)
theorem and_255i (n : Nat) (hn : n < 4294967296) : bits BinOp.and IntKind.i64 (n : Int) 255 = ((n % 256 : Nat) : Int) := by
  have h1 : (BitVec.ofInt 64 (n : Int)).toNat = n := by
    rw [BitVec.ofInt_natCast, BitVec.toNat_ofNat]; exact Nat.mod_eq_of_lt (by omega)
  have h2 : (BitVec.ofInt 64 (255 : Int)).toNat = 255 := by decide
  have h3 : n &&& 255 = n % 256 := Nat.and_two_pow_sub_one_eq_mod n 8
  show IntKind.i64.wrap ((BitVec.ofInt 64 (n : Int) &&& BitVec.ofInt 64 (255 : Int)).toNat : Int) = _
  rw [BitVec.toNat_and, h1, h2, h3, IntKind.wrap_i64]
  omega
set_option maxRecDepth 100000 in
set_option maxHeartbeats 4000000 in
theorem rform_p0 (c t : Nat) (b : Bs) (l : Dr) (ad : Option Addr) (cp : Nat) (w : World) (hc : c ≤ 3) (ht : t ≤ 30) (hb : b.length < 128) : Calls Tryz.prog 79 #[dvv ⟨c, t, false, b, l⟩ ad cp] w fun e w' => e = .returned (.string (bs (wholeS c t false b))) ∧ Below w.heap.size w w' := by
  have hR := Rws.start w
  obtain ⟨X, hX⟩ : ∃ X, X = 64 * c + t := ⟨_, rfl⟩
  have hXl : X < 256 := by omega
  have hxa : bits BinOp.and IntKind.i64 (64 * (c : Int) + (t : Int)) 255 = (X : Int) := by
    have := and_255i X (by omega)
    rw [Nat.mod_eq_of_lt hXl, hX] at this
    rw [hX]
    simpa using this
  have hf : (fstS c t false).toNat = X := by
    unfold fstS
    rw [Int.toNat_natCast, Int.toNat_natCast, u8_lt _ (by simp; omega)]
    simp
    omega
  have q1 : (b.length : Int) < 256 := by omega
  have q2 : (b.length : Int) < 128 := by omega
  have hm0 : bits BinOp.and IntKind.i64 (b.length : Int) 255 = (b.length : Int) := by rw [and_255i _ (by omega), Nat.mod_eq_of_lt (by omega)]
  have HCE : Hid (#[.int .u8 (X : Int), .int .u8 (b.length : Int)] = (ByC [fstS c t false, UInt8.ofNat b.length]).toArray) := Lib.hid (by
    unfold ByC
    simp only [List.map_cons, List.map_nil, hf]
    rw [u8_lt b.length (by omega)]
    try rfl)
  have HWH : Hid (wholeS c t false b = [fstS c t false, UInt8.ofNat b.length] ++ b) := Lib.hid (by
    unfold wholeS lenS
    rw [if_pos (by omega)]
    rfl)
  clear hX hf
  go_enter Tryz.func79, Tryz.ntmps79
  go_upto_region 2 with (refine wpList_box_rws rfl _ _ (by rfl) (by exact hR) (dvC ⟨c, t, false, b, l⟩ ad cp) rfl ?_; intro gb w1 hR)
  have hR := hR.alloc0 (.cells #[] 5)
  generalize w1.alloc (.cells #[] 5) = w2 at *
  have f2 := hR.cellAt (g := gb) (List.Mem.head _) 2 rfl
  have f3 := hR.cellAt (g := gb) (List.Mem.head _) 3 rfl
  go_upto_region 8 with (refine wp_rowB rfl _ (by rfl) (l := b) (by rfl) (by omega) ?_; intro cap w3 hS hb3)
  have hR := hR.call hb3
  have f0 := hR.cellAt (g := gb) (List.Mem.head _) 0 rfl
  have f1 := hR.cellAt (g := gb) (List.Mem.head _) 1 rfl
  have f2 := hR.cellAt (g := gb) (List.Mem.head _) 2 rfl
  clear f3
  go_upto_region 17 with fail
  go_wp2_with (refine wp_joinB (w := w) (B := w.heap.size) rfl _ _ (by rfl) (l := [fstS c t false, UInt8.ofNat b.length]) (m := b) (by rfl) (by rfl) (own_new _ _ HCE.out _ (by simp) hR.below.size) (hS.grown (b_alloc _ _)) (Nat.le_refl _) (hR.alloc0 _).below (by intro h; cases h) (by intro h; cases h) (by simp; omega) ?_; intro v7 w7 hO7 hb7; have hcv := own_text hO7)
  go_ret
  rw [HWH.out]
  exact ⟨rfl, hb7⟩
set_option maxRecDepth 100000 in
set_option maxHeartbeats 4000000 in
theorem rform_p1 (c t : Nat) (b : Bs) (l : Dr) (ad : Option Addr) (cp : Nat) (w : World) (hc : c ≤ 3) (ht : t ≤ 30) (hb : 128 ≤ b.length) (hb2 : b.length < 256) : Calls Tryz.prog 79 #[dvv ⟨c, t, false, b, l⟩ ad cp] w fun e w' => e = .returned (.string (bs (wholeS c t false b))) ∧ Below w.heap.size w w' := by
  have hR := Rws.start w
  obtain ⟨X, hX⟩ : ∃ X, X = 64 * c + t := ⟨_, rfl⟩
  have hXl : X < 256 := by omega
  have hxa : bits BinOp.and IntKind.i64 (64 * (c : Int) + (t : Int)) 255 = (X : Int) := by
    have := and_255i X (by omega)
    rw [Nat.mod_eq_of_lt hXl, hX] at this
    rw [hX]
    simpa using this
  have hf : (fstS c t false).toNat = X := by
    unfold fstS
    rw [Int.toNat_natCast, Int.toNat_natCast, u8_lt _ (by simp; omega)]
    simp
    omega
  have q1 : (b.length : Int) < 256 := by omega
  have q2 : ¬ (b.length : Int) < 128 := by omega
  have hm0 : bits BinOp.and IntKind.i64 (b.length : Int) 255 = (b.length : Int) := by rw [and_255i _ (by omega), Nat.mod_eq_of_lt (by omega)]
  have HCE : Hid (#[.int .u8 (X : Int), .int .u8 129, .int .u8 (b.length : Int)] = (ByC [fstS c t false, 129, UInt8.ofNat b.length]).toArray) := Lib.hid (by
    unfold ByC
    simp only [List.map_cons, List.map_nil, hf]
    rw [u8_lt b.length (by omega)]
    try rfl)
  have HWH : Hid (wholeS c t false b = [fstS c t false, 129, UInt8.ofNat b.length] ++ b) := Lib.hid (by
    unfold wholeS lenS
    rw [if_neg (by omega), if_pos (by omega)]
    rfl)
  clear hX hf
  go_enter Tryz.func79, Tryz.ntmps79
  go_upto_region 2 with (refine wpList_box_rws rfl _ _ (by rfl) (by exact hR) (dvC ⟨c, t, false, b, l⟩ ad cp) rfl ?_; intro gb w1 hR)
  have hR := hR.alloc0 (.cells #[] 5)
  generalize w1.alloc (.cells #[] 5) = w2 at *
  have f2 := hR.cellAt (g := gb) (List.Mem.head _) 2 rfl
  have f3 := hR.cellAt (g := gb) (List.Mem.head _) 3 rfl
  go_upto_region 8 with (refine wp_rowB rfl _ (by rfl) (l := b) (by rfl) (by omega) ?_; intro cap w3 hS hb3)
  have hR := hR.call hb3
  have f0 := hR.cellAt (g := gb) (List.Mem.head _) 0 rfl
  have f1 := hR.cellAt (g := gb) (List.Mem.head _) 1 rfl
  have f2 := hR.cellAt (g := gb) (List.Mem.head _) 2 rfl
  clear f3
  go_upto_region 13 with fail
  have hS := hS.grown (b_alloc w3 (.cells #[.int .u8 (X : Int), .int .u8 (b.length : Int)] 5))
  have hR := hR.alloc0 (.cells #[.int .u8 (X : Int), .int .u8 (b.length : Int)] 5)
  generalize w3.alloc (.cells #[.int .u8 (X : Int), .int .u8 (b.length : Int)] 5) = w4 at *
  have f0 := hR.cellAt (g := gb) (List.Mem.head _) 0 rfl
  go_upto_region 17 with fail
  go_wp2_with (refine wp_joinB (w := w) (B := w.heap.size) rfl _ _ (by rfl) (l := [fstS c t false, 129, UInt8.ofNat b.length]) (m := b) (by rfl) (by rfl) (own_new _ _ HCE.out _ (by simp) hR.below.size) (hS.grown (b_alloc _ _)) (Nat.le_refl _) (hR.alloc0 _).below (by intro h; cases h) (by intro h; cases h) (by simp; omega) ?_; intro v7 w7 hO7 hb7; have hcv := own_text hO7)
  go_ret
  rw [HWH.out]
  exact ⟨rfl, hb7⟩
set_option maxRecDepth 100000 in
set_option maxHeartbeats 4000000 in
theorem rform_p2 (c t : Nat) (b : Bs) (l : Dr) (ad : Option Addr) (cp : Nat) (w : World) (hc : c ≤ 3) (ht : t ≤ 30) (hb : 256 ≤ b.length) (hb2 : b.length ≤ 1048576) : Calls Tryz.prog 79 #[dvv ⟨c, t, false, b, l⟩ ad cp] w fun e w' => e = .returned (.string (bs (wholeS c t false b))) ∧ Below w.heap.size w w' := by
  have hR := Rws.start w
  obtain ⟨X, hX⟩ : ∃ X, X = 64 * c + t := ⟨_, rfl⟩
  have hXl : X < 256 := by omega
  have hxa : bits BinOp.and IntKind.i64 (64 * (c : Int) + (t : Int)) 255 = (X : Int) := by
    have := and_255i X (by omega)
    rw [Nat.mod_eq_of_lt hXl, hX] at this
    rw [hX]
    simpa using this
  have hf : (fstS c t false).toNat = X := by
    unfold fstS
    rw [Int.toNat_natCast, Int.toNat_natCast, u8_lt _ (by simp; omega)]
    simp
    omega
  have q1 : ¬ (b.length : Int) < 256 := by omega
  have hm0 : bits BinOp.and IntKind.i64 (b.length : Int) 255 = ((b.length % 256 : Nat) : Int) := and_255i _ (by omega)
  have hm1 : bits BinOp.and IntKind.i64 ((b.length : Int) / 256) 255 = ((b.length / 256 % 256 : Nat) : Int) := by have := and_255i (b.length / 256) (by omega); simpa using this
  have HCE : Hid (#[.int .u8 (X : Int), .int .u8 130, .int .u8 ((b.length : Int) / 256 % 256), .int .u8 ((b.length : Int) % 256)] = (ByC [fstS c t false, 130, UInt8.ofNat (b.length / 256), UInt8.ofNat b.length]).toArray) := Lib.hid (by
    unfold ByC
    simp only [List.map_cons, List.map_nil, hf]
    rw [UInt8.toNat_ofNat', UInt8.toNat_ofNat']
    try rfl)
  have HWH : Hid (wholeS c t false b = [fstS c t false, 130, UInt8.ofNat (b.length / 256), UInt8.ofNat b.length] ++ b) := Lib.hid (by
    unfold wholeS lenS
    rw [if_neg (by omega), if_neg (by omega)]
    rfl)
  clear hX hf
  go_enter Tryz.func79, Tryz.ntmps79
  go_upto_region 2 with (refine wpList_box_rws rfl _ _ (by rfl) (by exact hR) (dvC ⟨c, t, false, b, l⟩ ad cp) rfl ?_; intro gb w1 hR)
  have hR := hR.alloc0 (.cells #[] 5)
  generalize w1.alloc (.cells #[] 5) = w2 at *
  have f2 := hR.cellAt (g := gb) (List.Mem.head _) 2 rfl
  have f3 := hR.cellAt (g := gb) (List.Mem.head _) 3 rfl
  go_upto_region 8 with (refine wp_rowB rfl _ (by rfl) (l := b) (by rfl) (by omega) ?_; intro cap w3 hS hb3)
  have hR := hR.call hb3
  have f0 := hR.cellAt (g := gb) (List.Mem.head _) 0 rfl
  have f1 := hR.cellAt (g := gb) (List.Mem.head _) 1 rfl
  have f2 := hR.cellAt (g := gb) (List.Mem.head _) 2 rfl
  clear f3
  go_upto_region 13 with fail
  have hS := hS.grown (b_alloc w3 (.cells #[.int .u8 (X : Int), .int .u8 ((b.length : Int) % 256)] 5))
  have hR := hR.alloc0 (.cells #[.int .u8 (X : Int), .int .u8 ((b.length : Int) % 256)] 5)
  generalize w3.alloc (.cells #[.int .u8 (X : Int), .int .u8 ((b.length : Int) % 256)] 5) = w4 at *
  have f0 := hR.cellAt (g := gb) (List.Mem.head _) 0 rfl
  go_upto_region 17 with fail
  go_wp2_with (refine wp_joinB (w := w) (B := w.heap.size) rfl _ _ (by rfl) (l := [fstS c t false, 130, UInt8.ofNat (b.length / 256), UInt8.ofNat b.length]) (m := b) (by rfl) (by rfl) (own_new _ _ HCE.out _ (by simp) hR.below.size) (hS.grown (b_alloc _ _)) (Nat.le_refl _) (hR.alloc0 _).below (by intro h; cases h) (by intro h; cases h) (by simp; omega) ?_; intro v7 w7 hO7 hb7; have hcv := own_text hO7)
  go_ret
  rw [HWH.out]
  exact ⟨rfl, hb7⟩
/-- Classes and tags that may be. -/
def Dr.rng : Dr → Prop
  | .nil => True
  | .cons c t _ _ kids nx => (0 ≤ c ∧ c ≤ 3 ∧ 0 ≤ t ∧ t ≤ 30) ∧ kids.rng ∧ nx.rng
def RFormAt (F : Dr) : Prop := ∀ (c t : Nat) (k : Bool) (s : Bs) (ad : Option Addr) (cp : Nat) (w : World), c ≤ 3 → t ≤ 30 → F.rng → s.length + 4 + F.wt ≤ 1048576 → SlD w F ad cp →
  Calls Tryz.prog 79 #[dvv ⟨c, t, k, s, F⟩ ad cp] w fun e w' => e = .returned (.string (bs (⟨c, t, k, s, F⟩ : Dv).form)) ∧ Below w.heap.size w w'
theorem rform_p (c t : Nat) (b : Bs) (l : Dr) (ad : Option Addr) (cp : Nat) (w : World) (hc : c ≤ 3) (ht : t ≤ 30) (hb : b.length ≤ 1048576) : Calls Tryz.prog 79 #[dvv ⟨c, t, false, b, l⟩ ad cp] w fun e w' => e = .returned (.string (bs (wholeS c t false b))) ∧ Below w.heap.size w w' := by
  by_cases h1 : b.length < 128
  · exact rform_p0 c t b l ad cp w hc ht h1
  · by_cases h2 : b.length < 256
    · exact rform_p1 c t b l ad cp w hc ht (by omega) h2
    · exact rform_p2 c t b l ad cp w hc ht (by omega) hb
set_option maxRecDepth 100000 in
set_option maxHeartbeats 4000000 in
theorem rform_c0 (F : Dr) (h : F.All RFormAt) (c t : Nat) (s : Bs) (ad : Option Addr) (cp : Nat) (w : World) (hc : c ≤ 3) (htt : t ≤ 30) (hrg : F.rng) (hw : s.length + 4 + F.wt ≤ 1048576) (hs : SlD w F ad cp) (ht : (formsS F).flatten.length < 128) :
    Calls Tryz.prog 79 #[dvv ⟨c, t, true, s, F⟩ ad cp] w fun e w' => e = .returned (.string (bs (wholeS c t true (formsS F).flatten))) ∧ Below w.heap.size w w' := by
  have hMX := MX_eq
  obtain ⟨hle, hcm, b, f, had, hrow⟩ := hs
  have hR := Rws.start w
  have hfl := forms_len F
  have hlw := len_wt F
  obtain ⟨T, hT⟩ : ∃ T, T = (formsS F).flatten := ⟨_, rfl⟩
  have HT := Lib.hid hT
  rw [← hT] at hfl ht ⊢
  clear hT
  obtain ⟨X, hX⟩ : ∃ X, X = 64 * c + t + 32 := ⟨_, rfl⟩
  have hXl : X < 256 := by omega
  have hxa : bits BinOp.and IntKind.i64 (64 * (c : Int) + (t : Int) + 32) 255 = (X : Int) := by
    have := and_255i X (by omega)
    rw [Nat.mod_eq_of_lt hXl, hX] at this
    rw [hX]
    simpa using this
  have hf : (fstS c t true).toNat = X := by
    unfold fstS
    rw [Int.toNat_natCast, Int.toNat_natCast, u8_lt _ (by simp; omega)]
    simp
    omega
  have q1 : (T.length : Int) < 256 := by omega
  have q2 : (T.length : Int) < 128 := by omega
  have hm0 : bits BinOp.and IntKind.i64 (T.length : Int) 255 = (T.length : Int) := by rw [and_255i _ (by omega), Nat.mod_eq_of_lt (by omega)]
  have HCE : Hid (#[.int .u8 (X : Int), .int .u8 (T.length : Int)] = (ByC [fstS c t true, UInt8.ofNat T.length]).toArray) := Lib.hid (by
    unfold ByC
    simp only [List.map_cons, List.map_nil, hf]
    rw [u8_lt T.length (by omega)]
    try rfl)
  have HWH : Hid (wholeS c t true T = [fstS c t true, UInt8.ofNat T.length] ++ T) := Lib.hid (by
    unfold wholeS lenS
    rw [if_pos (by omega)]
    rfl)
  clear hX hf
  go_enter Tryz.func79, Tryz.ntmps79
  go_upto_region 2 with (refine wpList_box_rws rfl _ _ (by rfl) (by exact hR) (dvC ⟨c, t, true, s, F⟩ ad cp) rfl ?_; intro ga w1 hR)
  have hO0 : OwnB w1.heap.size (w1.alloc (.cells #[] 5)) (.slice (some ⟨w1.heap.size, 0, none⟩) 0 0) [] := own_new [] #[] rfl w1 (by simp) (Nat.le_refl _)
  have hb0 := b_alloc w1 (.cells #[] 5)
  have hR1 := hR
  have hR := hR.alloc0 (.cells #[] 5)
  generalize w1.alloc (.cells #[] 5) = w2 at *
  have f2 := hR.cellAt (g := ga) (List.Mem.head _) 2 rfl
  have HR1 := Lib.hid hR1
  have HO0 := Lib.hid hO0
  have HB0 := Lib.hid hb0
  have HROW := Lib.hid hrow
  have HIH := Lib.hid h
  have HRG := Lib.hid hrg
  have HAD : Hid (F.len ≠ 0 → ad = some ⟨b, f, none⟩) := Lib.hid (fun hne => by rcases had with h | ⟨_, h⟩; exact h; omega)
  obtain ⟨L, hL⟩ : ∃ L, L = F.len := ⟨_, rfl⟩
  have HL := Lib.hid hL
  have HW : Hid (F.wt ≤ 1048576) := Lib.hid (by omega)
  have hlm : L ≤ MX := by omega
  have hTl : T.length ≤ 1048576 := by omega
  clear h hrow had hR hR1 hL hle hw hrg hO0 hb0 hfl hlw
  go_upto_region 4 with fail
  clear f2
  go_loopg [3, 4] F.len (fun gg s3 s4 wr => ∃ (kk : Nat) (G : Dr) (acc : Bs) (V : Value), kk + G.len = L ∧ gg = G.len ∧ s3 = V ∧ s4 = .int .i64 kk ∧ Aside (acc ++ (formsS G).flatten = T ∧ G.wt ≤ 1048576 ∧ G.rng) ∧ Aside (OwnB w1.heap.size wr V acc) ∧ Aside (Below w1.heap.size w1 wr) ∧ Aside (Row w G b (f + 5 * kk)) ∧ Aside (G.All RFormAt))
  case atStart => exact ⟨0, F, [], _, by rw [HL.out]; omega, rfl, rfl, rfl, ⟨by rw [HT.out]; rfl, HW.out, HRG.out⟩, HO0.out, HB0.out, HROW.out, HIH.out⟩
  case round =>
    obtain ⟨kk, G, acc, V, hkk, rfl, rfl, rfl, HM, HO, HB, HG, HP⟩ := hrel
    have hRw := (HR1.out).call HB.out
    have hbw := hRw.below
    have r4 : wr.cell? ⟨ga, 4, none⟩ = some (.slice ad L cp) := by rw [HL.out]; exact hRw.cellAt (g := ga) (by repeat (first | exact List.Mem.head _ | refine List.Mem.tail _ ?_)) 4 rfl
    clear HO0 HB0 HROW HIH HRG
    cases G with
    | nil =>
      have hltz : ¬ (kk : Int) < (L : Int) := by simp only [Dr.len] at hkk; omega
      have hacc : acc = T := by have := HM.out.1; simpa [formsS] using this
      subst hacc
      obtain ⟨ad3, c3, rfl, hS, hcz⟩ := SrcB.of_own HO.out
      have hR := hRw
      have f0 := hR.cellAt (g := ga) (List.Mem.head _) 0 rfl
      have f1 := hR.cellAt (g := ga) (List.Mem.head _) 1 rfl
      have f2 := hR.cellAt (g := ga) (List.Mem.head _) 2 rfl
      clear hbw hRw HT
      go_upto_region 17 with fail
      go_wp2_with (refine wp_joinB (w := w) (B := w.heap.size) rfl _ _ (by rfl) (l := [fstS c t true, UInt8.ofNat acc.length]) (m := acc) (by rfl) (by rfl) (own_new _ _ HCE.out _ (by simp) hR.below.size) (hS.grown (b_alloc _ _)) (Nat.le_refl _) (hR.alloc0 _).below (by intro h; cases h) hcz (by simp; omega) ?_; intro v7 w7 hO7 hb7; have hcv := own_text hO7)
      go_ret
      rw [HWH.out]
      exact ⟨rfl, hb7⟩
    | cons c1 t1 k1 s1 kids nx =>
      have hln : (Dr.cons c1 t1 k1 s1 kids nx).len = nx.len + 1 := rfl
      have hkl : kk < L := by omega
      have hltz : (kk : Int) < (L : Int) := by omega
      obtain ⟨a1, p1, h0, h1, h2, h3, h4, _, hsl, hrn⟩ := (HG.out).kids
      obtain rfl := HAD.out (by rw [← HL.out]; omega)
      obtain ⟨hp1, hpn⟩ := HP.out
      obtain ⟨hMT, hMw, hMr⟩ := HM.out
      obtain ⟨⟨rc0, rc1, rt0, rt1⟩, hrk, hrx⟩ := hMr
      obtain ⟨C, rfl⟩ := Int.eq_ofNat_of_zero_le rc0
      obtain ⟨T1, rfl⟩ := Int.eq_ofNat_of_zero_le rt0
      obtain ⟨X1, hX1⟩ : ∃ X1, X1 = (⟨C, T1, k1, s1, kids⟩ : Dv).form := ⟨_, rfl⟩
      simp only [Dr.wt] at hMw
      have DC : Hid (∀ u, Below wr.heap.size wr u → Calls Tryz.prog 79 #[dvv ⟨C, T1, k1, s1, kids⟩ a1 p1] u fun e w' => e = .returned (.string (bs X1)) ∧ Below u.heap.size u w') := Lib.hid fun u hu => by
        rw [hX1]; exact hp1 C T1 k1 s1 a1 p1 u (by omega) (by omega) hrk (by omega) (hsl.grown (hbw.trans (hu.mono hbw.size)))
      have hMT2 : (acc ++ X1) ++ (formsS nx).flatten = T := by
        rw [← hMT, hX1, List.append_assoc]
        rfl
      have hXl2 : acc.length + X1.length ≤ 1048576 := by
        have := congrArg List.length hMT2
        simp only [List.length_append] at this
        omega
      have HMN : Hid ((acc ++ X1) ++ (formsS nx).flatten = T ∧ nx.wt ≤ 1048576 ∧ nx.rng) := Lib.hid ⟨hMT2, by omega, hrx⟩
      have hblt : b < w.heap.size := World.block_lt_of_cell? w _ h0
      have g0 := (hbw.cell (p := ⟨b, f + 5 * kk, none⟩) hblt).trans h0
      have g1 := (hbw.cell (p := ⟨b, f + 5 * kk + 1, none⟩) hblt).trans h1
      have g2 := (hbw.cell (p := ⟨b, f + 5 * kk + 2, none⟩) hblt).trans h2
      have g3 := (hbw.cell (p := ⟨b, f + 5 * kk + 3, none⟩) hblt).trans h3
      have g4 := (hbw.cell (p := ⟨b, f + 5 * kk + 4, none⟩) hblt).trans h4
      have HRN := Lib.hid (And.intro hrn hpn)
      rw [Nat.mul_comm 5 kk] at g0 g1 g2 g3 g4
      clear hp1 hpn HP HG hrn hsl h0 h1 h2 h3 h4 hX1 hMT hMT2 hMw hrk hrx HM HT
      go_wp2_with (first
        | (go_at_call 79; refine (DC.out _ (Below.refl _ _)).mono ?_; rintro e w5 ⟨rfl, hb5⟩)
        | (refine wp_addB (w := w1) (B := w1.heap.size) rfl _ _ (by rfl) (l := acc) X1 (by rfl) (by rfl) (own_keep HO.out hb5) (Nat.le_refl _) (HB.out.trans (hb5.mono HB.out.size)) (by omega) ?_; intro v6 w6 hO6 hb6))
      go_roundg nx.len
      case measure => omega
      case rel =>
        refine ⟨kk + 1, nx, acc ++ X1, _, by omega, rfl, rfl, rfl, HMN.out, hO6, hb6, ?_, HRN.out.2⟩
        rw [show f + 5 * (kk + 1) = f + 5 * kk + 5 by omega]; exact HRN.out.1
set_option maxRecDepth 100000 in
set_option maxHeartbeats 4000000 in
theorem rform_c1 (F : Dr) (h : F.All RFormAt) (c t : Nat) (s : Bs) (ad : Option Addr) (cp : Nat) (w : World) (hc : c ≤ 3) (htt : t ≤ 30) (hrg : F.rng) (hw : s.length + 4 + F.wt ≤ 1048576) (hs : SlD w F ad cp) (ht : 128 ≤ (formsS F).flatten.length) (ht2 : (formsS F).flatten.length < 256) :
    Calls Tryz.prog 79 #[dvv ⟨c, t, true, s, F⟩ ad cp] w fun e w' => e = .returned (.string (bs (wholeS c t true (formsS F).flatten))) ∧ Below w.heap.size w w' := by
  have hMX := MX_eq
  obtain ⟨hle, hcm, b, f, had, hrow⟩ := hs
  have hR := Rws.start w
  have hfl := forms_len F
  have hlw := len_wt F
  obtain ⟨T, hT⟩ : ∃ T, T = (formsS F).flatten := ⟨_, rfl⟩
  have HT := Lib.hid hT
  rw [← hT] at hfl ht ht2 ⊢
  clear hT
  obtain ⟨X, hX⟩ : ∃ X, X = 64 * c + t + 32 := ⟨_, rfl⟩
  have hXl : X < 256 := by omega
  have hxa : bits BinOp.and IntKind.i64 (64 * (c : Int) + (t : Int) + 32) 255 = (X : Int) := by
    have := and_255i X (by omega)
    rw [Nat.mod_eq_of_lt hXl, hX] at this
    rw [hX]
    simpa using this
  have hf : (fstS c t true).toNat = X := by
    unfold fstS
    rw [Int.toNat_natCast, Int.toNat_natCast, u8_lt _ (by simp; omega)]
    simp
    omega
  have q1 : (T.length : Int) < 256 := by omega
  have q2 : ¬ (T.length : Int) < 128 := by omega
  have hm0 : bits BinOp.and IntKind.i64 (T.length : Int) 255 = (T.length : Int) := by rw [and_255i _ (by omega), Nat.mod_eq_of_lt (by omega)]
  have HCE : Hid (#[.int .u8 (X : Int), .int .u8 129, .int .u8 (T.length : Int)] = (ByC [fstS c t true, 129, UInt8.ofNat T.length]).toArray) := Lib.hid (by
    unfold ByC
    simp only [List.map_cons, List.map_nil, hf]
    rw [u8_lt T.length (by omega)]
    try rfl)
  have HWH : Hid (wholeS c t true T = [fstS c t true, 129, UInt8.ofNat T.length] ++ T) := Lib.hid (by
    unfold wholeS lenS
    rw [if_neg (by omega), if_pos (by omega)]
    rfl)
  clear hX hf
  go_enter Tryz.func79, Tryz.ntmps79
  go_upto_region 2 with (refine wpList_box_rws rfl _ _ (by rfl) (by exact hR) (dvC ⟨c, t, true, s, F⟩ ad cp) rfl ?_; intro ga w1 hR)
  have hO0 : OwnB w1.heap.size (w1.alloc (.cells #[] 5)) (.slice (some ⟨w1.heap.size, 0, none⟩) 0 0) [] := own_new [] #[] rfl w1 (by simp) (Nat.le_refl _)
  have hb0 := b_alloc w1 (.cells #[] 5)
  have hR1 := hR
  have hR := hR.alloc0 (.cells #[] 5)
  generalize w1.alloc (.cells #[] 5) = w2 at *
  have f2 := hR.cellAt (g := ga) (List.Mem.head _) 2 rfl
  have HR1 := Lib.hid hR1
  have HO0 := Lib.hid hO0
  have HB0 := Lib.hid hb0
  have HROW := Lib.hid hrow
  have HIH := Lib.hid h
  have HRG := Lib.hid hrg
  have HAD : Hid (F.len ≠ 0 → ad = some ⟨b, f, none⟩) := Lib.hid (fun hne => by rcases had with h | ⟨_, h⟩; exact h; omega)
  obtain ⟨L, hL⟩ : ∃ L, L = F.len := ⟨_, rfl⟩
  have HL := Lib.hid hL
  have HW : Hid (F.wt ≤ 1048576) := Lib.hid (by omega)
  have hlm : L ≤ MX := by omega
  have hTl : T.length ≤ 1048576 := by omega
  clear h hrow had hR hR1 hL hle hw hrg hO0 hb0 hfl hlw
  go_upto_region 4 with fail
  clear f2
  go_loopg [3, 4] F.len (fun gg s3 s4 wr => ∃ (kk : Nat) (G : Dr) (acc : Bs) (V : Value), kk + G.len = L ∧ gg = G.len ∧ s3 = V ∧ s4 = .int .i64 kk ∧ Aside (acc ++ (formsS G).flatten = T ∧ G.wt ≤ 1048576 ∧ G.rng) ∧ Aside (OwnB w1.heap.size wr V acc) ∧ Aside (Below w1.heap.size w1 wr) ∧ Aside (Row w G b (f + 5 * kk)) ∧ Aside (G.All RFormAt))
  case atStart => exact ⟨0, F, [], _, by rw [HL.out]; omega, rfl, rfl, rfl, ⟨by rw [HT.out]; rfl, HW.out, HRG.out⟩, HO0.out, HB0.out, HROW.out, HIH.out⟩
  case round =>
    obtain ⟨kk, G, acc, V, hkk, rfl, rfl, rfl, HM, HO, HB, HG, HP⟩ := hrel
    have hRw := (HR1.out).call HB.out
    have hbw := hRw.below
    have r4 : wr.cell? ⟨ga, 4, none⟩ = some (.slice ad L cp) := by rw [HL.out]; exact hRw.cellAt (g := ga) (by repeat (first | exact List.Mem.head _ | refine List.Mem.tail _ ?_)) 4 rfl
    clear HO0 HB0 HROW HIH HRG
    cases G with
    | nil =>
      have hltz : ¬ (kk : Int) < (L : Int) := by simp only [Dr.len] at hkk; omega
      have hacc : acc = T := by have := HM.out.1; simpa [formsS] using this
      subst hacc
      obtain ⟨ad3, c3, rfl, hS, hcz⟩ := SrcB.of_own HO.out
      have hR := hRw
      have f0 := hR.cellAt (g := ga) (List.Mem.head _) 0 rfl
      have f1 := hR.cellAt (g := ga) (List.Mem.head _) 1 rfl
      have f2 := hR.cellAt (g := ga) (List.Mem.head _) 2 rfl
      clear hbw hRw HT
      go_upto_region 13 with fail
      have hS := hS.grown (b_alloc wr (.cells #[.int .u8 (X : Int), .int .u8 (acc.length : Int)] 5))
      have hR := hR.alloc0 (.cells #[.int .u8 (X : Int), .int .u8 (acc.length : Int)] 5)
      generalize wr.alloc (.cells #[.int .u8 (X : Int), .int .u8 (acc.length : Int)] 5) = w4 at *
      have f0 := hR.cellAt (g := ga) (List.Mem.head _) 0 rfl
      go_upto_region 17 with fail
      go_wp2_with (refine wp_joinB (w := w) (B := w.heap.size) rfl _ _ (by rfl) (l := [fstS c t true, 129, UInt8.ofNat acc.length]) (m := acc) (by rfl) (by rfl) (own_new _ _ HCE.out _ (by simp) hR.below.size) (hS.grown (b_alloc _ _)) (Nat.le_refl _) (hR.alloc0 _).below (by intro h; cases h) hcz (by simp; omega) ?_; intro v7 w7 hO7 hb7; have hcv := own_text hO7)
      go_ret
      rw [HWH.out]
      exact ⟨rfl, hb7⟩
    | cons c1 t1 k1 s1 kids nx =>
      have hln : (Dr.cons c1 t1 k1 s1 kids nx).len = nx.len + 1 := rfl
      have hkl : kk < L := by omega
      have hltz : (kk : Int) < (L : Int) := by omega
      obtain ⟨a1, p1, h0, h1, h2, h3, h4, _, hsl, hrn⟩ := (HG.out).kids
      obtain rfl := HAD.out (by rw [← HL.out]; omega)
      obtain ⟨hp1, hpn⟩ := HP.out
      obtain ⟨hMT, hMw, hMr⟩ := HM.out
      obtain ⟨⟨rc0, rc1, rt0, rt1⟩, hrk, hrx⟩ := hMr
      obtain ⟨C, rfl⟩ := Int.eq_ofNat_of_zero_le rc0
      obtain ⟨T1, rfl⟩ := Int.eq_ofNat_of_zero_le rt0
      obtain ⟨X1, hX1⟩ : ∃ X1, X1 = (⟨C, T1, k1, s1, kids⟩ : Dv).form := ⟨_, rfl⟩
      simp only [Dr.wt] at hMw
      have DC : Hid (∀ u, Below wr.heap.size wr u → Calls Tryz.prog 79 #[dvv ⟨C, T1, k1, s1, kids⟩ a1 p1] u fun e w' => e = .returned (.string (bs X1)) ∧ Below u.heap.size u w') := Lib.hid fun u hu => by
        rw [hX1]; exact hp1 C T1 k1 s1 a1 p1 u (by omega) (by omega) hrk (by omega) (hsl.grown (hbw.trans (hu.mono hbw.size)))
      have hMT2 : (acc ++ X1) ++ (formsS nx).flatten = T := by
        rw [← hMT, hX1, List.append_assoc]
        rfl
      have hXl2 : acc.length + X1.length ≤ 1048576 := by
        have := congrArg List.length hMT2
        simp only [List.length_append] at this
        omega
      have HMN : Hid ((acc ++ X1) ++ (formsS nx).flatten = T ∧ nx.wt ≤ 1048576 ∧ nx.rng) := Lib.hid ⟨hMT2, by omega, hrx⟩
      have hblt : b < w.heap.size := World.block_lt_of_cell? w _ h0
      have g0 := (hbw.cell (p := ⟨b, f + 5 * kk, none⟩) hblt).trans h0
      have g1 := (hbw.cell (p := ⟨b, f + 5 * kk + 1, none⟩) hblt).trans h1
      have g2 := (hbw.cell (p := ⟨b, f + 5 * kk + 2, none⟩) hblt).trans h2
      have g3 := (hbw.cell (p := ⟨b, f + 5 * kk + 3, none⟩) hblt).trans h3
      have g4 := (hbw.cell (p := ⟨b, f + 5 * kk + 4, none⟩) hblt).trans h4
      have HRN := Lib.hid (And.intro hrn hpn)
      rw [Nat.mul_comm 5 kk] at g0 g1 g2 g3 g4
      clear hp1 hpn HP HG hrn hsl h0 h1 h2 h3 h4 hX1 hMT hMT2 hMw hrk hrx HM HT
      go_wp2_with (first
        | (go_at_call 79; refine (DC.out _ (Below.refl _ _)).mono ?_; rintro e w5 ⟨rfl, hb5⟩)
        | (refine wp_addB (w := w1) (B := w1.heap.size) rfl _ _ (by rfl) (l := acc) X1 (by rfl) (by rfl) (own_keep HO.out hb5) (Nat.le_refl _) (HB.out.trans (hb5.mono HB.out.size)) (by omega) ?_; intro v6 w6 hO6 hb6))
      go_roundg nx.len
      case measure => omega
      case rel =>
        refine ⟨kk + 1, nx, acc ++ X1, _, by omega, rfl, rfl, rfl, HMN.out, hO6, hb6, ?_, HRN.out.2⟩
        rw [show f + 5 * (kk + 1) = f + 5 * kk + 5 by omega]; exact HRN.out.1
set_option maxRecDepth 100000 in
set_option maxHeartbeats 4000000 in
theorem rform_c2 (F : Dr) (h : F.All RFormAt) (c t : Nat) (s : Bs) (ad : Option Addr) (cp : Nat) (w : World) (hc : c ≤ 3) (htt : t ≤ 30) (hrg : F.rng) (hw : s.length + 4 + F.wt ≤ 1048576) (hs : SlD w F ad cp) (ht : 256 ≤ (formsS F).flatten.length) :
    Calls Tryz.prog 79 #[dvv ⟨c, t, true, s, F⟩ ad cp] w fun e w' => e = .returned (.string (bs (wholeS c t true (formsS F).flatten))) ∧ Below w.heap.size w w' := by
  have hMX := MX_eq
  obtain ⟨hle, hcm, b, f, had, hrow⟩ := hs
  have hR := Rws.start w
  have hfl := forms_len F
  have hlw := len_wt F
  obtain ⟨T, hT⟩ : ∃ T, T = (formsS F).flatten := ⟨_, rfl⟩
  have HT := Lib.hid hT
  rw [← hT] at hfl ht ⊢
  clear hT
  obtain ⟨X, hX⟩ : ∃ X, X = 64 * c + t + 32 := ⟨_, rfl⟩
  have hXl : X < 256 := by omega
  have hxa : bits BinOp.and IntKind.i64 (64 * (c : Int) + (t : Int) + 32) 255 = (X : Int) := by
    have := and_255i X (by omega)
    rw [Nat.mod_eq_of_lt hXl, hX] at this
    rw [hX]
    simpa using this
  have hf : (fstS c t true).toNat = X := by
    unfold fstS
    rw [Int.toNat_natCast, Int.toNat_natCast, u8_lt _ (by simp; omega)]
    simp
    omega
  have q1 : ¬ (T.length : Int) < 256 := by omega
  have hm0 : bits BinOp.and IntKind.i64 (T.length : Int) 255 = ((T.length % 256 : Nat) : Int) := and_255i _ (by omega)
  have hm1 : bits BinOp.and IntKind.i64 ((T.length : Int) / 256) 255 = ((T.length / 256 % 256 : Nat) : Int) := by have := and_255i (T.length / 256) (by omega); simpa using this
  have HCE : Hid (#[.int .u8 (X : Int), .int .u8 130, .int .u8 ((T.length : Int) / 256 % 256), .int .u8 ((T.length : Int) % 256)] = (ByC [fstS c t true, 130, UInt8.ofNat (T.length / 256), UInt8.ofNat T.length]).toArray) := Lib.hid (by
    unfold ByC
    simp only [List.map_cons, List.map_nil, hf]
    rw [UInt8.toNat_ofNat', UInt8.toNat_ofNat']
    try rfl)
  have HWH : Hid (wholeS c t true T = [fstS c t true, 130, UInt8.ofNat (T.length / 256), UInt8.ofNat T.length] ++ T) := Lib.hid (by
    unfold wholeS lenS
    rw [if_neg (by omega), if_neg (by omega)]
    rfl)
  clear hX hf
  go_enter Tryz.func79, Tryz.ntmps79
  go_upto_region 2 with (refine wpList_box_rws rfl _ _ (by rfl) (by exact hR) (dvC ⟨c, t, true, s, F⟩ ad cp) rfl ?_; intro ga w1 hR)
  have hO0 : OwnB w1.heap.size (w1.alloc (.cells #[] 5)) (.slice (some ⟨w1.heap.size, 0, none⟩) 0 0) [] := own_new [] #[] rfl w1 (by simp) (Nat.le_refl _)
  have hb0 := b_alloc w1 (.cells #[] 5)
  have hR1 := hR
  have hR := hR.alloc0 (.cells #[] 5)
  generalize w1.alloc (.cells #[] 5) = w2 at *
  have f2 := hR.cellAt (g := ga) (List.Mem.head _) 2 rfl
  have HR1 := Lib.hid hR1
  have HO0 := Lib.hid hO0
  have HB0 := Lib.hid hb0
  have HROW := Lib.hid hrow
  have HIH := Lib.hid h
  have HRG := Lib.hid hrg
  have HAD : Hid (F.len ≠ 0 → ad = some ⟨b, f, none⟩) := Lib.hid (fun hne => by rcases had with h | ⟨_, h⟩; exact h; omega)
  obtain ⟨L, hL⟩ : ∃ L, L = F.len := ⟨_, rfl⟩
  have HL := Lib.hid hL
  have HW : Hid (F.wt ≤ 1048576) := Lib.hid (by omega)
  have hlm : L ≤ MX := by omega
  have hTl : T.length ≤ 1048576 := by omega
  clear h hrow had hR hR1 hL hle hw hrg hO0 hb0 hfl hlw
  go_upto_region 4 with fail
  clear f2
  go_loopg [3, 4] F.len (fun gg s3 s4 wr => ∃ (kk : Nat) (G : Dr) (acc : Bs) (V : Value), kk + G.len = L ∧ gg = G.len ∧ s3 = V ∧ s4 = .int .i64 kk ∧ Aside (acc ++ (formsS G).flatten = T ∧ G.wt ≤ 1048576 ∧ G.rng) ∧ Aside (OwnB w1.heap.size wr V acc) ∧ Aside (Below w1.heap.size w1 wr) ∧ Aside (Row w G b (f + 5 * kk)) ∧ Aside (G.All RFormAt))
  case atStart => exact ⟨0, F, [], _, by rw [HL.out]; omega, rfl, rfl, rfl, ⟨by rw [HT.out]; rfl, HW.out, HRG.out⟩, HO0.out, HB0.out, HROW.out, HIH.out⟩
  case round =>
    obtain ⟨kk, G, acc, V, hkk, rfl, rfl, rfl, HM, HO, HB, HG, HP⟩ := hrel
    have hRw := (HR1.out).call HB.out
    have hbw := hRw.below
    have r4 : wr.cell? ⟨ga, 4, none⟩ = some (.slice ad L cp) := by rw [HL.out]; exact hRw.cellAt (g := ga) (by repeat (first | exact List.Mem.head _ | refine List.Mem.tail _ ?_)) 4 rfl
    clear HO0 HB0 HROW HIH HRG
    cases G with
    | nil =>
      have hltz : ¬ (kk : Int) < (L : Int) := by simp only [Dr.len] at hkk; omega
      have hacc : acc = T := by have := HM.out.1; simpa [formsS] using this
      subst hacc
      obtain ⟨ad3, c3, rfl, hS, hcz⟩ := SrcB.of_own HO.out
      have hR := hRw
      have f0 := hR.cellAt (g := ga) (List.Mem.head _) 0 rfl
      have f1 := hR.cellAt (g := ga) (List.Mem.head _) 1 rfl
      have f2 := hR.cellAt (g := ga) (List.Mem.head _) 2 rfl
      clear hbw hRw HT
      go_upto_region 13 with fail
      have hS := hS.grown (b_alloc wr (.cells #[.int .u8 (X : Int), .int .u8 ((acc.length : Int) % 256)] 5))
      have hR := hR.alloc0 (.cells #[.int .u8 (X : Int), .int .u8 ((acc.length : Int) % 256)] 5)
      generalize wr.alloc (.cells #[.int .u8 (X : Int), .int .u8 ((acc.length : Int) % 256)] 5) = w4 at *
      have f0 := hR.cellAt (g := ga) (List.Mem.head _) 0 rfl
      go_upto_region 17 with fail
      go_wp2_with (refine wp_joinB (w := w) (B := w.heap.size) rfl _ _ (by rfl) (l := [fstS c t true, 130, UInt8.ofNat (acc.length / 256), UInt8.ofNat acc.length]) (m := acc) (by rfl) (by rfl) (own_new _ _ HCE.out _ (by simp) hR.below.size) (hS.grown (b_alloc _ _)) (Nat.le_refl _) (hR.alloc0 _).below (by intro h; cases h) hcz (by simp; omega) ?_; intro v7 w7 hO7 hb7; have hcv := own_text hO7)
      go_ret
      rw [HWH.out]
      exact ⟨rfl, hb7⟩
    | cons c1 t1 k1 s1 kids nx =>
      have hln : (Dr.cons c1 t1 k1 s1 kids nx).len = nx.len + 1 := rfl
      have hkl : kk < L := by omega
      have hltz : (kk : Int) < (L : Int) := by omega
      obtain ⟨a1, p1, h0, h1, h2, h3, h4, _, hsl, hrn⟩ := (HG.out).kids
      obtain rfl := HAD.out (by rw [← HL.out]; omega)
      obtain ⟨hp1, hpn⟩ := HP.out
      obtain ⟨hMT, hMw, hMr⟩ := HM.out
      obtain ⟨⟨rc0, rc1, rt0, rt1⟩, hrk, hrx⟩ := hMr
      obtain ⟨C, rfl⟩ := Int.eq_ofNat_of_zero_le rc0
      obtain ⟨T1, rfl⟩ := Int.eq_ofNat_of_zero_le rt0
      obtain ⟨X1, hX1⟩ : ∃ X1, X1 = (⟨C, T1, k1, s1, kids⟩ : Dv).form := ⟨_, rfl⟩
      simp only [Dr.wt] at hMw
      have DC : Hid (∀ u, Below wr.heap.size wr u → Calls Tryz.prog 79 #[dvv ⟨C, T1, k1, s1, kids⟩ a1 p1] u fun e w' => e = .returned (.string (bs X1)) ∧ Below u.heap.size u w') := Lib.hid fun u hu => by
        rw [hX1]; exact hp1 C T1 k1 s1 a1 p1 u (by omega) (by omega) hrk (by omega) (hsl.grown (hbw.trans (hu.mono hbw.size)))
      have hMT2 : (acc ++ X1) ++ (formsS nx).flatten = T := by
        rw [← hMT, hX1, List.append_assoc]
        rfl
      have hXl2 : acc.length + X1.length ≤ 1048576 := by
        have := congrArg List.length hMT2
        simp only [List.length_append] at this
        omega
      have HMN : Hid ((acc ++ X1) ++ (formsS nx).flatten = T ∧ nx.wt ≤ 1048576 ∧ nx.rng) := Lib.hid ⟨hMT2, by omega, hrx⟩
      have hblt : b < w.heap.size := World.block_lt_of_cell? w _ h0
      have g0 := (hbw.cell (p := ⟨b, f + 5 * kk, none⟩) hblt).trans h0
      have g1 := (hbw.cell (p := ⟨b, f + 5 * kk + 1, none⟩) hblt).trans h1
      have g2 := (hbw.cell (p := ⟨b, f + 5 * kk + 2, none⟩) hblt).trans h2
      have g3 := (hbw.cell (p := ⟨b, f + 5 * kk + 3, none⟩) hblt).trans h3
      have g4 := (hbw.cell (p := ⟨b, f + 5 * kk + 4, none⟩) hblt).trans h4
      have HRN := Lib.hid (And.intro hrn hpn)
      rw [Nat.mul_comm 5 kk] at g0 g1 g2 g3 g4
      clear hp1 hpn HP HG hrn hsl h0 h1 h2 h3 h4 hX1 hMT hMT2 hMw hrk hrx HM HT
      go_wp2_with (first
        | (go_at_call 79; refine (DC.out _ (Below.refl _ _)).mono ?_; rintro e w5 ⟨rfl, hb5⟩)
        | (refine wp_addB (w := w1) (B := w1.heap.size) rfl _ _ (by rfl) (l := acc) X1 (by rfl) (by rfl) (own_keep HO.out hb5) (Nat.le_refl _) (HB.out.trans (hb5.mono HB.out.size)) (by omega) ?_; intro v6 w6 hO6 hb6))
      go_roundg nx.len
      case measure => omega
      case rel =>
        refine ⟨kk + 1, nx, acc ++ X1, _, by omega, rfl, rfl, rfl, HMN.out, hO6, hb6, ?_, HRN.out.2⟩
        rw [show f + 5 * (kk + 1) = f + 5 * kk + 5 by omega]; exact HRN.out.1
theorem rform_step (F : Dr) (h : F.All RFormAt) : RFormAt F := by
  intro c t k s ad cp w hc ht hr hw hs
  cases k with
  | false => exact rform_p c t s F ad cp w hc ht (by omega)
  | true =>
    show Calls _ _ _ _ fun e w' => e = .returned (.string (bs (wholeS c t true (formsS F).flatten))) ∧ _
    by_cases h1 : (formsS F).flatten.length < 128
    · exact rform_c0 F h c t s ad cp w hc ht hr hw hs h1
    · by_cases h2 : (formsS F).flatten.length < 256
      · exact rform_c1 F h c t s ad cp w hc ht hr hw hs (by omega) h2
      · exact rform_c2 F h c t s ad cp w hc ht hr hw hs (by omega)
/-- The document's form of any value. -/
theorem Form_any (v : Dv) (ad : Option Addr) (cp : Nat) (w : World) (hc : 0 ≤ v.c ∧ v.c ≤ 3) (ht : 0 ≤ v.t ∧ v.t ≤ 30) (hr : v.l.rng) (hw : v.b.length + 4 + v.l.wt ≤ 1048576) (hs : SlD w v.l ad cp) :
    Calls Tryz.prog 79 #[dvv v ad cp] w fun e w' => e = .returned (.string (bs v.form)) ∧ Below w.heap.size w w' := by
  obtain ⟨c, t, k, b, l⟩ := v
  simp only at hc ht
  obtain ⟨C, rfl⟩ := Int.eq_ofNat_of_zero_le hc.1
  obtain ⟨T, rfl⟩ := Int.eq_ofNat_of_zero_le ht.1
  exact Dr.rec_all rform_step l C T k b ad cp w (by omega) (by omega) hr hw hs
end Go.Proofs.YtebhiplcoioenaaGreatDoor
/- ostiaryref06.rises: the walk. -/
namespace Go.Proofs.YtebhiplcoioenaaGreatDoor
open Go.RowKit

def chainB : Bs → List Bs → Bool
  | _, [] => true
  | x, a :: r => leB x a && chainB a r
theorem rise_chain : ∀ (a : Bs) (l : List Bs), riseB (a :: l) = chainB a l
  | _, [] => rfl
  | a, b :: l => by rw [riseB, chainB, rise_chain b l]
theorem rise_chain0 : ∀ l : List Bs, riseB l = chainB [] l
  | [] => rfl
  | a :: l => by rw [rise_chain, chainB, show leB [] a = true from rfl, Bool.true_and]
theorem head_rng {c t : Int} {k : Bool} {b : Bs} {n d : Nat} (h : headE c t k b n d = 0) : 0 ≤ c ∧ c ≤ 3 ∧ 0 ≤ t ∧ t ≤ 30 := by
  unfold headE at h
  by_cases h1 : c < 0 ∨ 3 < c ∨ t < 0 ∨ 30 < t ∨ (c = 0 ∧ thereB t = false)
  · rw [if_pos h1] at h; cases h
  · omega
theorem errs_rng : ∀ (F : Dr) (d : Nat), errsS F d = 0 → F.rng
  | .nil, _, _ => trivial
  | .cons c t k b kids nx, d, h => by
    rw [errsS] at h
    by_cases h1 : headE c t k b kids.len d ≠ 0
    · rw [if_pos h1] at h; exact absurd h h1
    · rw [if_neg h1] at h
      have h0 : headE c t k b kids.len d = 0 := Classical.byContradiction h1
      refine ⟨head_rng h0, ?_⟩
      cases k with
      | false =>
        rw [if_pos rfl] at h
        by_cases h2 : c = 0 ∧ fineS t b = false
        · rw [if_pos h2] at h; cases h
        · rw [if_neg h2] at h
          have hk : kids = .nil := by
            have := (head_ok h0).2.2.2.2
            cases kids with
            | nil => rfl
            | cons => 
              unfold headE at h0
              by_cases h3 : c < 0 ∨ 3 < c ∨ t < 0 ∨ 30 < t ∨ (c = 0 ∧ thereB t = false)
              · rw [if_pos h3] at h0; cases h0
              · rw [if_neg h3, if_pos (Or.inr (Or.inr ⟨rfl, by simp [Dr.len]⟩))] at h0; cases h0
          subst hk
          exact ⟨trivial, errs_rng nx d h⟩
      | true =>
        rw [if_neg (by decide)] at h
        by_cases h2 : errsS kids (d + 1) ≠ 0
        · rw [if_pos h2] at h; exact absurd h h2
        · rw [if_neg h2] at h
          by_cases h3 : c = 0 ∧ t = 17 ∧ riseB (formsS kids) = false
          · rw [if_pos h3] at h; cases h
          · rw [if_neg h3] at h
            exact ⟨errs_rng kids (d + 1) (Classical.byContradiction h2), errs_rng nx d h⟩
set_option maxRecDepth 100000 in
set_option maxHeartbeats 8000000 in
theorem Rises_any (F : Dr) (ad : Option Addr) (cp : Nat) (w : World) (hs : SlD w F ad cp) (hw : F.wt ≤ 1048576) (hr : F.rng) : Calls Tryz.prog 73 #[.slice ad F.len cp] w (RetB (riseB (formsS F)) w) := by
  have hMX := MX_eq
  obtain ⟨hle, hcm, b, f, had, hrow⟩ := hs
  obtain ⟨R, hR⟩ : ∃ R, R = riseB (formsS F) := ⟨_, rfl⟩
  rw [← hR]
  have HR : Hid (R = chainB [] (formsS F)) := Lib.hid (by rw [hR]; exact rise_chain0 _)
  have HROW := Lib.hid hrow
  have HAD : Hid (F.len ≠ 0 → ad = some ⟨b, f, none⟩) := Lib.hid (fun hne => by rcases had with h | ⟨_, h⟩; exact h; omega)
  obtain ⟨L, hL⟩ : ∃ L, L = F.len := ⟨_, rfl⟩
  have HL := Lib.hid hL
  have hlm : L ≤ MX := by omega
  rw [← hL]
  have HW := Lib.hid hw
  have HRG := Lib.hid hr
  clear hrow had hR hL hw hr hle
  go_enter Tryz.func73, Tryz.ntmps73
  go_upto_region 3 with fail
  go_loopg [3, 4, 5] F.len (fun gg s3 s4 _ wr => ∃ (kk : Nat) (G : Dr) (last : Bs), kk + G.len = L ∧ gg = G.len ∧ s3 = .string (bs last) ∧ s4 = .int .i64 kk ∧ Aside (R = chainB last (formsS G)) ∧ Aside (G.wt ≤ 1048576 ∧ G.rng ∧ last.length ≤ 1048576) ∧ Aside (Below w.heap.size w wr) ∧ Aside (Row w G b (f + 5 * kk)))
  case atStart => exact ⟨0, F, [], by rw [HL.out]; omega, rfl, rfl, rfl, HR.out, ⟨HW.out, HRG.out, Nat.zero_le _⟩, Below.refl _ _, HROW.out⟩
  case round =>
    obtain ⟨kk, G, last, hkk, rfl, rfl, rfl, HA, HM, HB, HG⟩ := hrel
    clear HR HROW HW HRG
    have hbw := HB.out
    cases G with
    | nil =>
      have hltz : ¬ (kk : Int) < (L : Int) := by simp only [Dr.len] at hkk; omega
      have HT : Hid (R = true) := Lib.hid HA.out
      clear hbw
      go_wp2_with fail
      go_ret
      rw [HT.out]
      exact ⟨rfl, HB.out⟩
    | cons c1 t1 k1 s1 kids nx =>
      have hln : (Dr.cons c1 t1 k1 s1 kids nx).len = nx.len + 1 := rfl
      have hkl : kk < L := by omega
      have hltz : (kk : Int) < (L : Int) := by omega
      obtain ⟨a1, p1, h0, h1, h2, h3, h4, _, hsl, hrn⟩ := (HG.out).kids
      obtain rfl := HAD.out (by rw [← HL.out]; omega)
      obtain ⟨hMw, hMr, hll⟩ := HM.out
      obtain ⟨⟨rc0, rc1, rt0, rt1⟩, hrk, hrx⟩ := hMr
      obtain ⟨X1, hX1⟩ : ∃ X1, X1 = (⟨c1, t1, k1, s1, kids⟩ : Dv).form := ⟨_, rfl⟩
      have hfl : X1.length ≤ (Dr.cons c1 t1 k1 s1 kids nx).wt := by
        have h5 := forms_len (Dr.cons c1 t1 k1 s1 kids nx)
        have h6 : formsS (Dr.cons c1 t1 k1 s1 kids nx) = X1 :: formsS nx := by rw [hX1]; rfl
        rw [h6, List.flatten_cons, List.length_append] at h5
        omega
      simp only [Dr.wt] at hMw hfl
      have DC : Hid (∀ u, Below wr.heap.size wr u → Calls Tryz.prog 79 #[dvv ⟨c1, t1, k1, s1, kids⟩ a1 p1] u fun e w' => e = .returned (.string (bs X1)) ∧ Below u.heap.size u w') := Lib.hid fun u hu => by
        rw [hX1]; exact Form_any ⟨c1, t1, k1, s1, kids⟩ a1 p1 u ⟨rc0, rc1⟩ ⟨rt0, rt1⟩ hrk (by show s1.length + 4 + kids.wt ≤ 1048576; omega) (hsl.grown (hbw.trans (hu.mono hbw.size)))
      have HAN : Hid (R = (leB last X1 && chainB X1 (formsS nx))) := Lib.hid (by rw [HA.out, hX1]; rfl)
      have hblt : b < w.heap.size := World.block_lt_of_cell? w _ h0
      have g0 := (hbw.cell (p := ⟨b, f + 5 * kk, none⟩) hblt).trans h0
      have g1 := (hbw.cell (p := ⟨b, f + 5 * kk + 1, none⟩) hblt).trans h1
      have g2 := (hbw.cell (p := ⟨b, f + 5 * kk + 2, none⟩) hblt).trans h2
      have g3 := (hbw.cell (p := ⟨b, f + 5 * kk + 3, none⟩) hblt).trans h3
      have g4 := (hbw.cell (p := ⟨b, f + 5 * kk + 4, none⟩) hblt).trans h4
      have HRN := Lib.hid (And.intro hrn hrx)
      have HWN : Hid (nx.wt ≤ 1048576 ∧ X1.length ≤ 1048576) := Lib.hid ⟨by omega, by omega⟩
      rw [Nat.mul_comm 5 kk] at g0 g1 g2 g3 g4
      have hls := less_le last X1
      clear HG hrn hsl h0 h1 h2 h3 h4 hX1 hMw hrk hrx HM HA hfl hll rc0 rc1 rt0 rt1 hbw
      cases hle2 : leB last X1 with
      | true =>
        rw [hle2] at hls HAN
        have hlz : Op.bytesLess (bs X1).data.toList (bs last).data.toList = false := by rw [bs_data, bs_data]; exact hls
        have hlz2 : Op.bytesLess (bs X1).toList (bs last).toList = false := by rw [bs_list, bs_list]; exact hls
        have HAN2 : Hid (R = chainB X1 (formsS nx)) := Lib.hid (by rw [HAN.out, Bool.true_and])
        clear hle2 hls
        go_upto_region 6 with (go_at_call 79; refine (DC.out _ (Below.refl _ _)).mono ?_; rintro e w5 ⟨rfl, hb5⟩)
        have HB5 := Lib.hid (HB.out.trans (hb5.mono HB.out.size))
        clear hb5 g0 g1 g2 g3 g4
        go_wp2_with fail
        go_roundg nx.len
        case measure => omega
        case rel =>
          refine ⟨kk + 1, nx, X1, by omega, rfl, rfl, by go_num, HAN2.out, ⟨HWN.out.1, HRN.out.2, HWN.out.2⟩, HB5.out, ?_⟩
          rw [show f + 5 * (kk + 1) = f + 5 * kk + 5 by omega]; exact HRN.out.1
      | false =>
        rw [hle2] at hls HAN
        have hlz : Op.bytesLess (bs X1).data.toList (bs last).data.toList = true := by rw [bs_data, bs_data]; exact hls
        have hlz2 : Op.bytesLess (bs X1).toList (bs last).toList = true := by rw [bs_list, bs_list]; exact hls
        have HAN2 : Hid (R = false) := Lib.hid (by rw [HAN.out]; rfl)
        clear hle2 hls
        go_upto_region 6 with (go_at_call 79; refine (DC.out _ (Below.refl _ _)).mono ?_; rintro e w5 ⟨rfl, hb5⟩)
        have HB5 := Lib.hid (HB.out.trans (hb5.mono HB.out.size))
        clear hb5 g0 g1 g2 g3 g4
        go_wp2_with fail
        go_ret
        rw [HAN2.out]
        exact ⟨rfl, HB5.out⟩
end Go.Proofs.YtebhiplcoioenaaGreatDoor
