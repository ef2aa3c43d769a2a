/- Base Words64 Rws Calm Steps, in one text. -/
import Derived.Test.YtjkjlbchbbpmaaaGreatDoorRows
import Derived.WalkKit
import Derived.WalkSpells
import Derived.WalkLawsBesides
import Derived.WalkSmall
import Derived.Lib.Hide
import Derived.Laws.CopyOwn
import Derived.Deep.DeepCutAuto
import Derived.Test.YtjkjlbchbbpmaaaGreatDoorShelf
import Derived.Laws.Tables
import Derived.Laws.ResultCell
import Derived.StillTail
/- Words for slices of numbers in memory: what reads as a row, what is the call's own row. -/
namespace Go.Proofs.YtjkjlbchbbpmaaaGreatDoor
open Go.RowKit

/-- The block and the place of a slice's first cell (any, where there is none). -/
def blk (ao : Option Addr) : Nat := (ao.getD ⟨0, 0, none⟩).block
def off (ao : Option Addr) : Nat := (ao.getD ⟨0, 0, none⟩).off
@[go_sem] theorem blk_some (b o : Nat) : blk (some ⟨b, o, none⟩) = b := rfl
@[go_sem] theorem off_some (b o : Nat) : off (some ⟨b, o, none⟩) = o := rfl

/-- A slice's address has no spot; there is one where there is an element. -/
def Sh (ao : Option Addr) (n : Nat) : Prop := ∃ b o, (ao = some ⟨b, o, none⟩ ∨ (ao = none ∧ n = 0))

theorem Sh.some (b o n : Nat) : Sh (some ⟨b, o, none⟩) n := ⟨b, o, Or.inl rfl⟩
theorem Sh.nil : Sh none 0 := ⟨0, 0, Or.inr ⟨rfl, rfl⟩⟩
theorem Sh.mono {ao : Option Addr} {n m : Nat} (h : Sh ao n) (hm : m ≤ n) : Sh ao m := by
  obtain ⟨b, o, h | ⟨h, h0⟩⟩ := h
  · exact ⟨b, o, Or.inl h⟩
  · exact ⟨b, o, Or.inr ⟨h, by omega⟩⟩

/-- An index into a slice whose address is whatever it is. -/
@[go_sem] theorem run_indexAt_sh {P : Program} {w : World} (t : TypeId) (ao : Option Addr) (len cap : Nat) (k : IntKind) (i : Int) (h : P.underlying t = some (.slice (P.elem t))) (hs : Sh ao len) :
    (Instr.indexAt t (.slice ao len cap) (.int k i)).run P w =
      if 0 ≤ i ∧ i < len then ((sizeOf (P.elem t)).run P w).andThen fun s w => .ok (.pointer (some ⟨blk ao, off ao + i.toNat * s, none⟩)) w
      else (boundsPanic k i len .index).run P w := by
  obtain ⟨b, o, rfl | ⟨rfl, rfl⟩⟩ := hs
  · rw [run_indexAt_slice (h := h)]
    simp [Addr.add_lit, blk_some, off_some]
  · rw [if_neg (by omega)]
    simp [Instr.indexAt, run_underlying h, asIntOf]

/-- The row of n cells at ao reads as f. -/
structure Rd (w : World) (k : IntKind) (ao : Option Addr) (n cap : Nat) (f : Nat → Nat) : Prop where
  sh : Sh ao n
  le : n ≤ cap
  cm : cap ≤ 9223372036854775807
  cell : ∀ j, j < n → w.cell? ⟨blk ao, off ao + j, none⟩ = some (.int k (f j : Nat))

theorem Rd.lt {w : World} {k : IntKind} {ao : Option Addr} {n cap : Nat} {f : Nat → Nat} (h : Rd w k ao n cap f) {j : Nat} (hj : j < n) : blk ao < w.heap.size :=
  World.block_lt_of_cell? w ⟨blk ao, off ao + j, none⟩ (h.cell j hj)

theorem Rd.below {w w' : World} {B : Nat} {k : IntKind} {ao : Option Addr} {n cap : Nat} {f : Nat → Nat} (h : Rd w k ao n cap f) (hb : Below B w w') (hB : w.heap.size ≤ B) : Rd w' k ao n cap f :=
  ⟨h.sh, h.le, h.cm, fun j hj => (hb.cell (p := ⟨blk ao, off ao + j, none⟩) (Nat.lt_of_lt_of_le (h.lt hj) hB)).trans (h.cell j hj)⟩

theorem Rd.take {w : World} {k : IntKind} {ao : Option Addr} {n cap : Nat} {f : Nat → Nat} (h : Rd w k ao n cap f) {m : Nat} (hm : m ≤ n) : Rd w k ao m cap f :=
  ⟨h.sh.mono hm, Nat.le_trans hm h.le, h.cm, fun j hj => h.cell j (Nat.lt_of_lt_of_le hj hm)⟩

theorem Rd.congr {w : World} {k : IntKind} {ao : Option Addr} {n cap : Nat} {f g : Nat → Nat} (h : Rd w k ao n cap f) (he : ∀ j, j < n → f j = g j) : Rd w k ao n cap g :=
  ⟨h.sh, h.le, h.cm, fun j hj => by rw [h.cell j hj, he j hj]⟩

theorem Rd.nil (w : World) (k : IntKind) (f : Nat → Nat) : Rd w k none 0 0 f := ⟨Sh.nil, Nat.le_refl _, by decide, fun j hj => absurd hj (Nat.not_lt_zero j)⟩

/-- Block g is a row of n cells that read as f, and may be written. -/
def Own (w : World) (k : IntKind) (e g n : Nat) (f : Nat → Nat) : Prop :=
  ∃ cur : Array Value, w.heap[g]? = some (.cells cur e (0, 0)) ∧ cur.size = n ∧ n ≤ 9223372036854775807 ∧ ∀ j, j < n → cur[j]? = some (.int k (f j : Nat))

theorem Own.lt {w : World} {k : IntKind} {e g n : Nat} {f : Nat → Nat} (h : Own w k e g n f) : g < w.heap.size := by
  obtain ⟨cur, hh, _⟩ := h
  exact (Array.getElem?_eq_some_iff.1 hh).1

theorem Own.cell {w : World} {k : IntKind} {e g n : Nat} {f : Nat → Nat} (h : Own w k e g n f) (j : Nat) (hj : j < n) : w.cell? ⟨g, j, none⟩ = some (.int k (f j : Nat)) := by
  obtain ⟨cur, hh, _, _, hc⟩ := h
  simp [World.cell?, hh, hc j hj]

theorem Own.frozen {w : World} {k : IntKind} {e g n : Nat} {f : Nat → Nat} (h : Own w k e g n f) (j : Nat) : w.frozen? ⟨g, j, none⟩ = false := by
  obtain ⟨cur, hh, _⟩ := h
  simp [World.frozen?, hh]

theorem Own.set {w : World} {k : IntKind} {e g n : Nat} {f : Nat → Nat} (h : Own w k e g n f) (j : Nat) (x : Nat) : Own (w.setCell ⟨g, j, none⟩ (.int k (x : Nat))) k e g n (fun i => if i = j then x else f i) := by
  obtain ⟨cur, hh, hs, hm, hc⟩ := h
  refine ⟨cur.setIfInBounds j (.int k (x : Nat)), heap_setCell_same w g j cur e _ hh, by simpa using hs, hm, fun i hi => ?_⟩
  by_cases e : j = i
  · subst e
    simp [hs, hi]
  · have e' : ¬ i = j := fun h => e h.symm
    rw [Array.getElem?_setIfInBounds, if_neg e, hc i hi]
    simp [e']

theorem Own.congr {w : World} {k : IntKind} {e g n : Nat} {f f' : Nat → Nat} (h : Own w k e g n f) (he : ∀ j, j < n → f j = f' j) : Own w k e g n f' := by
  obtain ⟨cur, hh, hs, hm, hc⟩ := h
  exact ⟨cur, hh, hs, hm, fun j hj => by rw [hc j hj, he j hj]⟩

theorem Own.block {w w' : World} {k : IntKind} {e g n : Nat} {f : Nat → Nat} (h : Own w k e g n f) (hb : w'.heap[g]? = w.heap[g]?) : Own w' k e g n f := by
  obtain ⟨cur, hh, r⟩ := h
  exact ⟨cur, by rw [hb]; exact hh, r⟩

theorem Own.below {w w' : World} {B : Nat} {k : IntKind} {e g n : Nat} {f : Nat → Nat} (h : Own w k e g n f) (hb : Below B w w') (hB : w.heap.size ≤ B) : Own w' k e g n f :=
  h.block (hb.block g (Nat.lt_of_lt_of_le h.lt hB))

theorem Own.drewN {w : World} {k : IntKind} {e g n : Nat} {f : Nat → Nat} (h : Own w k e g n f) (q : Nat) : Own (w.drewN q) k e g n f := h
theorem Rd.drewN {w : World} {k : IntKind} {ao : Option Addr} {n cap : Nat} {f : Nat → Nat} (h : Rd w k ao n cap f) (q : Nat) : Rd (w.drewN q) k ao n cap f := ⟨h.sh, h.le, h.cm, fun j hj => h.cell j hj⟩

/-- The own row as a slice that reads. -/
theorem Own.rd {w : World} {k : IntKind} {e g n : Nat} {f : Nat → Nat} (h : Own w k e g n f) : Rd w k (some ⟨g, 0, none⟩) n n f :=
  ⟨Sh.some _ _ _, Nat.le_refl _, by obtain ⟨_, _, _, hm, _⟩ := h; exact hm, fun j hj => by have := h.cell j hj; simpa [blk_some, off_some] using this⟩

/-- What 'make([]T, n)' lays is an own row of zeros. -/
theorem Own.made {w w' : World} {k : IntKind} {e n : Nat} (h : w'.ownsRow w.heap.size e 1 (.slice (some ⟨w.heap.size, 0, none⟩) n n) n (madeCells #[.int k 0] (n * 1)).toList) : Own w' k e w.heap.size n (fun _ => 0) := by
  obtain ⟨h1, ⟨h2, _⟩ | ⟨g, cap, cur, hv, hg, hh, hnc, hcm, hcs, ht⟩⟩ := h
  · simp at h2
  · simp only [Value.slice.injEq, Option.some.injEq, Addr.mk.injEq, and_true, true_and] at hv
    obtain ⟨rfl, rfl⟩ := hv
    refine ⟨cur, hh, by omega, by simpa [maxLen] using hcm, fun j hj => ?_⟩
    have hj' : j < n * 1 := by omega
    have e1 : cur.toList[j]? = (madeCells #[.int k 0] (n * 1)).toList[j]? := by
      rw [← ht, List.getElem?_take, if_pos hj']
    rw [← Array.getElem?_toList, e1, toList_madeCells_one, List.getElem?_replicate, if_pos hj']
    rfl

/-- 'make([]T, n)' at a type of integers: an own row of zeros, in a block of its own. -/
theorem wpList_make_row {P : Program} (w : World) {ops : Array Oper} {rest : List Oper} {o : Oper} {a : Act} {Q : Exit → Act → World → Prop}
    (hg : o.guard = none) (l c : Operand) (t : TypeId) (hop : o.op = Op.makeSlice t l c) (e : TypeId) (k : IntKind) (bytes : Nat) (h1 : P.underlying t = some (.slice e))
    (h2 : (P.info? e).map (fun i => (i.zero, i.size, i.bytes)) = some (some (.int k 0), 1, bytes))
    (kl kc : IntKind) (L C : Int) (n : Nat) (hl : a.eval l = .int kl L) (hc : a.eval c = .int kc C) (hL : L = (n : Int)) (hC : C = (n : Int)) (b2 : bytes * n ≤ 281474976710656) (b3 : n ≤ 9223372036854775807)
    (hK : ∀ (g : Nat) (w' : World), w.heap.size ≤ g → Own w' k e g n (fun _ => 0) → Below w.heap.size w w' → wpList P ops Q rest (a.put o.dst (.slice (some ⟨g, 0, none⟩) n n)) w') :
    wpList P ops Q (o :: rest) a w := by
  obtain ⟨i, hi, hz0, hz1, hz2⟩ := info_parts h2
  refine wpList_make_full w hg l c t hop w.heap.size e i (.int k 0) 1 h1 hi hz0 hz1 kl kc L C n hl hc hL hC (by rw [hz2]; exact b2) (by simpa [maxLen] using b3) (Nat.le_refl _) fun w' hown hgr => ?_
  exact hK _ w' (Nat.le_refl _) (Own.made hown) ((Below.refl _ _).grown hgr (Nat.le_refl _) (by simp))

theorem splice_getElem? {α : Type} (L cs : List α) (j : Nat) : (splice L 0 cs)[j]? = if j < cs.length then cs[j]? else L[j]? := by
  unfold splice
  simp only [List.take_zero, List.nil_append, Nat.zero_add, List.getElem?_append, List.getElem?_drop]
  split
  · rfl
  · congr 1; omega

/-- 'copy(out, a)': a row laid over the beginning of an own one. -/
theorem wpList_copy_row {P : Program} (w : World) {ops : Array Oper} {rest : List Oper} {o : Oper} {a : Act} {Q : Exit → Act → World → Prop} (hgd : o.guard = none) (d s : Operand) (dT sT : TypeId)
    (ho : o.op = .call { callee := .builtin .copy, args := #[d, s], argTypes := #[dT, sT] }) (e : TypeId) (hu : P.underlying dT = some (.slice e)) (hsz : (P.info? e).map (·.size) = some 1)
    (k : IntKind) (g n cap : Nat) (f : Nat → Nat) (ao : Option Addr) (m c : Nat) (h : Nat → Nat) (hd : a.eval d = .slice (some ⟨g, 0, none⟩) n cap) (hs : a.eval s = .slice ao m c)
    (hown : Own w k e g n f) (hr : Rd w k ao m c h) (hmn : m ≤ n) (B : Nat) (w0 : World) (hb : Below B w0 w) (hBg : B ≤ g)
    (hK : ∀ w', Own w' k e g n (fun j => if j < m then h j else f j) → Below B w0 w' → wpList P ops Q rest (a.put o.dst (.int .i64 m)) w') :
    wpList P ops Q (o :: rest) a w := by
  obtain ⟨cur, hh, hcs, hm, hc⟩ := hown
  obtain ⟨cs, hcsd⟩ : ∃ cs : List Value, cs = (List.range m).map fun j => Value.int k (h j : Nat) := ⟨_, rfl⟩
  have hlen : cs.length = m := by rw [hcsd]; simp
  have hcj : ∀ j v, cs[j]? = some v → j < m ∧ v = .int k (h j : Nat) := by
    intro j v hv
    rw [hcsd, List.getElem?_map] at hv
    by_cases hj : j < m
    · rw [List.getElem?_range hj] at hv
      exact ⟨hj, by simpa using hv.symm⟩
    · rw [List.getElem?_eq_none (by simpa using hj)] at hv
      simp at hv
  refine wpList_copy_splice hgd d s dT sT ho e hu hsz (some ⟨g, 0, none⟩) ao n cap m c hd hs g 0 cur.toList e (by simpa using hh) cs (by rw [hlen]; exact (Nat.min_eq_left hmn).symm)
    (fun hp => ⟨rfl, ?_⟩) (by simp [hlen, hcs]; omega) (fun v hv => ?_) B w0 hb hBg fun w' hh' hb' => ?_
  · have hp' : 0 < m := by omega
    obtain ⟨b', o', rfl | ⟨_, h0⟩⟩ := hr.sh
    · refine ⟨_, rfl, fun j v hv => ?_⟩
      obtain ⟨hj, rfl⟩ := hcj j v hv
      rw [Addr.add_lit]
      exact hr.cell j hj
    · omega
  · obtain ⟨j, hj⟩ := List.getElem?_of_mem hv
    obtain ⟨_, rfl⟩ := hcj j v hj
    rfl
  · have hget : ∀ j, j < n → (splice cur.toList 0 cs)[j]? = some (.int k ((if j < m then h j else f j : Nat) : Int)) := by
      intro j hj
      rw [splice_getElem?, hlen]
      by_cases hjm : j < m
      · rw [if_pos hjm, if_pos hjm, hcsd, List.getElem?_map, List.getElem?_range hjm]; rfl
      · rw [if_neg hjm, if_neg hjm, Array.getElem?_toList]; exact hc j hj
    rw [hlen]
    refine hK w' ⟨_, hh'.out, ?_, hm, fun j hj => ?_⟩ hb'
    · simp only [List.size_toArray]
      rw [length_splice _ _ _ (by simp [hlen, hcs]; omega)]
      simpa using hcs
    · simpa using hget j hj

/-- Below, in facts that the walk uses. -/
theorem bcell {B : Nat} {W w1 : World} (hb : Below B W w1) : (∀ b o, b < B → w1.cell? ⟨b, o, none⟩ = W.cell? ⟨b, o, none⟩) ∧ (∀ b o, b < B → w1.frozen? ⟨b, o, none⟩ = W.frozen? ⟨b, o, none⟩) :=
  ⟨fun b o h => hb.cell (p := ⟨b, o, none⟩) h, fun b o h => hb.frozen (p := ⟨b, o, none⟩) h⟩

/-- A slice's length: for a loop's measure. -/
def slLen : Value → Nat | .slice _ n _ => n | _ => 0

theorem drawn2 (w : World) (a b : Nat) : ∃ q, (w.drewN a).drewN b = w.drewN q := ⟨a + b, by simp⟩
theorem drawn3 (w : World) (a b c : Nat) : ∃ q, ((w.drewN a).drewN b).drewN c = w.drewN q := ⟨a + b + c, by simp⟩
theorem bne_cast {a b : Nat} (h : ((a : Int) != (b : Int)) = true) : a ≠ b := by
  have : ¬ (a : Int) = b := by simpa using h
  omega
theorem bne_cast_false {a b : Nat} (h : ((a : Int) != (b : Int)) = false) : a = b := by
  have : (a : Int) = b := by simpa using h
  omega
theorem beq_cast {a b : Nat} (h : ((a : Int) == (b : Int)) = true) : a = b := by
  have : (a : Int) = b := by simpa using h
  omega
theorem beq_cast_false {a b : Nat} (h : ((a : Int) == (b : Int)) = false) : a ≠ b := by
  have : ¬ (a : Int) = b := by simpa using h
  omega

theorem ret_bool {a b : Bool} (h : a = b) : Ending.returned (.bool a) = .returned (.bool b) := by rw [h]
theorem beq_one (n : Nat) : ((n : Int) == 1) = decide (n = 1) := by
  by_cases h : n = 1
  · subst h; rfl
  · have : ¬ (n : Int) = 1 := by omega
    simp [h, this]
theorem ret2_int {k l : IntKind} {a b c d : Int} (h1 : a = b) (h2 : c = d) : Ending.returned (.tuple #[.int k a, .int l c]) = .returned (.tuple #[.int k b, .int l d]) := by rw [h1, h2]
theorem ret_slice {ao : Option Addr} {n m c d : Nat} (h : n = m) (h2 : c = d) : Ending.returned (.slice ao n c) = .returned (.slice ao m d) := by rw [h, h2]
theorem ret_int {k : IntKind} {a b : Int} (h : a = b) : Ending.returned (.int k a) = .returned (.int k b) := by rw [h]

end Go.Proofs.YtjkjlbchbbpmaaaGreatDoor
/- Words of 64 bits: sum and difference with a carry, as facts for the walk; numbers of four words. -/
namespace Go.Proofs.YtjkjlbchbbpmaaaGreatDoor
open Go.RowKit


/-- A number of four words. -/
def n4 (a0 a1 a2 a3 : Nat) : Nat := a0 + 18446744073709551616 * a1 + 340282366920938463463374607431768211456 * a2 + 6277101735386680763835789423207666416102355444464034512896 * a3
def nmc4 (a0 a1 a2 a3 : Nat) : Array Value := #[.int .u64 (a0 : Int), .int .u64 (a1 : Int), .int .u64 (a2 : Int), .int .u64 (a3 : Int)]
/-- The cells of a number below 2^256 as the program holds it. -/
def nmc (v : Nat) : Array Value := nmc4 (v % 18446744073709551616) (v / 18446744073709551616 % 18446744073709551616) (v / 340282366920938463463374607431768211456 % 18446744073709551616) (v / 6277101735386680763835789423207666416102355444464034512896)
def nm4 (a0 a1 a2 a3 : Nat) : Value := .agg (nmc4 a0 a1 a2 a3)
def nm (v : Nat) : Value := .agg (nmc v)

theorem nm_n4 {a0 a1 a2 a3 v : Nat} (h0 : a0 < 18446744073709551616) (h1 : a1 < 18446744073709551616) (h2 : a2 < 18446744073709551616) (hv : v = n4 a0 a1 a2 a3) : nm v = nm4 a0 a1 a2 a3 := by
  subst hv
  unfold nm nmc nm4 n4
  have e0 : (a0 + 18446744073709551616 * a1 + 340282366920938463463374607431768211456 * a2 + 6277101735386680763835789423207666416102355444464034512896 * a3) % 18446744073709551616 = a0 := by omega
  have e1 : (a0 + 18446744073709551616 * a1 + 340282366920938463463374607431768211456 * a2 + 6277101735386680763835789423207666416102355444464034512896 * a3) / 18446744073709551616 % 18446744073709551616 = a1 := by omega
  have e2 : (a0 + 18446744073709551616 * a1 + 340282366920938463463374607431768211456 * a2 + 6277101735386680763835789423207666416102355444464034512896 * a3) / 340282366920938463463374607431768211456 % 18446744073709551616 = a2 := by omega
  have e3 : (a0 + 18446744073709551616 * a1 + 340282366920938463463374607431768211456 * a2 + 6277101735386680763835789423207666416102355444464034512896 * a3) / 6277101735386680763835789423207666416102355444464034512896 = a3 := by omega
  rw [e0, e1, e2, e3]

/-- The words of a number. -/
theorem nm_words (v : Nat) (hv : v < 115792089237316195423570985008687907853269984665640564039457584007913129639936) : ∃ a0 a1 a2 a3, nm v = nm4 a0 a1 a2 a3 ∧ v = n4 a0 a1 a2 a3 ∧ a0 < 18446744073709551616 ∧ a1 < 18446744073709551616 ∧ a2 < 18446744073709551616 ∧ a3 < 18446744073709551616 := by
  refine ⟨_, _, _, _, rfl, ?_, ?_, ?_, ?_, ?_⟩ <;> (try unfold n4) <;> omega

/-- A number as a row of four words, whichever. -/
theorem nm_agg (v : Nat) : ∃ a0 a1 a2 a3 : Int, nmc v = #[.int .u64 a0, .int .u64 a1, .int .u64 a2, .int .u64 a3] := ⟨_, _, _, _, rfl⟩

theorem row_facts {w : World} {g : Nat} {cs : Array Value} {t : TypeId} (h : w.heap[g]? = some (.cells cs t (0, 0))) : (∀ j, w.cell? ⟨g, j, none⟩ = cs[j]?) ∧ (∀ j, w.frozen? ⟨g, j, none⟩ = false) :=
  ⟨fun j => cell_of_row w g j cs t _ h, fun j => frozen_of_row w g j cs t h⟩
end Go.Proofs.YtjkjlbchbbpmaaaGreatDoor
/- Whole structs and arrays in variables of the call's own: laws that keep the world a variable. -/
namespace Go.Proofs.YtjkjlbchbbpmaaaGreatDoor
open Go.RowKit

/-- The call began in w0, with B blocks; the rows of L lie in blocks of its own. -/
structure Rws (B : Nat) (w0 w : World) (L : List (Nat × Array Value × TypeId)) : Prop where
  below : Below B w0 w
  len : B ≤ w.heap.size
  row : ∀ x, x ∈ L → B ≤ x.1 ∧ w.heap[x.1]? = some (.cells x.2.1 x.2.2 (0, 0))
  nd : L.Pairwise fun x y => x.1 ≠ y.1

/-- x is one of L; the others are L'. -/
inductive Pick {α : Type} : List α → α → List α → Prop
  | here {x : α} {l : List α} : Pick (x :: l) x l
  | there {x y : α} {l l' : List α} (h : Pick l x l') : Pick (y :: l) x (y :: l')

theorem Pick.mem {α : Type} {l l' : List α} {x : α} (h : Pick l x l') : x ∈ l := by
  induction h with
  | here => exact List.mem_cons_self
  | there _ ih => exact List.mem_cons_of_mem _ ih

theorem Pick.sub {α : Type} {l l' : List α} {x : α} (h : Pick l x l') : l'.Sublist l := by
  induction h with
  | here => exact List.sublist_cons_self _ _
  | there _ ih => exact ih.cons_cons _

section
variable {B : Nat} {w0 w w' : World} {L : List (Nat × Array Value × TypeId)}

theorem Pick.ne {L' : List (Nat × Array Value × TypeId)} {x : Nat × Array Value × TypeId} (h : Pick L x L') (hp : L.Pairwise fun x y => x.1 ≠ y.1) : ∀ y, y ∈ L' → y.1 ≠ x.1 := by
  induction h with
  | here => exact fun y hy e => (List.pairwise_cons.1 hp).1 y hy e.symm
  | there hpk ih =>
    intro y hy
    rcases List.mem_cons.1 hy with rfl | hy
    · exact (List.pairwise_cons.1 hp).1 _ hpk.mem
    · exact ih (List.pairwise_cons.1 hp).2 y hy

theorem Rws.start (w : World) : Rws w.heap.size w w [] := ⟨Below.refl _ _, Nat.le_refl _, fun _ h => absurd h List.not_mem_nil, List.Pairwise.nil⟩

theorem Rws.lt (h : Rws B w0 w L) {x : Nat × Array Value × TypeId} (hx : x ∈ L) : x.1 < w.heap.size := (Array.getElem?_eq_some_iff.1 (h.row x hx).2).1

/-- Behind a call. -/
theorem Rws.call (h : Rws B w0 w L) (hb : Below w.heap.size w w') : Rws B w0 w' L :=
  ⟨h.below.trans (hb.mono h.len), Nat.le_trans h.len hb.size, fun x hx => ⟨(h.row x hx).1, (hb.block _ (h.lt hx)).trans (h.row x hx).2⟩, h.nd⟩

theorem Rws.drew (h : Rws B w0 w L) : Rws B w0 w.drew L := ⟨h.below.drew, h.len, h.row, h.nd⟩

/-- One row more is known. -/
theorem Rws.add (h : Rws B w0 w L) {g : Nat} {cs : Array Value} {t : TypeId} (hB : B ≤ g) (hg : w.heap[g]? = some (.cells cs t (0, 0))) (hn : ∀ x, x ∈ L → x.1 ≠ g) : Rws B w0 w ((g, cs, t) :: L) :=
  ⟨h.below, h.len, fun x hx => by
    rcases List.mem_cons.1 hx with rfl | hx
    · exact ⟨hB, hg⟩
    · exact h.row x hx, List.pairwise_cons.2 ⟨fun x hx e => hn x hx e.symm, h.nd⟩⟩

theorem Rws.alloc0 (h : Rws B w0 w L) (o : Obj) : Rws B w0 (w.alloc o) L :=
  ⟨h.below.alloc h.len _, by simp; have := h.len; omega, fun x hx => ⟨(h.row x hx).1, (Below.heap_alloc w _ _ (h.lt hx)).trans (h.row x hx).2⟩, h.nd⟩

theorem Rws.alloc (h : Rws B w0 w L) (cs : Array Value) (t : TypeId) : Rws B w0 (w.alloc (.cells cs t)) ((w.heap.size, cs, t) :: L) :=
  (h.alloc0 _).add h.len (heap_alloc_new _ _) fun _ hx => Nat.ne_of_lt (h.lt hx)

theorem Rws.alloc' (h : Rws B w0 w L) {g : Nat} (hg : w.heap.size = g) (cs : Array Value) (t : TypeId) : Rws B w0 (w.alloc (.cells cs t)) ((g, cs, t) :: L) := by
  subst hg; exact h.alloc cs t

theorem Rws.sub (h : Rws B w0 w L) {L' : List (Nat × Array Value × TypeId)} (hs : L'.Sublist L) : Rws B w0 w L' := ⟨h.below, h.len, fun x hx => h.row x (hs.subset hx), h.nd.sublist hs⟩

theorem Rws.set (h : Rws B w0 w L) {g : Nat} {cs : Array Value} {t : TypeId} {L' : List (Nat × Array Value × TypeId)} (hm : Pick L (g, cs, t) L') (cs' : Array Value) :
    Rws B w0 (w.setRow g cs') ((g, cs', t) :: L') := by
  have hg := (h.row _ hm.mem).2
  have hB := (h.row _ hm.mem).1
  have hne := hm.ne h.nd
  simp only at hg hB hne
  refine Rws.add ⟨?_, by rw [size_setRow]; exact h.len, fun x hx => ?_, h.nd.sublist hm.sub⟩ hB ?_ hne
  · refine h.below.trans ⟨rfl, rfl, rfl, by rw [size_setRow]; exact Nat.le_refl _, fun k hk => ?_⟩
    simp only [World.setRow, Array.getElem?_modify]
    rw [if_neg (by omega)]
  · refine ⟨(h.row x (hm.sub.subset hx)).1, ?_⟩
    simp only [World.setRow, Array.getElem?_modify]
    rw [if_neg (fun e => hne x hx e.symm)]
    exact (h.row x (hm.sub.subset hx)).2
  · simp only [World.setRow, Array.getElem?_modify]
    rw [hg]
    rfl

variable {P : Program} {o : Oper} {a : Act} {Q : Exit → Act → World → Prop} {ops : Array Oper} {rest : List Oper}

/-- A struct or an array out of its variable. -/
theorem wpList_load_rws (hgd : o.guard = none) (ty : TypeId) (x : Operand) (ho : o.op = .load ty x) (h : Rws B w0 w L) (g : Nat) (hx : a.eval x = .pointer (some ⟨g, 0, none⟩))
    (cs : Array Value) (t : TypeId) (hm : (g, cs, t) ∈ L) (d : TypeDesc) (hu : P.underlying ty = some d) (hd : (match d with | .struct _ | .array _ _ => true | _ => false) = true) (hi : (P.info? ty).map (·.size) = some cs.size)
    (hK : wpList P ops Q rest (a.put o.dst (.agg cs)) w) : wpList P ops Q (o :: rest) a w :=
  wpList_load_row hgd ty x ho g hx t cs (0, 0) d (h.row _ hm).2 hu hd hi hK

/-- A struct or an array into its variable. -/
theorem wpList_store_rws (hgd : o.guard = none) (ty : TypeId) (x y : Operand) (ho : o.op = .store ty x y) (h : Rws B w0 w L) (g : Nat) (hx : a.eval x = .pointer (some ⟨g, 0, none⟩))
    (new : Array Value) (hy : a.eval y = .agg new) (cs : Array Value) (t : TypeId) (L' : List (Nat × Array Value × TypeId)) (hm : Pick L (g, cs, t) L')
    (hi : (P.info? ty).map (·.size) = some new.size) (hc : cs.size = new.size) (h1 : new.all (·.oneCell') = true) 
    (hK : ∀ w', Rws B w0 w' ((g, new, t) :: L') → wpList P ops Q rest (a.put o.dst undef) w') : wpList P ops Q (o :: rest) a w := by
  refine wpList_plain hgd fun K hKK => ?_
  unfold Oper.wp execOp
  simp only [ho, hx, hy, Instr.storeAt, Instr.sureAddr, Sem.run_bind, Sem.run_pure, Result.andThen_ok, run_storeVar_row w g t ty cs new (h.row _ hm.mem).2 hi hc h1]
  exact hKK _ _ (hK _ (h.set hm new))

/-- A variable of its own is made, with a value in it. -/
theorem wpList_box_rws (hgd : o.guard = none) (ty : TypeId) (x : Operand) (ho : o.op = .box ty x) (h : Rws B w0 w L) (cs : Array Value) (hx : a.eval x = .agg cs)
    (hK : ∀ g w', Rws B w0 w' ((g, cs, ty) :: L) → wpList P ops Q rest (a.put o.dst (.pointer (some ⟨g, 0, none⟩))) w') : wpList P ops Q (o :: rest) a w := by
  refine wpList_plain hgd fun K hKK => ?_
  unfold Oper.wp execOp
  simp only [ho, hx]
  exact hKK _ _ (hK _ _ (h.alloc cs ty))

/-- A variable of its own is made, with its type's zero in it. -/
theorem wpList_alloc_rws (hgd : o.guard = none) (ty : TypeId) (ho : o.op = .alloc ty) (h : Rws B w0 w L) (cs : Array Value) (hz : ∀ w : World, (zeroValue ty).run P w = .ok (.agg cs) w)
    (hK : ∀ g w', Rws B w0 w' ((g, cs, ty) :: L) → wpList P ops Q rest (a.put o.dst (.pointer (some ⟨g, 0, none⟩))) w') : wpList P ops Q (o :: rest) a w := by
  refine wpList_plain hgd fun K hKK => ?_
  unfold Oper.wp execOp
  simp only [ho, Instr.alloc, Sem.run_bind, hz, Result.andThen_ok]
  exact hKK _ _ (hK _ _ (h.alloc cs ty))

/-- A call's end whose result is a struct or an array in a variable. -/
theorem bodyPost_rws {fn : Func} {R : Ending → World → Prop} {p : Tmp} {ty : TypeId} (hf : fn.results = #[.cell p ty]) (h : Rws B w0 w L) (g : Nat) (hp : a.tmps.getD p undef = .pointer (some ⟨g, 0, none⟩))
    (cs : Array Value) (t : TypeId) (hm : (g, cs, t) ∈ L) (d : TypeDesc) (hu : P.underlying ty = some d) (hd : (match d with | .struct _ | .array _ _ => true | _ => false) = true) (hi : (P.info? ty).map (·.size) = some cs.size)
    (hdef : a.defers = []) (hR : Below B w0 w → R (.returned (.agg cs)) w) : bodyPost P fn R .ret a w :=
  bodyPost_ret (results_cell_row hf a.tmps w g t cs (0, 0) d hp (h.row _ hm).2 hu hd hi) hdef (hR h.below)

/-- A call's end with a struct or an array in a variable, and another result. -/
theorem bodyPost_rws2 {fn : Func} {R : Ending → World → Prop} {p u : Tmp} {ty : TypeId} (hf : fn.results = #[.cell p ty, .tmp u]) (h : Rws B w0 w L) (g : Nat) (hp : a.tmps.getD p undef = .pointer (some ⟨g, 0, none⟩))
    (cs : Array Value) (t : TypeId) (hm : (g, cs, t) ∈ L) (d : TypeDesc) (hu : P.underlying ty = some d) (hd : (match d with | .struct _ | .array _ _ => true | _ => false) = true) (hi : (P.info? ty).map (·.size) = some cs.size)
    (v : Value) (hv : a.tmps.getD u undef = v) (hdef : a.defers = []) (hR : Below B w0 w → R (.returned (.tuple #[.agg cs, v])) w) : bodyPost P fn R .ret a w := by
  refine bodyPost_ret (v := .tuple #[.agg cs, v]) ?_ hdef (hR h.below)
  rw [results_cell_tmp hf, hp, hv]
  simp [asAddr, Result.andThen, run_loadVar_row w g t ty cs (0, 0) d (h.row _ hm).2 hu hd hi]

/-- One cell of a row is written. -/
theorem Rws.setc {g : Nat} {cs : Array Value} {t : TypeId} (h : Rws B w0 w ((g, cs, t) :: L)) (j : Nat) (v : Value) : Rws B w0 (w.setCell ⟨g, j, none⟩ v) ((g, cs.setIfInBounds j v, t) :: L) := by
  have h0 := h.row _ (List.Mem.head _)
  have hn := List.pairwise_cons.1 h.nd
  simp only at h0 hn
  have h1 : Rws B w0 w L := h.sub (List.sublist_cons_self _ _)
  refine Rws.add ⟨h1.below.setCell h0.1 v, by rw [World.size_setCell]; exact h1.len, fun x hx => ⟨(h1.row x hx).1, (heap_setCell_other w ⟨g, j, none⟩ x.1 v (fun e => hn.1 x hx e.symm)).trans (h1.row x hx).2⟩, h1.nd⟩ h0.1 (heap_setCell_same w g j cs t v h0.2) (fun x hx e => hn.1 x hx e.symm)
end
end Go.Proofs.YtjkjlbchbbpmaaaGreatDoor
/- A region that draws its order, in which calls lay new blocks only and variables of the call's own are made: one walk in the order of the text serves every order. -/
namespace Go.Proofs.YtjkjlbchbbpmaaaGreatDoor
open Go.RowKit
section
variable {P : Program} {B : Nat} {w0 : World} {L : List (Nat × Array Value × TypeId)} {l : List Oper} {n : Nat}

def isAl : Op → Bool
  | .alloc _ => true
  | _ => false

def isSt : Op → Bool
  | .store .. => true
  | _ => false

/-- The one variable that may be written in the midst of the region, what it held and what it will hold. -/
structure StRow where
  g : Nat
  old : Array Value
  new : Array Value
  t : TypeId

variable {S : StRow}

/-- The operation that writes it. -/
def StOk (P : Program) (S : StRow) (o : Oper) (a : Act) : Prop :=
  ∃ x y, o.op = .store S.t x y ∧ a.eval x = .pointer (some ⟨S.g, 0, none⟩) ∧ a.eval y = .agg S.new ∧ (P.info? S.t).map (·.size) = some S.new.size ∧ S.old.size = S.new.size ∧ S.new.all (·.oneCell') = true

/-- It yields v, in the world that it got; or it is a call that answers v and lays new blocks only. -/
def calmUpon (P : Program) (w : World) (v : Value) : Result Next → Prop
  | .ok (.value u) w' => w' = w ∧ u = v
  | .ok (.enter f args) w' => w' = w ∧ Calls P f args w fun e w'' => e = .returned v ∧ Below w.heap.size w w''
  | _ => False

def Calm (P : Program) (B : Nat) (w0 : World) (L : List (Nat × Array Value × TypeId)) (o : Oper) (a : Act) (v : Value) : Prop :=
  ∀ w, Rws B w0 w L → calmUpon P w v ((execOp a.eval o).run P w)

/-- The walk in the order of the text, of the first n operations. -/
def lexC (P : Program) (B : Nat) (w0 : World) (L : List (Nat × Array Value × TypeId)) (S : StRow) (ops : Array Oper) (Q : Act → Prop) : Nat → List Oper → Act → Prop
  | 0, _, a => Q a
  | _ + 1, [], a => Q a
  | n + 1, o :: l, a => ∃ v, (Region.wanted o (yielded ops a.tmps) = true → isAl o.op = false → isSt o.op = false → Calm P B w0 L o a v) ∧ (Region.wanted o (yielded ops a.tmps) = false → v = undef) ∧ (isSt o.op = true → StOk P S o a ∧ v = undef) ∧ lexC P B w0 L S ops Q n l (a.put o.dst v)

/-- The variables that were made. -/
def afterAl (P : Program) (B : Nat) (w0 : World) (K : Act → World → Prop) : List Oper → List (Nat × Array Value × TypeId) → Act → Prop
  | [], L, a => ∀ w', Rws B w0 w' L → K a w'
  | o :: os, L, a => match o.op with
    | .alloc t => ∃ z, (∀ w : World, (zeroValue t).run P w = .ok z w) ∧ ∀ g, afterAl P B w0 K os ((g, z.cells, t) :: L) (a.put o.dst (.pointer (some ⟨g, 0, none⟩)))
    | _ => afterAl P B w0 K os L a

def guardB (l : List Oper) (i : Nat) (o : Oper) : Bool :=
  match o.guard with
  | none => true
  | some (g, _) => !isAl o.op && !isSt o.op && decide (g < i) && Region.waitsFor .any l.toArray i g && (match l[g]? with | some p => !isAl p.op | none => false)

def okAt (l : List Oper) (n i : Nat) : Bool :=
  match l[i]? with
  | none => false
  | some o => guardB l i o && o.after.all (fun e => !Region.binds .any e || decide (e.on < i)) &&
    (List.range n).all fun j => match l[j]? with
      | none => false
      | some p => (i == j || o.dst.isNone || o.dst != p.dst) && (i == j || !(isSt o.op && isSt p.op)) &&
        o.op.operands.all fun x => match x with
          | .tmp t => p.dst != some t || (decide (j < i) && Region.waitsFor .any l.toArray i j && !isAl p.op)
          | _ => true

def sideB (n : Nat) (l : List Oper) : Bool :=
  Region.noSelect l.toArray && decide (n < l.length) && Region.sinkB .any l.toArray n && Region.chainB .any l.toArray n && (List.range n).all (okAt l n) &&
    Region.seqB .any l.toArray (l.length - n) n ((List.replicate n true ++ List.replicate (l.length - n) false).toArray)

structure Ok (l : List Oper) (n i : Nat) (o : Oper) : Prop where
  guard : ∀ g b, o.guard = some (g, b) → isAl o.op = false ∧ isSt o.op = false ∧ g < i ∧ Region.waitsFor .any l.toArray i g = true ∧ ∃ p, l[g]? = some p ∧ isAl p.op = false
  back : ∀ e, e ∈ o.after → Region.binds .any e = true → e.on < i
  dst : ∀ j p, j < n → l[j]? = some p → j ≠ i → ∀ d, o.dst = some d → p.dst ≠ some d
  one : ∀ j p, j < n → l[j]? = some p → j ≠ i → isSt o.op = true → isSt p.op = true → False
  use : ∀ j p t, j < n → l[j]? = some p → Operand.tmp t ∈ o.op.operands → p.dst = some t → j < i ∧ Region.waitsFor .any l.toArray i j = true ∧ isAl p.op = false

theorem okAt_spec {i : Nat} {o : Oper} (hi : l[i]? = some o) (h : okAt l n i = true) : Ok l n i o := by
  unfold okAt at h
  rw [hi] at h
  simp only [Bool.and_eq_true] at h
  obtain ⟨⟨hg, ha⟩, hr⟩ := h
  have key : ∀ j p, j < n → l[j]? = some p → ((i == j || o.dst.isNone || o.dst != p.dst) = true ∧ (i == j || !(isSt o.op && isSt p.op)) = true) ∧ (o.op.operands.all fun x => match x with
          | .tmp t => p.dst != some t || (decide (j < i) && Region.waitsFor .any l.toArray i j && !isAl p.op)
          | _ => true) = true := by
    intro j p hj hp
    have h1 := List.all_eq_true.1 hr j (List.mem_range.2 hj)
    rw [hp] at h1
    simpa only [Bool.and_eq_true] using h1
  refine ⟨?_, ?_, ?_, ?_, ?_⟩
  · intro g b hgd
    unfold guardB at hg
    rw [hgd] at hg
    simp only [Bool.and_eq_true, decide_eq_true_eq, Bool.not_eq_true'] at hg
    obtain ⟨⟨⟨⟨h1, h1'⟩, h2⟩, h3⟩, h4⟩ := hg
    cases hp : l[g]? with
    | none => rw [hp] at h4; cases h4
    | some p => rw [hp] at h4; exact ⟨h1, h1', h2, h3, p, rfl, by simpa using h4⟩
  · intro e he hb
    have h1 := Array.all_eq_true_iff_forall_mem.1 ha e he
    rw [hb] at h1
    simpa using h1
  · intro j p hj hp hji d hd hpd
    have h1 := (key j p hj hp).1.1
    rw [hd, hpd] at h1
    simp only [Option.isNone_some, Bool.or_false, beq_iff_eq, bne_self_eq_false] at h1
    exact hji h1.symm
  · intro j p hj hp hji h1 h2
    have h3 := (key j p hj hp).1.2
    rw [h1, h2] at h3
    simp only [Bool.and_self, Bool.not_true, Bool.or_false, beq_iff_eq] at h3
    exact hji h3.symm
  · intro j p t hj hp hx ht
    have h1 := Array.all_eq_true_iff_forall_mem.1 (key j p hj hp).2 _ hx
    simp only [ht, bne_self_eq_false, Bool.false_or, Bool.and_eq_true, decide_eq_true_eq, Bool.not_eq_true'] at h1
    exact ⟨h1.1.1, h1.1.2, h1.2⟩

/-- What the walk in the order of the text tells. -/
theorem lexC_spec {ops : Array Oper} {Q : Act → Prop} : ∀ (n : Nat) (l : List Oper) (a0 : Act), n ≤ l.length → lexC P B w0 L S ops Q n l a0 →
    ∃ (V : Nat → Value) (A : Nat → Act), A 0 = a0 ∧ Q (A n) ∧ ∀ i o, i < n → l[i]? = some o → A (i + 1) = (A i).put o.dst (V i) ∧ (Region.wanted o (yielded ops (A i).tmps) = true → isAl o.op = false → isSt o.op = false → Calm P B w0 L o (A i) (V i)) ∧ (Region.wanted o (yielded ops (A i).tmps) = false → V i = undef) ∧ (isSt o.op = true → StOk P S o (A i) ∧ V i = undef)
  | 0, _, a0, _, h => ⟨fun _ => undef, fun _ => a0, rfl, h, fun i _ hi _ => absurd hi (Nat.not_lt_zero i)⟩
  | _ + 1, [], _, hn, _ => absurd hn (Nat.not_succ_le_zero _)
  | n + 1, o :: l, a0, hn, h => by
    obtain ⟨v, hv, hu, hst, h⟩ := h
    obtain ⟨V, A, h0, hQ, hs⟩ := lexC_spec n l _ (Nat.le_of_succ_le_succ hn) h
    refine ⟨fun | 0 => v | i + 1 => V i, fun | 0 => a0 | i + 1 => A i, rfl, hQ, fun i p hi hp => ?_⟩
    cases i with
    | zero =>
      have e : o = p := Option.some.inj (by simpa using hp)
      subst e
      exact ⟨h0, hv, hu, hst⟩
    | succ i => exact hs i p (by omega) (by simpa using hp)

theorem put_tmps (a : Act) (d : Option Tmp) (v : Value) (t : Nat) : (a.put d v).tmps[t]? = if d = some t then (if t < a.tmps.size then some v else none) else a.tmps[t]? := by
  cases d with
  | none => simp [Act.put]
  | some d =>
    simp only [Act.put, Option.some.injEq]
    rw [Array.getElem?_setIfInBounds]
    by_cases h : d = t
    · subst h; simp
    · simp [h]

theorem put_size (a : Act) (d : Option Tmp) (v : Value) : (a.put d v).tmps.size = a.tmps.size := by
  cases d with
  | none => rfl
  | some d => simp [Act.put]

theorem put_defers (a : Act) (d : Option Tmp) (v : Value) : (a.put d v).defers = a.defers := by cases d <;> rfl

theorem act_ext {a b : Act} (h1 : a.defers = b.defers) (h2 : ∀ t : Nat, a.tmps[t]? = b.tmps[t]?) : a = b := by
  obtain ⟨x, y⟩ := a
  obtain ⟨x', y'⟩ := b
  simp only at h1 h2
  rw [h1, Array.ext_getElem? h2]

/-- The slots along the walk. -/
theorem lexA_tmps {V : Nat → Value} {A : Nat → Act} (hs : ∀ i o, i < n → l[i]? = some o → A (i + 1) = (A i).put o.dst (V i)) (hn : n ≤ l.length) (hok : ∀ i o, i < n → l[i]? = some o → Ok l n i o) :
    ∀ k, k ≤ n → (A k).tmps.size = (A 0).tmps.size ∧ (A k).defers = (A 0).defers ∧
      (∀ t, (∀ i o, i < k → l[i]? = some o → o.dst ≠ some t) → (A k).tmps[t]? = (A 0).tmps[t]?) ∧
      (∀ i o t, i < k → l[i]? = some o → o.dst = some t → t < (A 0).tmps.size → (A k).tmps[t]? = some (V i)) := by
  intro k
  induction k with
  | zero => intro _; exact ⟨rfl, rfl, fun _ _ => rfl, fun i _ _ hi => absurd hi (Nat.not_lt_zero i)⟩
  | succ k ih =>
    intro hk
    obtain ⟨h1, h2, h3, h4⟩ := ih (by omega)
    obtain ⟨o, ho⟩ : ∃ o, l[k]? = some o := ⟨l[k], List.getElem?_eq_getElem (by omega)⟩
    rw [hs k o (by omega) ho]
    refine ⟨by rw [put_size, h1], by rw [put_defers, h2], fun t ht => ?_, fun i p t hi hp hd hl => ?_⟩
    · rw [put_tmps, if_neg (ht k o (by omega) ho)]
      exact h3 t fun i p hi hp => ht i p (by omega) hp
    · rw [put_tmps]
      by_cases hik : i = k
      · subst hik
        have e : o = p := Option.some.inj (ho.symm.trans hp)
        subst e
        rw [if_pos hd, if_pos (by rw [h1]; exact hl)]
      · rw [if_neg (fun hd' => (hok k o (by omega) ho).dst i p (by omega) hp hik t hd' hd)]
        exact h4 i p t (by omega) hp hd hl

/-- How many of the first n hold. -/
def cntB (p : Nat → Bool) : Nat → Nat
  | 0 => 0
  | n + 1 => cntB p n + (bif p n then 1 else 0)

theorem cntB_same {p q : Nat → Bool} : ∀ n, (∀ j, j < n → q j = p j) → cntB q n = cntB p n
  | 0, _ => rfl
  | n + 1, h => by simp only [cntB]; rw [cntB_same n (fun j hj => h j (by omega)), h n (by omega)]

theorem cntB_set {p q : Nat → Bool} {i : Nat} (hp : p i = true) (hq : q i = false) (hs : ∀ j, j ≠ i → q j = p j) : ∀ n, i < n → cntB q n + 1 = cntB p n
  | 0, h => absurd h (Nat.not_lt_zero i)
  | n + 1, h => by
    simp only [cntB]
    by_cases e : i = n
    · subst e
      rw [cntB_same i (fun j hj => hs j (by omega)), hp, hq]
      rfl
    · rw [hs n (fun e' => e e'.symm), ← cntB_set hp hq hs n (by omega)]
      omega

theorem cntB_zero {p : Nat → Bool} : ∀ n, cntB p n = 0 → ∀ i, i < n → p i = false
  | 0, _, i, hi => absurd hi (Nat.not_lt_zero i)
  | n + 1, h, i, hi => by
    simp only [cntB] at h
    have h2 : (bif p n then 1 else 0) = 0 := by omega
    by_cases e : i = n
    · subst e
      cases hp : p i
      · rfl
      · rw [hp] at h2; exact absurd h2 (by decide)
    · exact cntB_zero n (by omega) i (by omega)

def Stored (l : List Oper) (n : Nat) (listed : Array Bool) : Prop := ∃ i o, i < n ∧ l[i]? = some o ∧ isSt o.op = true ∧ listed.getD i false = true

/-- What stands in the midst of the region, whichever order was taken. -/
structure Sim (B : Nat) (w0 : World) (L : List (Nat × Array Value × TypeId)) (S : StRow) (l : List Oper) (n : Nat) (V : Nat → Value) (a0 : Act) (Z : TypeId → Array Value) (γ : Nat → Nat) (listed : Array Bool) (a : Act) (w : World) : Prop where
  size : a.tmps.size = a0.tmps.size
  defers : a.defers = a0.defers
  keep : ∀ t, (∀ i o, i < n → l[i]? = some o → o.dst ≠ some t) → a.tmps[t]? = a0.tmps[t]?
  val : ∀ i o t, i < n → l[i]? = some o → listed.getD i false = true → isAl o.op = false → o.dst = some t → t < a0.tmps.size → a.tmps[t]? = some (V i)
  ptr : ∀ i o t, i < n → l[i]? = some o → listed.getD i false = true → isAl o.op = true → o.dst = some t → t < a0.tmps.size → a.tmps[t]? = some (.pointer (some ⟨γ i, 0, none⟩))
  rws : Rws B w0 w L
  row : ∀ i o t, i < n → l[i]? = some o → listed.getD i false = true → o.op = .alloc t → B ≤ γ i ∧ w.heap[γ i]? = some (.cells (Z t) t (0, 0)) ∧ ∀ x, x ∈ L → x.1 ≠ γ i
  inj : ∀ i j o p, i < n → j < n → l[i]? = some o → l[j]? = some p → isAl o.op = true → isAl p.op = true → listed.getD i false = true → listed.getD j false = true → γ i = γ j → i = j
  srow : (∃ i o, i < n ∧ l[i]? = some o ∧ isSt o.op = true) → B ≤ S.g ∧ S.g < w.heap.size ∧ (Stored l n listed → w.heap[S.g]? = some (.cells S.new S.t (0, 0))) ∧ (¬ Stored l n listed → w.heap[S.g]? = some (.cells S.old S.t (0, 0))) ∧ (∀ x, x ∈ L → x.1 ≠ S.g) ∧ ∀ i o, i < n → l[i]? = some o → listed.getD i false = true → isAl o.op = true → γ i ≠ S.g

theorem isAl_spec {o : Op} (h : isAl o = true) : ∃ t, o = .alloc t := by
  cases o <;> simp [isAl] at h
  exact ⟨_, rfl⟩

theorem stored_set {listed : Array Bool} {i : Nat} {o : Oper} (ho : l[i]? = some o) (h : isSt o.op = false) : Stored l n (listed.setIfInBounds i true) ↔ Stored l n listed := by
  have key : ∀ j p, l[j]? = some p → isSt p.op = true → i ≠ j := fun j p hp hs e => by
    subst e
    have e2 : o = p := Option.some.inj (ho.symm.trans hp)
    subst e2
    rw [h] at hs; cases hs
  constructor
  · rintro ⟨j, p, hj, hp, hs, hl⟩
    exact ⟨j, p, hj, hp, hs, by rwa [getD_set_ne false (key j p hp hs)] at hl⟩
  · rintro ⟨j, p, hj, hp, hs, hl⟩
    exact ⟨j, p, hj, hp, hs, by rwa [getD_set_ne false (key j p hp hs)]⟩

/-- Behind an operation that yields its value and leaves what was there. -/
theorem Sim.next {V : Nat → Value} {a0 : Act} {Z : TypeId → Array Value} {γ : Nat → Nat} {listed : Array Bool} {a : Act} {w w' : World} (h : Sim B w0 L S l n V a0 Z γ listed a w) {i : Nat} {o : Oper} (hi : i < n) (ho : l[i]? = some o)
    (hok : Ok l n i o) (hal : isAl o.op = false) (hst : isSt o.op = false) (hb : Below w.heap.size w w') : Sim B w0 L S l n V a0 Z γ (listed.setIfInBounds i true) (a.put o.dst (V i)) w' := by
  have hother : ∀ j p t, j < n → l[j]? = some p → j ≠ i → p.dst = some t → (a.put o.dst (V i)).tmps[t]? = a.tmps[t]? := fun j p t hj hp hji hd => by
    rw [put_tmps, if_neg (fun hd' => hok.dst j p hj hp hji t hd' hd)]
  refine ⟨by rw [put_size, h.size], by rw [put_defers, h.defers], fun t ht => ?_, fun j p t hj hp hl hpa hd ht => ?_, fun j p t hj hp hl hpa hd ht => ?_, h.rws.call hb, fun j p t hj hp hl hpa => ?_, fun j k p q hj hk hp hq hpa hqa hl hl' => ?_, fun hex => ?_⟩
  · rw [put_tmps, if_neg (ht i o hi ho)]
    exact h.keep t ht
  · by_cases e : j = i
    · subst e
      have e2 : o = p := Option.some.inj (ho.symm.trans hp)
      subst e2
      rw [put_tmps, if_pos hd, if_pos (by rw [h.size]; exact ht)]
    · rw [hother j p t hj hp e hd]
      exact h.val j p t hj hp (by rwa [getD_set_ne false (fun e' => e e'.symm)] at hl) hpa hd ht
  · have e : j ≠ i := fun e => by
      subst e
      have e2 : o = p := Option.some.inj (ho.symm.trans hp)
      subst e2
      rw [hal] at hpa; cases hpa
    rw [hother j p t hj hp e hd]
    exact h.ptr j p t hj hp (by rwa [getD_set_ne false (fun e' => e e'.symm)] at hl) hpa hd ht
  · have e : j ≠ i := fun e => by
      subst e
      have e2 : o = p := Option.some.inj (ho.symm.trans hp)
      subst e2
      rw [hpa] at hal; cases hal
    have h1 := h.row j p t hj hp (by rwa [getD_set_ne false (fun e' => e e'.symm)] at hl) hpa
    exact ⟨h1.1, (hb.block _ (Array.getElem?_eq_some_iff.1 h1.2.1).1).trans h1.2.1, h1.2.2⟩
  · have e : ∀ m r, l[m]? = some r → isAl r.op = true → m ≠ i := fun m r hm hr e => by
      subst e
      have e2 : o = r := Option.some.inj (ho.symm.trans hm)
      subst e2
      rw [hal] at hr; cases hr
    exact h.inj j k p q hj hk hp hq hpa hqa (by rwa [getD_set_ne false (fun e' => e j p hp hpa e'.symm)] at hl) (by rwa [getD_set_ne false (fun e' => e k q hq hqa e'.symm)] at hl')
  · obtain ⟨s1, s2, s3, s4, s5, s6⟩ := h.srow hex
    rw [stored_set ho hst]
    refine ⟨s1, Nat.lt_of_lt_of_le s2 hb.size, fun hs => (hb.block _ s2).trans (s3 hs), fun hs => (hb.block _ s2).trans (s4 hs), s5, fun j p hj hp hl hpa => ?_⟩
    have e : j ≠ i := fun e => by
      subst e
      have e2 : o = p := Option.some.inj (ho.symm.trans hp)
      subst e2
      rw [hal] at hpa; cases hpa
    exact s6 j p hj hp (by rwa [getD_set_ne false (fun e' => e e'.symm)] at hl) hpa

/-- Behind a new variable. -/
theorem Sim.nextAl {V : Nat → Value} {a0 : Act} {Z : TypeId → Array Value} {γ : Nat → Nat} {listed : Array Bool} {a : Act} {w : World} (h : Sim B w0 L S l n V a0 Z γ listed a w) {i : Nat} {o : Oper} {t : TypeId} (hi : i < n) (ho : l[i]? = some o)
    (hun : listed.getD i false = false) (hok : Ok l n i o) (hal : o.op = .alloc t) :
    Sim B w0 L S l n V a0 Z (fun j => if j = i then w.heap.size else γ j) (listed.setIfInBounds i true) (a.put o.dst (.pointer (some ⟨w.heap.size, 0, none⟩))) (w.alloc (.cells (Z t) t)) := by
  have hisal : isAl o.op = true := by rw [hal]; rfl
  have hother : ∀ j p t, j < n → l[j]? = some p → j ≠ i → p.dst = some t → (a.put o.dst (.pointer (some ⟨w.heap.size, 0, none⟩))).tmps[t]? = a.tmps[t]? := fun j p t hj hp hji hd => by
    rw [put_tmps, if_neg (fun hd' => hok.dst j p hj hp hji t hd' hd)]
  have hlt : ∀ j p s, j < n → l[j]? = some p → listed.getD j false = true → p.op = .alloc s → γ j < w.heap.size := fun j p s hj hp hl hs => (Array.getElem?_eq_some_iff.1 (h.row j p s hj hp hl hs).2.1).1
  refine ⟨by rw [put_size, h.size], by rw [put_defers, h.defers], fun t ht => ?_, fun j p t hj hp hl hpa hd ht => ?_, fun j p t hj hp hl hpa hd ht => ?_, h.rws.alloc0 _, fun j p s hj hp hl hpa => ?_, fun j k p q hj hk hp hq hpa hqa hl hl' hg => ?_, fun hex => ?_⟩
  · rw [put_tmps, if_neg (ht i o hi ho)]
    exact h.keep t ht
  · have e : j ≠ i := fun e => by
      subst e
      have e2 : o = p := Option.some.inj (ho.symm.trans hp)
      subst e2
      rw [hisal] at hpa; cases hpa
    rw [hother j p t hj hp e hd]
    exact h.val j p t hj hp (by rwa [getD_set_ne false (fun e' => e e'.symm)] at hl) hpa hd ht
  · by_cases e : j = i
    · subst e
      have e2 : o = p := Option.some.inj (ho.symm.trans hp)
      subst e2
      rw [put_tmps, if_pos hd, if_pos (by rw [h.size]; exact ht), if_pos rfl]
    · rw [hother j p t hj hp e hd, if_neg e]
      exact h.ptr j p t hj hp (by rwa [getD_set_ne false (fun e' => e e'.symm)] at hl) hpa hd ht
  · by_cases e : j = i
    · subst e
      have e2 : o = p := Option.some.inj (ho.symm.trans hp)
      subst e2
      have e3 : t = s := by rw [hal] at hpa; exact Op.alloc.inj hpa
      subst e3
      rw [if_pos rfl]
      exact ⟨h.rws.len, heap_alloc_new _ _, fun x hx => Nat.ne_of_lt (h.rws.lt hx)⟩
    · have hl' : listed.getD j false = true := by rwa [getD_set_ne false (fun e' => e e'.symm)] at hl
      have h1 := h.row j p s hj hp hl' hpa
      rw [if_neg e]
      exact ⟨h1.1, (Below.heap_alloc w _ _ (hlt j p s hj hp hl' hpa)).trans h1.2.1, h1.2.2⟩
  · obtain ⟨s, hs⟩ := isAl_spec hpa
    obtain ⟨s', hs'⟩ := isAl_spec hqa
    by_cases e : j = i
    · by_cases e' : k = i
      · rw [e, e']
      · rw [if_pos e, if_neg e'] at hg
        have := hlt k q s' hk hq (by rwa [getD_set_ne false (fun e2 => e' e2.symm)] at hl') hs'
        omega
    · by_cases e' : k = i
      · rw [if_neg e, if_pos e'] at hg
        have := hlt j p s hj hp (by rwa [getD_set_ne false (fun e2 => e e2.symm)] at hl) hs
        omega
      · rw [if_neg e, if_neg e'] at hg
        exact h.inj j k p q hj hk hp hq hpa hqa (by rwa [getD_set_ne false (fun e2 => e e2.symm)] at hl) (by rwa [getD_set_ne false (fun e2 => e' e2.symm)] at hl') hg
  · obtain ⟨s1, s2, s3, s4, s5, s6⟩ := h.srow hex
    rw [stored_set ho (by rw [hal]; rfl)]
    refine ⟨s1, by rw [World.size_alloc]; omega, fun hs => (Below.heap_alloc w _ _ s2).trans (s3 hs), fun hs => (Below.heap_alloc w _ _ s2).trans (s4 hs), s5, fun j p hj hp hl hpa => ?_⟩
    by_cases e : j = i
    · simp only [if_pos e]; omega
    · simp only [if_neg e]
      exact s6 j p hj hp (by rwa [getD_set_ne false (fun e' => e e'.symm)] at hl) hpa

/-- Behind the one store. -/
theorem Sim.nextSt {V : Nat → Value} {a0 : Act} {Z : TypeId → Array Value} {γ : Nat → Nat} {listed : Array Bool} {a : Act} {w : World} (h : Sim B w0 L S l n V a0 Z γ listed a w) {i : Nat} {o : Oper} (hi : i < n) (ho : l[i]? = some o)
    (hsz : i < listed.size) (hok : Ok l n i o) (hst : isSt o.op = true) (hv : V i = undef) : Sim B w0 L S l n V a0 Z γ (listed.setIfInBounds i true) (a.put o.dst undef) (w.setRow S.g S.new) := by
  obtain ⟨s1, s2, s3, s4, s5, s6⟩ := h.srow ⟨i, o, hi, ho, hst⟩
  have hal : isAl o.op = false := by
    cases hop : o.op <;> rw [hop] at hst <;> first | rfl | cases hst
  have hother : ∀ j p t, j < n → l[j]? = some p → j ≠ i → p.dst = some t → (a.put o.dst undef).tmps[t]? = a.tmps[t]? := fun j p t hj hp hji hd => by
    rw [put_tmps, if_neg (fun hd' => hok.dst j p hj hp hji t hd' hd)]
  have hrow : ∀ k, k ≠ S.g → (w.setRow S.g S.new).heap[k]? = w.heap[k]? := fun k hk => by
    simp only [World.setRow, Array.getElem?_modify]
    rw [if_neg (fun e => hk e.symm)]
  have hg : ∃ cs, w.heap[S.g]? = some (.cells cs S.t (0, 0)) := by
    by_cases hs : Stored l n listed
    · exact ⟨_, s3 hs⟩
    · exact ⟨_, s4 hs⟩
  obtain ⟨cs0, hg⟩ := hg
  have hnew : (w.setRow S.g S.new).heap[S.g]? = some (.cells S.new S.t (0, 0)) := by
    simp only [World.setRow, Array.getElem?_modify]
    rw [hg]; rfl
  refine ⟨by rw [put_size, h.size], by rw [put_defers, h.defers], fun t ht => ?_, fun j p t hj hp hl hpa hd ht => ?_, fun j p t hj hp hl hpa hd ht => ?_, ?_, fun j p t hj hp hl hpa => ?_, fun j k p q hj hk hp hq hpa hqa hl hl' => ?_, fun _ => ?_⟩
  · rw [put_tmps, if_neg (ht i o hi ho)]
    exact h.keep t ht
  · by_cases e : j = i
    · subst e
      have e2 : o = p := Option.some.inj (ho.symm.trans hp)
      subst e2
      rw [put_tmps, if_pos hd, if_pos (by rw [h.size]; exact ht), hv]
    · rw [hother j p t hj hp e hd]
      exact h.val j p t hj hp (by rwa [getD_set_ne false (fun e' => e e'.symm)] at hl) hpa hd ht
  · have e : j ≠ i := fun e => by
      subst e
      have e2 : o = p := Option.some.inj (ho.symm.trans hp)
      subst e2
      rw [hal] at hpa; cases hpa
    rw [hother j p t hj hp e hd]
    exact h.ptr j p t hj hp (by rwa [getD_set_ne false (fun e' => e e'.symm)] at hl) hpa hd ht
  · refine ⟨h.rws.below.trans ⟨rfl, rfl, rfl, by rw [size_setRow]; exact Nat.le_refl _, fun k hk => hrow k (by omega)⟩, by rw [size_setRow]; exact h.rws.len, fun x hx => ⟨(h.rws.row x hx).1, (hrow _ (s5 x hx)).trans (h.rws.row x hx).2⟩, h.rws.nd⟩
  · have e : j ≠ i := fun e => by
      subst e
      have e2 : o = p := Option.some.inj (ho.symm.trans hp)
      subst e2
      rw [hpa] at hal; cases hal
    have hl' : listed.getD j false = true := by rwa [getD_set_ne false (fun e' => e e'.symm)] at hl
    have h1 := h.row j p t hj hp hl' hpa
    exact ⟨h1.1, (hrow _ (s6 j p hj hp hl' (by rw [hpa]; rfl))).trans h1.2.1, h1.2.2⟩
  · have e : ∀ m r, l[m]? = some r → isAl r.op = true → m ≠ i := fun m r hm hr e => by
      subst e
      have e2 : o = r := Option.some.inj (ho.symm.trans hm)
      subst e2
      rw [hal] at hr; cases hr
    exact h.inj j k p q hj hk hp hq hpa hqa (by rwa [getD_set_ne false (fun e' => e j p hp hpa e'.symm)] at hl) (by rwa [getD_set_ne false (fun e' => e k q hq hqa e'.symm)] at hl')
  · refine ⟨s1, by rw [size_setRow]; exact s2, fun _ => hnew, fun hs => absurd ⟨i, o, hi, ho, hst, by simp [hsz]⟩ hs, s5, fun j p hj hp hl hpa => ?_⟩
    have e : j ≠ i := fun e => by
      subst e
      have e2 : o = p := Option.some.inj (ho.symm.trans hp)
      subst e2
      rw [hal] at hpa; cases hpa
    exact s6 j p hj hp (by rwa [getD_set_ne false (fun e' => e e'.symm)] at hl) hpa

/-- A type's zero, in cells. -/
noncomputable def zeroOf (P : Program) (t : TypeId) : Array Value := open Classical in if h : ∃ z, ∀ w : World, (zeroValue t).run P w = .ok z w then (Classical.choose h).cells else #[]

theorem zeroOf_eq {t : TypeId} {z : Value} (h : ∀ w : World, (zeroValue t).run P w = .ok z w) (w : World) : zeroOf P t = z.cells := by
  have hx : ∃ z, ∀ w : World, (zeroValue t).run P w = .ok z w := ⟨z, h⟩
  unfold zeroOf
  rw [dif_pos hx]
  have h2 := Classical.choose_spec hx w
  rw [h w] at h2
  injection h2 with h3
  rw [← h3]

theorem afterAl_zero {K : Act → World → Prop} : ∀ (os : List Oper) (L : List (Nat × Array Value × TypeId)) (a : Act), afterAl P B w0 K os L a → ∀ (o : Oper) (t : TypeId), o ∈ os → o.op = .alloc t → ∃ z, ∀ w : World, (zeroValue t).run P w = .ok z w
  | [], _, _, _, _, _, ho, _ => absurd ho List.not_mem_nil
  | p :: os, L, a, h, o, t, ho, ht => by
    unfold afterAl at h
    rcases List.mem_cons.1 ho with e | ho
    · subst e
      rw [ht] at h
      obtain ⟨z, hz, _⟩ := h
      exact ⟨z, hz⟩
    · split at h
      · obtain ⟨z, _, h⟩ := h
        exact afterAl_zero os _ _ (h 0) o t ho ht
      · exact afterAl_zero os _ _ h o t ho ht

/-- The end of the region's first n operations. -/
theorem afterAl_end {K : Act → World → Prop} {V : Nat → Value} {A : Nat → Act} {γ : Nat → Nat} {listed : Array Bool} {a : Act} {w : World} (hs : ∀ i o, i < n → l[i]? = some o → A (i + 1) = (A i).put o.dst (V i)) (hn : n ≤ l.length)
    (hok : ∀ i o, i < n → l[i]? = some o → Ok l n i o) (h : Sim B w0 L S l n V (A 0) (zeroOf P) γ listed a w) (hall : ∀ i, i < n → listed.getD i false = true) :
    ∀ (d k : Nat) (Lk : List (Nat × Array Value × TypeId)) (ak : Act), k + d = n → Rws B w0 w Lk → (∀ x, x ∈ Lk → (∀ i o, i < n → l[i]? = some o → isAl o.op = true → γ i ≠ x.1) ∨ ∃ j p, j < k ∧ l[j]? = some p ∧ isAl p.op = true ∧ x.1 = γ j) →
      ak.tmps.size = (A 0).tmps.size → ak.defers = (A 0).defers →
      (∀ t, (∀ j p, j < k → l[j]? = some p → isAl p.op = true → p.dst ≠ some t) → ak.tmps[t]? = (A n).tmps[t]?) →
      (∀ j p t, j < k → l[j]? = some p → isAl p.op = true → p.dst = some t → t < (A 0).tmps.size → ak.tmps[t]? = some (.pointer (some ⟨γ j, 0, none⟩))) →
      afterAl P B w0 K ((l.take n).drop k) Lk ak → K a w := by
  obtain ⟨h1, h2, h3, h4⟩ := lexA_tmps hs hn hok n (Nat.le_refl n)
  intro d
  induction d with
  | zero =>
    intro k Lk ak hk hR _ hsz hdf hkeep hptr hA
    have hkn : k = n := by omega
    subst hkn
    rw [List.drop_eq_nil_of_le (by simp; omega)] at hA
    have e : a = ak := by
      refine act_ext (h.defers.trans hdf.symm) fun t => ?_
      by_cases ht : t < (A 0).tmps.size
      · by_cases hd : ∃ i o, i < k ∧ l[i]? = some o ∧ o.dst = some t
        · obtain ⟨i, o, hi, ho, hd⟩ := hd
          cases hal : isAl o.op with
          | true => rw [h.ptr i o t hi ho (hall i hi) hal hd ht, hptr i o t hi ho hal hd ht]
          | false =>
            rw [h.val i o t hi ho (hall i hi) hal hd ht, hkeep t (fun j p hj hp hpa hpd => ?_), h4 i o t hi ho hd ht]
            by_cases e : j = i
            · subst e
              have e2 : o = p := Option.some.inj (ho.symm.trans hp)
              subst e2
              rw [hal] at hpa; cases hpa
            · exact (hok i o hi ho).dst j p hj hp e t hd hpd
        · have hno : ∀ i o, i < k → l[i]? = some o → o.dst ≠ some t := fun i o hi ho hd' => hd ⟨i, o, hi, ho, hd'⟩
          rw [h.keep t hno, hkeep t (fun j p hj hp _ => hno j p hj hp), h3 t hno]
      · rw [Array.getElem?_eq_none (by rw [h.size]; omega), Array.getElem?_eq_none (by rw [hsz]; omega)]
    rw [e]
    exact hA w hR
  | succ d ih =>
    intro k Lk ak hk hR hL hsz hdf hkeep hptr hA
    obtain ⟨o, ho⟩ : ∃ o, l[k]? = some o := ⟨l[k], List.getElem?_eq_getElem (by omega)⟩
    have hdrop : (l.take n).drop k = o :: (l.take n).drop (k + 1) := by
      have hlt : k < (l.take n).length := by simp; omega
      rw [List.drop_eq_getElem_cons hlt]
      congr 1
      have : (l.take n)[k]? = some o := by rw [List.getElem?_take, if_pos (by omega)]; exact ho
      rw [List.getElem?_eq_getElem hlt] at this
      exact Option.some.inj this
    rw [hdrop] at hA
    unfold afterAl at hA
    split at hA
    · rename_i t hal
      obtain ⟨z, hz, hA⟩ := hA
      have hisal : isAl o.op = true := by rw [hal]; rfl
      have hrow := h.row k o t (by omega) ho (hall k (by omega)) hal
      rw [zeroOf_eq hz w] at hrow
      refine ih (k + 1) _ _ (by omega) (hR.add hrow.1 hrow.2.1 fun x hx e => ?_) (fun x hx => ?_) (by rw [put_size, hsz]) (by rw [put_defers, hdf]) (fun s hns => ?_) (fun j p s hj hp hpa hd hs' => ?_) (hA (γ k))
      · rcases hL x hx with hx | ⟨j, p, hj, hp, hpa, hxj⟩
        · exact hx k o (by omega) ho hisal e.symm
        · have := h.inj j k p o (by omega) (by omega) hp ho hpa hisal (hall j (by omega)) (hall k (by omega)) (hxj.symm.trans e)
          omega
      · rcases List.mem_cons.1 hx with rfl | hx
        · exact Or.inr ⟨k, o, by omega, ho, hisal, rfl⟩
        · rcases hL x hx with hx | ⟨j, p, hj, r⟩
          · exact Or.inl hx
          · exact Or.inr ⟨j, p, by omega, r⟩
      · rw [put_tmps, if_neg (hns k o (by omega) ho hisal)]
        exact hkeep s fun j p hj hp hpa => hns j p (by omega) hp hpa
      · rw [put_tmps]
        by_cases e : j = k
        · subst e
          have e2 : o = p := Option.some.inj (ho.symm.trans hp)
          subst e2
          rw [if_pos hd, if_pos (by rw [hsz]; exact hs')]
        · rw [if_neg (fun hd' => (hok k o (by omega) ho).dst j p (by omega) hp e s hd' hd)]
          exact hptr j p s (by omega) hp hpa hd hs'
    · rename_i hna
      have hisal : isAl o.op = false := by
        cases hq : isAl o.op with
        | false => rfl
        | true => obtain ⟨t, ht⟩ := isAl_spec hq; exact absurd ht (hna t)
      refine ih (k + 1) _ _ (by omega) hR (fun x hx => ?_) hsz hdf (fun s hns => hkeep s fun j p hj hp hpa => hns j p (by omega) hp hpa) (fun j p s hj hp hpa hd hs' => ?_) hA
      · rcases hL x hx with hx | ⟨j, p, hj, r⟩
        · exact Or.inl hx
        · exact Or.inr ⟨j, p, by omega, r⟩
      · have e : j ≠ k := fun e => by
          subst e
          have e2 : o = p := Option.some.inj (ho.symm.trans hp)
          subst e2
          rw [hisal] at hpa; cases hpa
        exact hptr j p s (by omega) hp hpa hd hs'

theorem cntB_all {p : Nat → Bool} : ∀ n, cntB p n ≠ 0 → ∃ i, i < n ∧ p i = true
  | 0, h => absurd rfl h
  | n + 1, h => by
    cases hp : p n with
    | true => exact ⟨n, by omega, hp⟩
    | false =>
      obtain ⟨i, hi, hpi⟩ := cntB_all n (fun e => h (by simp only [cntB]; rw [e, hp]; rfl))
      exact ⟨i, by omega, hpi⟩

theorem ready_some {listed : Array Bool} (hn : n ≤ l.length) (hsz : listed.size = l.length) (hok : ∀ i o, i < n → l[i]? = some o → Ok l n i o) (i : Nat) : i < n → listed.getD i true = false → Region.ready .any l.toArray listed ≠ [] := by
  induction i using Nat.strongRecOn with
  | ind i ih =>
    intro hi hun
    obtain ⟨o, ho⟩ : ∃ o, l[i]? = some o := ⟨l[i], List.getElem?_eq_getElem (by omega)⟩
    by_cases hall : ∀ e, e ∈ o.after → Region.binds .any e = true → listed.getD e.on false = true
    · intro h0
      have : i ∈ Region.ready .any l.toArray listed := mem_ready.2 ⟨hun, o, by simpa using ho, hall⟩
      rw [h0] at this
      cases this
    · have hex : ∃ e, e ∈ o.after ∧ Region.binds .any e = true ∧ listed.getD e.on false = false := by
        refine Classical.byContradiction fun hno => hall fun e he hb => ?_
        cases hl : listed.getD e.on false with
        | true => rfl
        | false => exact absurd ⟨e, he, hb, hl⟩ hno
      obtain ⟨e, he, hb, hl⟩ := hex
      have hlt := (hok i o hi ho).back e he hb
      exact ih e.on hlt (by omega) (getD_in (by omega) hl)

theorem calm_any {Q : Exit → Act → World → Prop} {V : Nat → Value} {A : Nat → Act} (hsel : Region.noSelect l.toArray = true) (hn : n < l.length) (hsink : Region.sinkB .any l.toArray n = true) (hchain : Region.chainB .any l.toArray n = true)
    (hseq : Region.seqB .any l.toArray (l.length - n) n ((List.replicate n true ++ List.replicate (l.length - n) false).toArray) = true)
    (hok : ∀ i o, i < n → l[i]? = some o → Ok l n i o) (hs : ∀ i o, i < n → l[i]? = some o → A (i + 1) = (A i).put o.dst (V i) ∧ (Region.wanted o (yielded l.toArray (A i).tmps) = true → isAl o.op = false → isSt o.op = false → Calm P B w0 L o (A i) (V i)) ∧ (Region.wanted o (yielded l.toArray (A i).tmps) = false → V i = undef) ∧ (isSt o.op = true → StOk P S o (A i) ∧ V i = undef))
    {L' : List (Nat × Array Value × TypeId)} (hL' : L' = L ∨ (L' = (S.g, S.new, S.t) :: L ∧ ∃ i o, i < n ∧ l[i]? = some o ∧ isSt o.op = true))
    (hA : afterAl P B w0 (fun a w => wpList P l.toArray Q (l.drop n) a w) (l.take n) L' (A n)) :
    ∀ (f : Nat) (listed : Array Bool) (a : Act) (w : World) (γ : Nat → Nat), HeadInv .any l.toArray n listed → Sim B w0 L S l n V (A 0) (zeroOf P) γ listed a w → cntB (fun i => !listed.getD i true) n = f →
      wpAny P .any l.toArray Q (f + (l.length - n)) listed a w := by
  have hs1 : ∀ i o, i < n → l[i]? = some o → A (i + 1) = (A i).put o.dst (V i) := fun i o hi ho => (hs i o hi ho).1
  intro f
  induction f with
  | zero =>
    intro listed a w γ inv sim hc
    have hall : ∀ i, i < n → listed.getD i true = true := fun i hi => by
      have := cntB_zero n hc i hi
      simpa using this
    have hall' : ∀ i, i < n → listed.getD i false = true := fun i hi => by
      have h1 := hall i hi
      have hlt : i < listed.size := by rw [inv.size]; simp; omega
      simp [hlt] at h1 ⊢; exact h1
    have hl : listed = (List.replicate n true ++ List.replicate (l.length - n) false).toArray := by
      have hsz := inv.size
      simp only [List.size_toArray] at hsz
      apply Array.ext
      · simp; omega
      · intro i h1 h2
        simp only [List.getElem_toArray]
        by_cases hi : i < n
        · have h3 := hall i hi
          simp only [Array.getD_eq_getD_getElem?, Array.getElem?_eq_getElem h1, Option.getD_some] at h3
          rw [h3, List.getElem_append_left (by simpa using hi)]
          simp
        · have h3 := inv.tail i (by omega) (by simp; omega)
          simp only [Array.getD_eq_getD_getElem?, Array.getElem?_eq_getElem h1, Option.getD_some] at h3
          rw [h3, List.getElem_append_right (by simpa using hi)]
          simp
    have hRL : Rws B w0 w L' ∧ ∀ x, x ∈ L' → ∀ i o, i < n → l[i]? = some o → isAl o.op = true → γ i ≠ x.1 := by
      have hin' : ∀ x, x ∈ L → ∀ i o, i < n → l[i]? = some o → isAl o.op = true → γ i ≠ x.1 := fun x hx i o hi ho hal => by
        obtain ⟨t, ht⟩ := isAl_spec hal
        exact ((sim.row i o t hi ho (hall' i hi) ht).2.2 x hx).symm
      rcases hL' with rfl | ⟨rfl, hex⟩
      · exact ⟨sim.rws, hin'⟩
      · obtain ⟨s1, s2, s3, s4, s5, s6⟩ := sim.srow hex
        have hstored : Stored l n listed := by
          obtain ⟨i, o, hi, ho, hs⟩ := hex
          exact ⟨i, o, hi, ho, hs, hall' i hi⟩
        refine ⟨sim.rws.add s1 (s3 hstored) s5, fun x hx i o hi ho hal => ?_⟩
        rcases List.mem_cons.1 hx with rfl | hx
        · exact s6 i o hi ho (hall' i hi) hal
        · exact hin' x hx i o hi ho hal
    have H : wpList P l.toArray Q (l.drop n) a w :=
      afterAl_end (K := fun a w => wpList P l.toArray Q (l.drop n) a w) hs1 (Nat.le_of_lt hn) hok sim hall' n 0 L' (A n) (by omega) hRL.1 (fun x hx => Or.inl (hRL.2 x hx))
        (lexA_tmps hs1 (Nat.le_of_lt hn) hok n (Nat.le_refl n)).1 (lexA_tmps hs1 (Nat.le_of_lt hn) hok n (Nat.le_refl n)).2.1 (fun _ _ => rfl) (fun j _ _ hj => absurd hj (Nat.not_lt_zero j)) (by simpa using hA)
    have := wpAny_of_seq (md := .any) (Q' := Q) (ops := l.toArray) (l.drop n) n listed a w (fun j => by simp [List.getElem?_drop]) (by rw [hl]; simpa using hseq) H
    simpa using this
  | succ f ih =>
    intro listed a w γ inv sim hc
    have hsz : listed.size = l.length := by simpa using inv.size
    rw [show f + 1 + (l.length - n) = (f + (l.length - n)) + 1 by omega]
    obtain ⟨i0, hi0, hun0⟩ := cntB_all n (by rw [hc]; omega)
    have hun0 : listed.getD i0 true = false := by simpa using hun0
    refine ⟨fun h0 => absurd h0 (ready_some (Nat.le_of_lt hn) hsz hok i0 hi0 hun0), fun i hi => ?_⟩
    obtain ⟨hun, o, ho, hall⟩ := mem_ready.1 hi
    have ho' : l[i]? = some o := by simpa using ho
    have hin : i < n := by
      rcases Nat.lt_or_ge i n with h | h
      · exact h
      · exact absurd hi (tail_waits hsink hchain (by simpa using hn) inv (n - i0) i0 rfl hi0 hun0 i h)
    have hunF : listed.getD i false = false := getD_both hun
    have hoki := hok i o hin ho'
    have hcnt : cntB (fun j => !(listed.setIfInBounds i true).getD j true) n = f := by
      have hlt : i < listed.size := by rw [hsz]; omega
      have := cntB_set (p := fun j => !listed.getD j true) (q := fun j => !(listed.setIfInBounds i true).getD j true) (i := i) (by simp only [hun]; rfl) (by simp [hlt]) (fun j hj => by simp only [getD_set_ne true (fun e => hj e.symm)]) n hin
      omega
    have inv' := inv.set hi hin
    obtain ⟨g1, _, g3, g4⟩ := lexA_tmps hs1 (Nat.le_of_lt hn) hok i (Nat.le_of_lt hin)
    have slot : ∀ (j : Nat) (p : Oper) (t : Tmp), j < i → l[j]? = some p → Region.waitsFor .any l.toArray i j = true → isAl p.op = false → p.dst = some t → a.tmps[t]? = (A i).tmps[t]? := fun j p t hji hp hwait hpa hd => by
      by_cases hts : t < (A 0).tmps.size
      · obtain ⟨o2, ho2, e, he, hb, hon⟩ := Region.waitsFor_spec hwait
        have e2 : o = o2 := Option.some.inj (ho.symm.trans ho2)
        subst e2
        have hlj := hall e he hb
        rw [hon] at hlj
        rw [sim.val j p t (by omega) hp hlj hpa hd hts, g4 j p t hji hp hd hts]
      · rw [Array.getElem?_eq_none (by rw [sim.size]; exact Nat.le_of_not_lt hts), Array.getElem?_eq_none (by rw [g1]; exact Nat.le_of_not_lt hts)]
    have hwant : Region.wanted o (yielded l.toArray a.tmps) = Region.wanted o (yielded l.toArray (A i).tmps) := by
      unfold Region.wanted
      cases hgd : o.guard with
      | none => rfl
      | some gb =>
        obtain ⟨g, b⟩ := gb
        obtain ⟨_, _, hgi, hwait, p, hp, hpa⟩ := hoki.guard g b hgd
        have e : yielded l.toArray a.tmps g = yielded l.toArray (A i).tmps g := by
          unfold yielded
          have hp' : l.toArray[g]? = some p := by simpa using hp
          rw [hp']
          cases hd : p.dst with
          | none => simp [hd]
          | some t =>
            have := slot g p t hgi hp hwait hpa hd
            simp [hd, this]
        simp only [e]
    unfold wpOp
    rw [ho]
    simp only []
    rw [hwant]
    cases hwb : Region.wanted o (yielded l.toArray (A i).tmps) with
    | false =>
      have hboth : isAl o.op = false ∧ isSt o.op = false := by
        cases hgd : o.guard with
        | none => unfold Region.wanted at hwb; rw [hgd] at hwb; cases hwb
        | some gb => exact ⟨(hoki.guard gb.1 gb.2 hgd).1, (hoki.guard gb.1 gb.2 hgd).2.1⟩
      have hv := (hs i o hin ho').2.2.1 hwb
      have sim' := sim.next hin ho' hoki hboth.1 hboth.2 (Below.refl _ _)
      rw [hv] at sim'
      simp only [Bool.false_eq_true, if_false]
      exact ih _ _ _ _ inv' sim' hcnt
    | true =>
    simp only [if_true]
    refine Or.inl ?_
    unfold Oper.wp
    cases hal : isAl o.op with
    | true =>
      obtain ⟨t, ht⟩ := isAl_spec hal
      obtain ⟨z, hz⟩ := afterAl_zero _ _ _ hA o t (List.mem_iff_getElem?.2 ⟨i, by rw [List.getElem?_take, if_pos hin]; exact ho'⟩) ht
      unfold execOp
      simp only [ht, Instr.alloc, Sem.run_bind, hz, Result.andThen_ok]
      have sim' := sim.nextAl hin ho' hunF hoki ht
      rw [zeroOf_eq hz w] at sim'
      exact ih _ _ _ _ inv' sim' hcnt
    | false =>
      have he : execOp a.eval o = execOp (A i).eval o := by
        refine execOp_congr o (fun cs b => Region.noSelect_spec hsel i o cs b ho) fun x hx => ?_
        cases x with
        | tmp t =>
          show a.tmps.getD t undef = (A i).tmps.getD t undef
          have key : a.tmps[t]? = (A i).tmps[t]? := by
            by_cases hd : ∃ j p, j < n ∧ l[j]? = some p ∧ p.dst = some t
            · obtain ⟨j, p, hj, hp, hd⟩ := hd
              obtain ⟨hji, hwait, hpa⟩ := hoki.use j p t hj hp hx hd
              exact slot j p t hji hp hwait hpa hd
            · have hno : ∀ j p, j < n → l[j]? = some p → p.dst ≠ some t := fun j p hj hp hd' => hd ⟨j, p, hj, hp, hd'⟩
              rw [sim.keep t hno, g3 t (fun j p hj hp => hno j p (by omega) hp)]
          simp only [Array.getD_eq_getD_getElem?, key]
        | const v => rfl
        | global g => rfl
        | func f => rfl
      rw [he]
      cases hst : isSt o.op with
      | true =>
        obtain ⟨⟨x, y, hop, hx, hy, hi1, hi2, hi3⟩, hv⟩ := (hs i o hin ho').2.2.2 hst
        obtain ⟨s1, s2, s3, s4, s5, s6⟩ := sim.srow ⟨i, o, hin, ho', hst⟩
        have hnot : ¬ Stored l n listed := by
          rintro ⟨j, p, hj, hp, hps, hl⟩
          by_cases e : j = i
          · subst e; rw [hunF] at hl; cases hl
          · exact hoki.one j p hj hp e hst hps
        have hrun : (execOp (A i).eval o).run P w = .ok .skip (w.setRow S.g S.new) := by
          unfold execOp
          simp only [hop, hx, hy, Instr.storeAt, Instr.sureAddr, Sem.run_bind, Sem.run_pure, Result.andThen_ok, run_storeVar_row w S.g S.t S.t S.old S.new (s4 hnot) hi1 hi2 hi3]
        rw [hrun]
        exact ih _ _ _ _ inv' (sim.nextSt hin ho' (by rw [hsz]; omega) hoki hst hv) hcnt
      | false =>
      have hcalm := (hs i o hin ho').2.1 hwb hal hst w sim.rws
      generalize (execOp (A i).eval o).run P w = r at hcalm
      cases r with
      | halt x w' => exact absurd hcalm id
      | ok nx w' =>
        cases nx with
        | value u =>
          obtain ⟨e1, e2⟩ := hcalm
          subst e1; subst e2
          exact ih _ _ _ _ inv' (sim.next hin ho' hoki hal hst (Below.refl _ _)) hcnt
        | enter fid args =>
          obtain ⟨e1, hcall⟩ := hcalm
          subst e1
          refine hcall.mono fun e w'' ⟨he, hb⟩ => ?_
          subst he
          exact ih _ _ _ _ inv' (sim.next hin ho' hoki hal hst hb) hcnt
        | _ => exact absurd hcalm id

/-- One walk in the order of the text serves every order; a variable may be written in the midst. -/
theorem wp_region_calm1 {id : Nat} {Q : Exit → Act → World → Prop} {a : Act} {w : World} (n : Nat) {L' : List (Nat × Array Value × TypeId)} (hm : P.follows .mixedOrders = true) (hB : sideB n l = true) (hR : Rws B w0 w L)
    (hL' : L' = L ∨ (L' = (S.g, S.new, S.t) :: L ∧ ∃ i o, i < n ∧ l[i]? = some o ∧ isSt o.op = true))
    (hS : (∃ i o, i < n ∧ l[i]? = some o ∧ isSt o.op = true) → B ≤ S.g ∧ w.heap[S.g]? = some (.cells S.old S.t (0, 0)) ∧ ∀ x, x ∈ L → x.1 ≠ S.g)
    (h : lexC P B w0 L S l.toArray (fun a' => afterAl P B w0 (fun a w => wpList P l.toArray Q (l.drop n) a w) (l.take n) L' a') n l a) : (Code.region id l.toArray true).wp P Q a w := by
  unfold sideB at hB
  simp only [Bool.and_eq_true, decide_eq_true_eq] at hB
  obtain ⟨⟨⟨⟨⟨hsel, hn⟩, hsink⟩, hchain⟩, hokB⟩, hseq⟩ := hB
  have hok : ∀ i o, i < n → l[i]? = some o → Ok l n i o := fun i o hi ho => okAt_spec ho (List.all_eq_true.1 hokB i (List.mem_range.2 hi))
  obtain ⟨V, A, h0, hQ, hs⟩ := lexC_spec n l a (Nat.le_of_lt hn) h
  have inv0 : HeadInv .any l.toArray n (Array.replicate l.toArray.size false) :=
    ⟨by simp, fun j oj _ hl => (by rw [getD_replicate_false] at hl; cases hl), fun t _ ht => getD_in (by simpa using ht) (getD_replicate_false _ _)⟩
  have hun : ∀ i, (Array.replicate l.toArray.size false).getD i false = true → False := fun i hi => by rw [getD_replicate_false] at hi; cases hi
  have sim0 : Sim B w0 L S l n V (A 0) (zeroOf P) (fun _ => 0) (Array.replicate l.toArray.size false) a { w with drawn := w.drawn + 1 } := by
    rw [h0]
    exact ⟨rfl, rfl, fun _ _ => rfl, fun i _ _ _ _ hl => (hun i hl).elim, fun i _ _ _ _ hl => (hun i hl).elim, hR.drew, fun i _ _ _ _ hl => (hun i hl).elim, fun i _ _ _ _ _ _ _ _ _ hl => (hun i hl).elim,
      fun hex => ⟨(hS hex).1, (Array.getElem?_eq_some_iff.1 (hS hex).2.1).1, fun ⟨i, _, _, _, _, hl⟩ => (hun i hl).elim, fun _ => (hS hex).2.1, (hS hex).2.2, fun i _ _ _ hl => (hun i hl).elim⟩⟩
  have hcn : cntB (fun i => !(Array.replicate l.toArray.size false).getD i true) n = n := by
    have key : ∀ m, m ≤ n → cntB (fun i => !(Array.replicate l.toArray.size false).getD i true) m = m := by
      intro m
      induction m with
      | zero => intro _; rfl
      | succ m ih =>
        intro hm
        have hlt : m < l.length := by omega
        simp only [cntB]
        rw [ih (by omega)]
        simp [hlt]
    exact key n (Nat.le_refl n)
  have := calm_any hsel hn hsink hchain hseq hok hs hL' hQ n _ a _ _ inv0 sim0 hcn
  refine wp_region_any hm ?_
  rw [show n + (l.length - n) = l.toArray.size by simp; omega] at this
  exact this

def noSt (n : Nat) (l : List Oper) : Bool := (l.take n).all fun o => !isSt o.op
theorem noSt_spec (h : noSt n l = true) : ¬ ∃ i o, i < n ∧ l[i]? = some o ∧ isSt o.op = true := by
  rintro ⟨i, o, hi, ho, hs⟩
  have h1 := List.all_eq_true.1 h o (List.mem_iff_getElem?.2 ⟨i, by rw [List.getElem?_take, if_pos hi]; exact ho⟩)
  rw [hs] at h1
  cases h1

/-- One walk in the order of the text serves every order. -/
theorem wp_region_calm {id : Nat} {Q : Exit → Act → World → Prop} {a : Act} {w : World} (n : Nat) (hm : P.follows .mixedOrders = true) (hB : (sideB n l && noSt n l) = true) (hR : Rws B w0 w L)
    (h : lexC P B w0 L ⟨0, #[], #[], 0⟩ l.toArray (fun a' => afterAl P B w0 (fun a w => wpList P l.toArray Q (l.drop n) a w) (l.take n) L a') n l a) : (Code.region id l.toArray true).wp P Q a w := by
  rw [Bool.and_eq_true] at hB
  exact wp_region_calm1 n hm hB.1 hR (Or.inl rfl) (fun hex => absurd hex (noSt_spec hB.2)) h

/-- The same where one variable is written in the midst. -/
theorem wp_region_calmS {id : Nat} {Q : Exit → Act → World → Prop} {a : Act} {w : World} (n : Nat) (S : StRow) (hm : P.follows .mixedOrders = true) (hB : (sideB n l && !noSt n l) = true) {L0 : List (Nat × Array Value × TypeId)} (hR : Rws B w0 w L0) (hp : Pick L0 (S.g, S.old, S.t) L)
    (h : lexC P B w0 L S l.toArray (fun a' => afterAl P B w0 (fun a w => wpList P l.toArray Q (l.drop n) a w) (l.take n) ((S.g, S.new, S.t) :: L) a') n l a) : (Code.region id l.toArray true).wp P Q a w := by
  rw [Bool.and_eq_true] at hB
  have hex : ∃ i o, i < n ∧ l[i]? = some o ∧ isSt o.op = true := by
    refine Classical.byContradiction fun hno => ?_
    have : noSt n l = true := by
      refine List.all_eq_true.2 fun o ho => ?_
      obtain ⟨i, hi⟩ := List.mem_iff_getElem?.1 ho
      rw [List.getElem?_take] at hi
      by_cases hin : i < n
      · rw [if_pos hin] at hi
        cases hs : isSt o.op with
        | false => rfl
        | true => exact absurd ⟨i, o, hin, hi, hs⟩ hno
      · rw [if_neg hin] at hi; cases hi
    rw [this] at hB
    exact absurd hB.2 (by decide)
  exact wp_region_calm1 n hm hB.1 (hR.sub hp.sub) (Or.inr ⟨rfl, hex⟩) (fun _ => ⟨(hR.row _ hp.mem).1, (hR.row _ hp.mem).2, hp.ne hR.nd⟩) h
end
end Go.Proofs.YtjkjlbchbbpmaaaGreatDoor
/- The steps of the walk through a drawn region. -/
namespace Go.Proofs.YtjkjlbchbbpmaaaGreatDoor
open Go.RowKit
section
variable {P : Program} {B : Nat} {w0 w : World} {L : List (Nat × Array Value × TypeId)} {S : StRow} {ops : Array Oper} {l : List Oper} {n : Nat} {a : Act} {Q : Act → Prop}
variable {o : Oper}

theorem lexC_zero {l : List Oper} (h : Q a) : lexC P B w0 L S ops Q 0 l a := h

theorem lexC_alloc {t : TypeId} (ho : o.op = .alloc t) (h : lexC P B w0 L S ops Q n l (a.put o.dst undef)) : lexC P B w0 L S ops Q (n + 1) (o :: l) a :=
  ⟨undef, (fun _ h0 => by rw [ho] at h0; cases h0), fun _ => rfl, fun hs => (by rw [ho] at hs; cases hs), h⟩

/-- Whatever yields its value in whatever world. -/
theorem lexC_val {v : Value} (hv : ∀ w : World, (execOp a.eval o).run P w = .ok (.value v) w) (h : lexC P B w0 L S ops Q n l (a.put o.dst v)) (hwt : Region.wanted o (yielded ops a.tmps) = true := by rfl) (hst : isSt o.op = false := by rfl) : lexC P B w0 L S ops Q (n + 1) (o :: l) a :=
  ⟨v, fun _ _ _ w _ => by rw [hv w]; exact ⟨rfl, rfl⟩, fun h0 => absurd (hwt.symm.trans h0) (by decide), fun hs => absurd (hst.symm.trans hs) (by decide), h⟩

/-- What is not wanted is passed over. -/
theorem lexC_skip (hwt : Region.wanted o (yielded ops a.tmps) = false) (hst : isSt o.op = false) (h : lexC P B w0 L S ops Q n l (a.put o.dst undef)) : lexC P B w0 L S ops Q (n + 1) (o :: l) a :=
  ⟨undef, fun h0 => absurd (hwt.symm.trans h0) (by decide), fun _ => rfl, fun hs => absurd (hst.symm.trans hs) (by decide), h⟩

/-- The store in the midst. -/
theorem lexC_store {x y : Operand} (ho : o.op = .store S.t x y) (hx : a.eval x = .pointer (some ⟨S.g, 0, none⟩)) (hy : a.eval y = .agg S.new) (h1 : (P.info? S.t).map (·.size) = some S.new.size) (h2 : S.old.size = S.new.size) (h3 : S.new.all (·.oneCell') = true)
    (h : lexC P B w0 L S ops Q n l (a.put o.dst undef)) : lexC P B w0 L S ops Q (n + 1) (o :: l) a :=
  ⟨undef, fun _ _ hs => (by rw [ho] at hs; cases hs), fun _ => rfl, fun _ => ⟨⟨x, y, ho, hx, hy, h1, h2, h3⟩, rfl⟩, h⟩

theorem lexC_move {x : Operand} {v : Value} (ho : o.op = .move x) (hx : a.eval x = v) (h : lexC P B w0 L S ops Q n l (a.put o.dst v)) (hwt : Region.wanted o (yielded ops a.tmps) = true := by rfl) : lexC P B w0 L S ops Q (n + 1) (o :: l) a :=
  lexC_val (fun _ => by unfold execOp; simp only [ho, hx]; rfl) h hwt (by rw [ho]; rfl)

theorem lexC_assign {x : Operand} {v : Value} (ho : o.op = .assign x) (hx : a.eval x = v) (h : lexC P B w0 L S ops Q n l (a.put o.dst v)) (hwt : Region.wanted o (yielded ops a.tmps) = true := by rfl) : lexC P B w0 L S ops Q (n + 1) (o :: l) a :=
  lexC_val (fun _ => by unfold execOp; simp only [ho, hx]; rfl) h hwt (by rw [ho]; rfl)

theorem addr_add (g k j : Nat) : (⟨g, k, none⟩ : Addr).add j = ⟨g, k + j, none⟩ := by unfold Addr.add; split <;> simp_all

/-- A struct or an array out of a variable, or out of a part of one. -/
theorem run_load_part {g k : Nat} {cs vs : Array Value} {t t2 : TypeId} {d : TypeDesc} (hg : w.heap[g]? = some (.cells cs t2 (0, 0)))
    (hu : P.underlying t = some d) (hd : (match d with | .struct _ | .array _ _ => true | _ => false) = true) (hi : (P.info? t).map (·.size) = some vs.size) (hv : ∀ j, j < vs.size → cs[k + j]? = vs[j]?) :
    (Instr.loadAt t (.pointer (some ⟨g, k, none⟩))).run P w = .ok (.agg vs) w := by
  have hl : (loadCells ⟨g, k, none⟩ vs.toList.length).run P w = .ok vs.toList.toArray w :=
    run_loadCells_list (P := P) w ⟨g, k, none⟩ vs.toList (fun j v hv' => by
      have hj : j < vs.size := by
        have := (List.getElem?_eq_some_iff.1 hv').1
        simpa using this
      rw [addr_add, cell_of_row w g (k + j) cs t2 _ hg, hv j hj]
      simpa using hv')
  have hagg : (isAgg t).run P w = .ok true w := by
    unfold isAgg
    rw [Sem.run_bind, run_underlying hu w]
    cases d <;> simp_all
  cases hq : P.info? t with
  | none => simp [hq] at hi
  | some i =>
    have hs : i.size = vs.size := by simpa [hq] using hi
    simp only [Array.length_toList, Array.toArray_toList] at hl
    simp [Instr.loadAt, Instr.sureAddr, loadVar, Sem.run_bind, hagg, sizeOf, typeInfo, hq, hs, hl]

theorem lexC_load {t t2 : TypeId} {x : Operand} {g k : Nat} {cs vs : Array Value} {d : TypeDesc} (ho : o.op = .load t x) (hx : a.eval x = .pointer (some ⟨g, k, none⟩)) (hm : (g, cs, t2) ∈ L)
    (hu : P.underlying t = some d) (hd : (match d with | .struct _ | .array _ _ => true | _ => false) = true) (hi : (P.info? t).map (·.size) = some vs.size) (hv : ∀ j, j < vs.size → cs[k + j]? = vs[j]?)
    (h : lexC P B w0 L S ops Q n l (a.put o.dst (.agg vs))) (hwt : Region.wanted o (yielded ops a.tmps) = true := by rfl) : lexC P B w0 L S ops Q (n + 1) (o :: l) a :=
  ⟨.agg vs, fun _ _ _ w hw => by
    have h1 := run_load_part (P := P) (w := w) (k := k) (vs := vs) (hw.row _ hm).2 hu hd hi hv
    have h2 : (execOp a.eval o).run P w = .ok (.value (.agg vs)) w := by
      unfold execOp
      simp only [ho, hx]
      rw [Sem.run_bind, h1]
      rfl
    rw [h2]; exact ⟨rfl, rfl⟩, fun h0 => absurd (hwt.symm.trans h0) (by decide), fun hs => (by rw [ho] at hs; cases hs), h⟩

/-- The whole of a variable. -/
theorem lexC_load0 {t t2 : TypeId} {x : Operand} {g : Nat} {cs : Array Value} {d : TypeDesc} (ho : o.op = .load t x) (hx : a.eval x = .pointer (some ⟨g, 0, none⟩)) (hm : (g, cs, t2) ∈ L)
    (hu : P.underlying t = some d) (hd : (match d with | .struct _ | .array _ _ => true | _ => false) = true) (hi : (P.info? t).map (·.size) = some cs.size)
    (h : lexC P B w0 L S ops Q n l (a.put o.dst (.agg cs))) (hwt : Region.wanted o (yielded ops a.tmps) = true := by rfl) : lexC P B w0 L S ops Q (n + 1) (o :: l) a :=
  lexC_load ho hx hm hu hd hi (fun j _ => by rw [Nat.zero_add]) h hwt

/-- The address of an array's element (of one cell). -/
theorem lexC_ix {t e : TypeId} {x y : Operand} {g k n' : Nat} {kd : IntKind} (ho : o.op = .indexAddr t x y) (hx : a.eval x = .pointer (some ⟨g, 0, none⟩)) (hy : a.eval y = .int kd (k : Int)) (hu : P.underlying t = some (.array n' e)) (hs : (P.info? e).map (·.size) = some 1) (hk : k < n')
    (h : lexC P B w0 L S ops Q n l (a.put o.dst (.pointer (some ⟨g, k, none⟩)))) (hwt : Region.wanted o (yielded ops a.tmps) = true := by rfl) : lexC P B w0 L S ops Q (n + 1) (o :: l) a :=
  lexC_val (fun w => by
    have h0 : (sizeOf e).run P w = .ok 1 w := by
      cases hq : P.info? e with
      | none => simp [hq] at hs
      | some i =>
        have : i.size = 1 := by simpa [hq] using hs
        simp [sizeOf, typeInfo, hq, this, Sem.run_bind]
    have h1 : (Instr.indexAt t (.pointer (some ⟨g, 0, none⟩)) (.int kd (k : Int))).run P w = .ok (.pointer (some ⟨g, k, none⟩)) w := by
      unfold Instr.indexAt
      simp only [asIntOf, Sem.run_bind, Sem.run_pure, Result.andThen_ok, run_underlying hu w, Instr.sureAddr]
      rw [if_pos (by omega)]
      simp [h0, addr_add]
    unfold execOp
    simp only [ho, hx, hy]
    rw [Sem.run_bind, h1]
    rfl) h hwt (by rw [ho]; rfl)

/-- One cell of a variable. -/
theorem lexC_word {t t2 : TypeId} {x : Operand} {g k : Nat} {cs : Array Value} {v : Value} (ho : o.op = .load t x) (hx : a.eval x = .pointer (some ⟨g, k, none⟩)) (hm : (g, cs, t2) ∈ L) (hc : cs[k]? = some v) (hag : ∀ w : World, (isAgg t).run P w = .ok false w)
    (h : lexC P B w0 L S ops Q n l (a.put o.dst v)) (hwt : Region.wanted o (yielded ops a.tmps) = true := by rfl) : lexC P B w0 L S ops Q (n + 1) (o :: l) a :=
  ⟨v, fun _ _ _ w hw => by
    have hcell : w.cell? ⟨g, k, none⟩ = some v := (cell_of_row w g k cs t2 _ (hw.row _ hm).2).trans hc
    have h1 : (Instr.loadAt t (.pointer (some ⟨g, k, none⟩))).run P w = .ok v w := by
      simp [Instr.loadAt, Instr.sureAddr, loadVar, Sem.run_bind, hag, run_load, hcell]
    have h2 : (execOp a.eval o).run P w = .ok (.value v) w := by
      unfold execOp
      simp only [ho, hx]
      rw [Sem.run_bind, h1]
      rfl
    rw [h2]; exact ⟨rfl, rfl⟩, fun h0 => absurd (hwt.symm.trans h0) (by decide), fun hs => (by rw [ho] at hs; cases hs), h⟩

/-- A struct or an array, built. -/
theorem lexC_build {t : TypeId} {xs : List (Nat × Operand)} {cs : Array Value} (ho : o.op = .build t xs.toArray) (hb : P.built t (xs.map fun p => (p.1, a.eval p.2)) = some cs)
    (h : lexC P B w0 L S ops Q n l (a.put o.dst (.agg cs))) (hwt : Region.wanted o (yielded ops a.tmps) = true := by rfl) : lexC P B w0 L S ops Q (n + 1) (o :: l) a :=
  lexC_val (fun w => by
    have h1 : (Instr.build t (xs.toArray.map fun p => (p.1, a.eval p.2))).run P w = .ok (.agg cs) w := run_build w t _ cs (by simpa using hb)
    unfold execOp
    simp only [ho]
    rw [Sem.run_bind]
    rw [h1]
    rfl) h hwt (by rw [ho]; rfl)

/-- The address of a field. -/
theorem lexC_field {st : TypeId} {x : Operand} {i g k off : Nat} {fs : Array Field} {f : Field} (ho' : o.op = .fieldAddr st x i) (hx : a.eval x = .pointer (some ⟨g, k, none⟩)) (hu : P.underlying st = some (.struct fs)) (hf : fs[i]? = some f)
    (hs : ∃ s, (P.info? f.type).map (·.size) = some (s + 1)) (ho : k + f.offset = off)
    (h : lexC P B w0 L S ops Q n l (a.put o.dst (.pointer (some ⟨g, off, none⟩)))) (hwt : Region.wanted o (yielded ops a.tmps) = true := by rfl) : lexC P B w0 L S ops Q (n + 1) (o :: l) a :=
  lexC_val (fun w => by
    obtain ⟨s, hs⟩ := hs
    have h0 : (sizeOf f.type).run P w = .ok (s + 1) w := by
      cases hq : P.info? f.type with
      | none => simp [hq] at hs
      | some i =>
        have : i.size = s + 1 := by simpa [hq] using hs
        simp [sizeOf, typeInfo, hq, this, Sem.run_bind]
    have h1 : (Instr.fieldAt st (.pointer (some ⟨g, k, none⟩)) i).run P w = .ok (.pointer (some ⟨g, off, none⟩)) w := by
      unfold Instr.fieldAt
      rw [Sem.run_bind, run_underlying hu w]
      simp [Result.andThen, hf, Instr.sureAddr, fieldPlace, Sem.run_bind, h0, addr_add, ho]
    unfold execOp
    simp only [ho', hx]
    rw [Sem.run_bind, h1]
    rfl) h hwt (by rw [ho']; rfl)

/-- A call. -/
theorem lexC_call {f : FuncId} {xs : List Operand} {ats : Array TypeId} {fn : Func} {c : Code} {ys : List Value} {v : Value} (ho : o.op = .call { callee := .value (.func f), args := xs.toArray, argTypes := ats }) (hf : P.funcs[f]? = some fn) (hname : (fn.name == "runtime.NumGoroutine") = false) (hb : fn.body = some c)
    (hx : xs.map a.eval = ys) (hc : ∀ w, Rws B w0 w L → Calls P f ys.toArray w fun e w' => e = .returned v ∧ Below w.heap.size w w') (h : lexC P B w0 L S ops Q n l (a.put o.dst v)) (hwt : Region.wanted o (yielded ops a.tmps) = true := by rfl) :
    lexC P B w0 L S ops Q (n + 1) (o :: l) a :=
  ⟨v, fun _ _ _ w hw => by
    have h1 : fn.name ≠ "runtime.NumGoroutine" := by simpa using hname
    have e : execOp a.eval o = callFunc f ys.toArray := by
      unfold execOp
      simp only [ho]
      show callFunc f (#[] ++ xs.toArray.map a.eval ++ #[]) = _
      rw [← hx]
      simp
    have h2 : (callFunc f ys.toArray).run P w = .ok (.enter f ys.toArray) w := by simp [callFunc, hf, h1, hb]
    rw [e, h2]
    exact ⟨rfl, hc w hw⟩, fun h0 => absurd (hwt.symm.trans h0) (by decide), fun hs => (by rw [ho] at hs; cases hs), h⟩

theorem afterAl_nil {K : Act → World → Prop} (h : ∀ w', Rws B w0 w' L → K a w') : afterAl P B w0 K [] L a := h

theorem afterAl_cons {K : Act → World → Prop} {t : TypeId} {z : Value} {cs : Array Value} {os : List Oper} (ho : o.op = .alloc t) (hz : ∀ w : World, (zeroValue t).run P w = .ok z w) (hc : z.cells = cs)
    (h : ∀ g, afterAl P B w0 K os ((g, cs, t) :: L) (a.put o.dst (.pointer (some ⟨g, 0, none⟩)))) : afterAl P B w0 K (o :: os) L a := by
  subst hc
  unfold afterAl
  rw [ho]
  exact ⟨z, hz, h⟩

theorem afterAl_skip {K : Act → World → Prop} {os : List Oper} (ho : isAl o.op = false) (h : afterAl P B w0 K os L a) : afterAl P B w0 K (o :: os) L a := by
  unfold afterAl
  split
  · rename_i t ht; rw [ht] at ho; cases ho
  · exact h
end
end Go.Proofs.YtjkjlbchbbpmaaaGreatDoor
