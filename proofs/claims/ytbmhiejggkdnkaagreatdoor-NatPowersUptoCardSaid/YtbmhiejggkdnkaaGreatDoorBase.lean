/- Words for slices of numbers in memory: what reads as a row, what is the call's own row. -/
import Derived.Test.YtbmhiejggkdnkaaGreatDoorRows
import Derived.WalkKit
import Derived.WalkSpells
import Derived.WalkLawsBesides
import Derived.WalkSmall
import Derived.Lib.Hide
import Derived.Laws.CopyOwn
import Derived.Deep.DeepCutAuto
namespace Go.Proofs.YtbmhiejggkdnkaaGreatDoor
open Go.RowKit

/-- The block and the place of a slice's first cell (any, where there is none). -/
def blk (ao : Option Addr) : Nat := (ao.getD ⟨0, 0, none⟩).block
def off (ao : Option Addr) : Nat := (ao.getD ⟨0, 0, none⟩).off
@[go_sem] theorem blk_some (b o : Nat) : blk (some ⟨b, o, none⟩) = b := rfl
@[go_sem] theorem off_some (b o : Nat) : off (some ⟨b, o, none⟩) = o := rfl

/-- A slice's address has no spot; there is one where there is an element. -/
def Sh (ao : Option Addr) (n : Nat) : Prop := ∃ b o, (ao = some ⟨b, o, none⟩ ∨ (ao = none ∧ n = 0))

theorem Sh.some (b o n : Nat) : Sh (some ⟨b, o, none⟩) n := ⟨b, o, Or.inl rfl⟩
theorem Sh.nil : Sh none 0 := ⟨0, 0, Or.inr ⟨rfl, rfl⟩⟩
theorem Sh.mono {ao : Option Addr} {n m : Nat} (h : Sh ao n) (hm : m ≤ n) : Sh ao m := by
  obtain ⟨b, o, h | ⟨h, h0⟩⟩ := h
  · exact ⟨b, o, Or.inl h⟩
  · exact ⟨b, o, Or.inr ⟨h, by omega⟩⟩

/-- An index into a slice whose address is whatever it is. -/
@[go_sem] theorem run_indexAt_sh {P : Program} {w : World} (t : TypeId) (ao : Option Addr) (len cap : Nat) (k : IntKind) (i : Int) (h : P.underlying t = some (.slice (P.elem t))) (hs : Sh ao len) :
    (Instr.indexAt t (.slice ao len cap) (.int k i)).run P w =
      if 0 ≤ i ∧ i < len then ((sizeOf (P.elem t)).run P w).andThen fun s w => .ok (.pointer (some ⟨blk ao, off ao + i.toNat * s, none⟩)) w
      else (boundsPanic k i len .index).run P w := by
  obtain ⟨b, o, rfl | ⟨rfl, rfl⟩⟩ := hs
  · rw [run_indexAt_slice (h := h)]
    simp [Addr.add_lit, blk_some, off_some]
  · rw [if_neg (by omega)]
    simp [Instr.indexAt, run_underlying h, asIntOf]

/-- The row of n cells at ao reads as f. -/
structure Rd (w : World) (k : IntKind) (ao : Option Addr) (n cap : Nat) (f : Nat → Nat) : Prop where
  sh : Sh ao n
  le : n ≤ cap
  cm : cap ≤ 9223372036854775807
  cell : ∀ j, j < n → w.cell? ⟨blk ao, off ao + j, none⟩ = some (.int k (f j : Nat))

theorem Rd.lt {w : World} {k : IntKind} {ao : Option Addr} {n cap : Nat} {f : Nat → Nat} (h : Rd w k ao n cap f) {j : Nat} (hj : j < n) : blk ao < w.heap.size :=
  World.block_lt_of_cell? w ⟨blk ao, off ao + j, none⟩ (h.cell j hj)

theorem Rd.below {w w' : World} {B : Nat} {k : IntKind} {ao : Option Addr} {n cap : Nat} {f : Nat → Nat} (h : Rd w k ao n cap f) (hb : Below B w w') (hB : w.heap.size ≤ B) : Rd w' k ao n cap f :=
  ⟨h.sh, h.le, h.cm, fun j hj => (hb.cell (p := ⟨blk ao, off ao + j, none⟩) (Nat.lt_of_lt_of_le (h.lt hj) hB)).trans (h.cell j hj)⟩

theorem Rd.take {w : World} {k : IntKind} {ao : Option Addr} {n cap : Nat} {f : Nat → Nat} (h : Rd w k ao n cap f) {m : Nat} (hm : m ≤ n) : Rd w k ao m cap f :=
  ⟨h.sh.mono hm, Nat.le_trans hm h.le, h.cm, fun j hj => h.cell j (Nat.lt_of_lt_of_le hj hm)⟩

theorem Rd.congr {w : World} {k : IntKind} {ao : Option Addr} {n cap : Nat} {f g : Nat → Nat} (h : Rd w k ao n cap f) (he : ∀ j, j < n → f j = g j) : Rd w k ao n cap g :=
  ⟨h.sh, h.le, h.cm, fun j hj => by rw [h.cell j hj, he j hj]⟩

theorem Rd.nil (w : World) (k : IntKind) (f : Nat → Nat) : Rd w k none 0 0 f := ⟨Sh.nil, Nat.le_refl _, by decide, fun j hj => absurd hj (Nat.not_lt_zero j)⟩

/-- Block g is a row of n cells that read as f, and may be written. -/
def Own (w : World) (k : IntKind) (e g n : Nat) (f : Nat → Nat) : Prop :=
  ∃ cur : Array Value, w.heap[g]? = some (.cells cur e (0, 0)) ∧ cur.size = n ∧ n ≤ 9223372036854775807 ∧ ∀ j, j < n → cur[j]? = some (.int k (f j : Nat))

theorem Own.lt {w : World} {k : IntKind} {e g n : Nat} {f : Nat → Nat} (h : Own w k e g n f) : g < w.heap.size := by
  obtain ⟨cur, hh, _⟩ := h
  exact (Array.getElem?_eq_some_iff.1 hh).1

theorem Own.cell {w : World} {k : IntKind} {e g n : Nat} {f : Nat → Nat} (h : Own w k e g n f) (j : Nat) (hj : j < n) : w.cell? ⟨g, j, none⟩ = some (.int k (f j : Nat)) := by
  obtain ⟨cur, hh, _, _, hc⟩ := h
  simp [World.cell?, hh, hc j hj]

theorem Own.frozen {w : World} {k : IntKind} {e g n : Nat} {f : Nat → Nat} (h : Own w k e g n f) (j : Nat) : w.frozen? ⟨g, j, none⟩ = false := by
  obtain ⟨cur, hh, _⟩ := h
  simp [World.frozen?, hh]

theorem Own.set {w : World} {k : IntKind} {e g n : Nat} {f : Nat → Nat} (h : Own w k e g n f) (j : Nat) (x : Nat) : Own (w.setCell ⟨g, j, none⟩ (.int k (x : Nat))) k e g n (fun i => if i = j then x else f i) := by
  obtain ⟨cur, hh, hs, hm, hc⟩ := h
  refine ⟨cur.setIfInBounds j (.int k (x : Nat)), heap_setCell_same w g j cur e _ hh, by simpa using hs, hm, fun i hi => ?_⟩
  by_cases e : j = i
  · subst e
    simp [hs, hi]
  · have e' : ¬ i = j := fun h => e h.symm
    rw [Array.getElem?_setIfInBounds, if_neg e, hc i hi]
    simp [e']

theorem Own.congr {w : World} {k : IntKind} {e g n : Nat} {f f' : Nat → Nat} (h : Own w k e g n f) (he : ∀ j, j < n → f j = f' j) : Own w k e g n f' := by
  obtain ⟨cur, hh, hs, hm, hc⟩ := h
  exact ⟨cur, hh, hs, hm, fun j hj => by rw [hc j hj, he j hj]⟩

theorem Own.block {w w' : World} {k : IntKind} {e g n : Nat} {f : Nat → Nat} (h : Own w k e g n f) (hb : w'.heap[g]? = w.heap[g]?) : Own w' k e g n f := by
  obtain ⟨cur, hh, r⟩ := h
  exact ⟨cur, by rw [hb]; exact hh, r⟩

theorem Own.below {w w' : World} {B : Nat} {k : IntKind} {e g n : Nat} {f : Nat → Nat} (h : Own w k e g n f) (hb : Below B w w') (hB : w.heap.size ≤ B) : Own w' k e g n f :=
  h.block (hb.block g (Nat.lt_of_lt_of_le h.lt hB))

theorem Own.drewN {w : World} {k : IntKind} {e g n : Nat} {f : Nat → Nat} (h : Own w k e g n f) (q : Nat) : Own (w.drewN q) k e g n f := h
theorem Rd.drewN {w : World} {k : IntKind} {ao : Option Addr} {n cap : Nat} {f : Nat → Nat} (h : Rd w k ao n cap f) (q : Nat) : Rd (w.drewN q) k ao n cap f := ⟨h.sh, h.le, h.cm, fun j hj => h.cell j hj⟩

/-- The own row as a slice that reads. -/
theorem Own.rd {w : World} {k : IntKind} {e g n : Nat} {f : Nat → Nat} (h : Own w k e g n f) : Rd w k (some ⟨g, 0, none⟩) n n f :=
  ⟨Sh.some _ _ _, Nat.le_refl _, by obtain ⟨_, _, _, hm, _⟩ := h; exact hm, fun j hj => by have := h.cell j hj; simpa [blk_some, off_some] using this⟩

/-- What 'make([]T, n)' lays is an own row of zeros. -/
theorem Own.made {w w' : World} {k : IntKind} {e n : Nat} (h : w'.ownsRow w.heap.size e 1 (.slice (some ⟨w.heap.size, 0, none⟩) n n) n (madeCells #[.int k 0] (n * 1)).toList) : Own w' k e w.heap.size n (fun _ => 0) := by
  obtain ⟨h1, ⟨h2, _⟩ | ⟨g, cap, cur, hv, hg, hh, hnc, hcm, hcs, ht⟩⟩ := h
  · simp at h2
  · simp only [Value.slice.injEq, Option.some.injEq, Addr.mk.injEq, and_true, true_and] at hv
    obtain ⟨rfl, rfl⟩ := hv
    refine ⟨cur, hh, by omega, by simpa [maxLen] using hcm, fun j hj => ?_⟩
    have hj' : j < n * 1 := by omega
    have e1 : cur.toList[j]? = (madeCells #[.int k 0] (n * 1)).toList[j]? := by
      rw [← ht, List.getElem?_take, if_pos hj']
    rw [← Array.getElem?_toList, e1, toList_madeCells_one, List.getElem?_replicate, if_pos hj']
    rfl

/-- 'make([]T, n)' at a type of integers: an own row of zeros, in a block of its own. -/
theorem wpList_make_row {P : Program} (w : World) {ops : Array Oper} {rest : List Oper} {o : Oper} {a : Act} {Q : Exit → Act → World → Prop}
    (hg : o.guard = none) (l c : Operand) (t : TypeId) (hop : o.op = Op.makeSlice t l c) (e : TypeId) (k : IntKind) (bytes : Nat) (h1 : P.underlying t = some (.slice e))
    (h2 : (P.info? e).map (fun i => (i.zero, i.size, i.bytes)) = some (some (.int k 0), 1, bytes))
    (kl kc : IntKind) (L C : Int) (n : Nat) (hl : a.eval l = .int kl L) (hc : a.eval c = .int kc C) (hL : L = (n : Int)) (hC : C = (n : Int)) (b2 : bytes * n ≤ 281474976710656) (b3 : n ≤ 9223372036854775807)
    (hK : ∀ (g : Nat) (w' : World), w.heap.size ≤ g → Own w' k e g n (fun _ => 0) → Below w.heap.size w w' → wpList P ops Q rest (a.put o.dst (.slice (some ⟨g, 0, none⟩) n n)) w') :
    wpList P ops Q (o :: rest) a w := by
  obtain ⟨i, hi, hz0, hz1, hz2⟩ := info_parts h2
  refine wpList_make_full w hg l c t hop w.heap.size e i (.int k 0) 1 h1 hi hz0 hz1 kl kc L C n hl hc hL hC (by rw [hz2]; exact b2) (by simpa [maxLen] using b3) (Nat.le_refl _) fun w' hown hgr => ?_
  exact hK _ w' (Nat.le_refl _) (Own.made hown) ((Below.refl _ _).grown hgr (Nat.le_refl _) (by simp))

theorem splice_getElem? {α : Type} (L cs : List α) (j : Nat) : (splice L 0 cs)[j]? = if j < cs.length then cs[j]? else L[j]? := by
  unfold splice
  simp only [List.take_zero, List.nil_append, Nat.zero_add, List.getElem?_append, List.getElem?_drop]
  split
  · rfl
  · congr 1; omega

/-- 'copy(out, a)': a row laid over the beginning of an own one. -/
theorem wpList_copy_row {P : Program} (w : World) {ops : Array Oper} {rest : List Oper} {o : Oper} {a : Act} {Q : Exit → Act → World → Prop} (hgd : o.guard = none) (d s : Operand) (dT sT : TypeId)
    (ho : o.op = .call { callee := .builtin .copy, args := #[d, s], argTypes := #[dT, sT] }) (e : TypeId) (hu : P.underlying dT = some (.slice e)) (hsz : (P.info? e).map (·.size) = some 1)
    (k : IntKind) (g n cap : Nat) (f : Nat → Nat) (ao : Option Addr) (m c : Nat) (h : Nat → Nat) (hd : a.eval d = .slice (some ⟨g, 0, none⟩) n cap) (hs : a.eval s = .slice ao m c)
    (hown : Own w k e g n f) (hr : Rd w k ao m c h) (hmn : m ≤ n) (B : Nat) (w0 : World) (hb : Below B w0 w) (hBg : B ≤ g)
    (hK : ∀ w', Own w' k e g n (fun j => if j < m then h j else f j) → Below B w0 w' → wpList P ops Q rest (a.put o.dst (.int .i64 m)) w') :
    wpList P ops Q (o :: rest) a w := by
  obtain ⟨cur, hh, hcs, hm, hc⟩ := hown
  obtain ⟨cs, hcsd⟩ : ∃ cs : List Value, cs = (List.range m).map fun j => Value.int k (h j : Nat) := ⟨_, rfl⟩
  have hlen : cs.length = m := by rw [hcsd]; simp
  have hcj : ∀ j v, cs[j]? = some v → j < m ∧ v = .int k (h j : Nat) := by
    intro j v hv
    rw [hcsd, List.getElem?_map] at hv
    by_cases hj : j < m
    · rw [List.getElem?_range hj] at hv
      exact ⟨hj, by simpa using hv.symm⟩
    · rw [List.getElem?_eq_none (by simpa using hj)] at hv
      simp at hv
  refine wpList_copy_splice hgd d s dT sT ho e hu hsz (some ⟨g, 0, none⟩) ao n cap m c hd hs g 0 cur.toList e (by simpa using hh) cs (by rw [hlen]; exact (Nat.min_eq_left hmn).symm)
    (fun hp => ⟨rfl, ?_⟩) (by simp [hlen, hcs]; omega) (fun v hv => ?_) B w0 hb hBg fun w' hh' hb' => ?_
  · have hp' : 0 < m := by omega
    obtain ⟨b', o', rfl | ⟨_, h0⟩⟩ := hr.sh
    · refine ⟨_, rfl, fun j v hv => ?_⟩
      obtain ⟨hj, rfl⟩ := hcj j v hv
      rw [Addr.add_lit]
      exact hr.cell j hj
    · omega
  · obtain ⟨j, hj⟩ := List.getElem?_of_mem hv
    obtain ⟨_, rfl⟩ := hcj j v hj
    rfl
  · have hget : ∀ j, j < n → (splice cur.toList 0 cs)[j]? = some (.int k ((if j < m then h j else f j : Nat) : Int)) := by
      intro j hj
      rw [splice_getElem?, hlen]
      by_cases hjm : j < m
      · rw [if_pos hjm, if_pos hjm, hcsd, List.getElem?_map, List.getElem?_range hjm]; rfl
      · rw [if_neg hjm, if_neg hjm, Array.getElem?_toList]; exact hc j hj
    rw [hlen]
    refine hK w' ⟨_, hh'.out, ?_, hm, fun j hj => ?_⟩ hb'
    · simp only [List.size_toArray]
      rw [length_splice _ _ _ (by simp [hlen, hcs]; omega)]
      simpa using hcs
    · simpa using hget j hj

/-- Below, in facts that the walk uses. -/
theorem bcell {B : Nat} {W w1 : World} (hb : Below B W w1) : (∀ b o, b < B → w1.cell? ⟨b, o, none⟩ = W.cell? ⟨b, o, none⟩) ∧ (∀ b o, b < B → w1.frozen? ⟨b, o, none⟩ = W.frozen? ⟨b, o, none⟩) :=
  ⟨fun b o h => hb.cell (p := ⟨b, o, none⟩) h, fun b o h => hb.frozen (p := ⟨b, o, none⟩) h⟩

/-- A slice's length: for a loop's measure. -/
def slLen : Value → Nat | .slice _ n _ => n | _ => 0

theorem drawn2 (w : World) (a b : Nat) : ∃ q, (w.drewN a).drewN b = w.drewN q := ⟨a + b, by simp⟩
theorem drawn3 (w : World) (a b c : Nat) : ∃ q, ((w.drewN a).drewN b).drewN c = w.drewN q := ⟨a + b + c, by simp⟩
theorem bne_cast {a b : Nat} (h : ((a : Int) != (b : Int)) = true) : a ≠ b := by
  have : ¬ (a : Int) = b := by simpa using h
  omega
theorem bne_cast_false {a b : Nat} (h : ((a : Int) != (b : Int)) = false) : a = b := by
  have : (a : Int) = b := by simpa using h
  omega
theorem beq_cast {a b : Nat} (h : ((a : Int) == (b : Int)) = true) : a = b := by
  have : (a : Int) = b := by simpa using h
  omega
theorem beq_cast_false {a b : Nat} (h : ((a : Int) == (b : Int)) = false) : a ≠ b := by
  have : ¬ (a : Int) = b := by simpa using h
  omega

theorem ret_bool {a b : Bool} (h : a = b) : Ending.returned (.bool a) = .returned (.bool b) := by rw [h]
theorem beq_one (n : Nat) : ((n : Int) == 1) = decide (n = 1) := by
  by_cases h : n = 1
  · subst h; rfl
  · have : ¬ (n : Int) = 1 := by omega
    simp [h, this]
theorem ret2_int {k l : IntKind} {a b c d : Int} (h1 : a = b) (h2 : c = d) : Ending.returned (.tuple #[.int k a, .int l c]) = .returned (.tuple #[.int k b, .int l d]) := by rw [h1, h2]
theorem ret_slice {ao : Option Addr} {n m c d : Nat} (h : n = m) (h2 : c = d) : Ending.returned (.slice ao n c) = .returned (.slice ao m d) := by rw [h, h2]
theorem ret_int {k : IntKind} {a b : Int} (h : a = b) : Ending.returned (.int k a) = .returned (.int k b) := by rw [h]

end Go.Proofs.YtbmhiejggkdnkaaGreatDoor
