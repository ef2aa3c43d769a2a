/- The document's numbers, ostiaryref03.Of and Form: the walks (gen_zr3.py). -/
import Derived.Test.YtebhiplcoioenaaGreatDoorRows
import Derived.WalkKit
import Derived.WalkSpells
import Derived.WalkLawsBesides
import Derived.WalkSmall
import Derived.Lib.Hide
import Derived.Laws.CopyOwn
import Derived.Deep.DeepCutAuto
import Derived.BigQuiet
import Derived.Deep.QuietTactic
import Derived.Lib.TrimByte
namespace Go.Proofs.YtebhiplcoioenaaGreatDoor.Num
open Go.RowKit


/-- The block and the place of a slice's first cell (any, where there is none). -/
def blk (ao : Option Addr) : Nat := (ao.getD ⟨0, 0, none⟩).block
def off (ao : Option Addr) : Nat := (ao.getD ⟨0, 0, none⟩).off
@[go_sem] theorem blk_some (b o : Nat) : blk (some ⟨b, o, none⟩) = b := rfl
@[go_sem] theorem off_some (b o : Nat) : off (some ⟨b, o, none⟩) = o := rfl

/-- A slice's address has no spot; there is one where there is an element. -/
def Sh (ao : Option Addr) (n : Nat) : Prop := ∃ b o, (ao = some ⟨b, o, none⟩ ∨ (ao = none ∧ n = 0))

theorem Sh.some (b o n : Nat) : Sh (some ⟨b, o, none⟩) n := ⟨b, o, Or.inl rfl⟩
theorem Sh.nil : Sh none 0 := ⟨0, 0, Or.inr ⟨rfl, rfl⟩⟩
theorem Sh.mono {ao : Option Addr} {n m : Nat} (h : Sh ao n) (hm : m ≤ n) : Sh ao m := by
  obtain ⟨b, o, h | ⟨h, h0⟩⟩ := h
  · exact ⟨b, o, Or.inl h⟩
  · exact ⟨b, o, Or.inr ⟨h, by omega⟩⟩

/-- An index into a slice whose address is whatever it is. -/
@[go_sem] theorem run_indexAt_sh {P : Program} {w : World} (t : TypeId) (ao : Option Addr) (len cap : Nat) (k : IntKind) (i : Int) (h : P.underlying t = some (.slice (P.elem t))) (hs : Sh ao len) :
    (Instr.indexAt t (.slice ao len cap) (.int k i)).run P w =
      if 0 ≤ i ∧ i < len then ((sizeOf (P.elem t)).run P w).andThen fun s w => .ok (.pointer (some ⟨blk ao, off ao + i.toNat * s, none⟩)) w
      else (boundsPanic k i len .index).run P w := by
  obtain ⟨b, o, rfl | ⟨rfl, rfl⟩⟩ := hs
  · rw [run_indexAt_slice (h := h)]
    simp [Addr.add_lit, blk_some, off_some]
  · rw [if_neg (by omega)]
    simp [Instr.indexAt, run_underlying h, asIntOf]

/-- The row of n cells at ao reads as f. -/
structure Rd (w : World) (k : IntKind) (ao : Option Addr) (n cap : Nat) (f : Nat → Nat) : Prop where
  sh : Sh ao n
  le : n ≤ cap
  cm : cap ≤ 9223372036854775807
  cell : ∀ j, j < n → w.cell? ⟨blk ao, off ao + j, none⟩ = some (.int k (f j : Nat))

theorem Rd.lt {w : World} {k : IntKind} {ao : Option Addr} {n cap : Nat} {f : Nat → Nat} (h : Rd w k ao n cap f) {j : Nat} (hj : j < n) : blk ao < w.heap.size :=
  World.block_lt_of_cell? w ⟨blk ao, off ao + j, none⟩ (h.cell j hj)

theorem Rd.below {w w' : World} {B : Nat} {k : IntKind} {ao : Option Addr} {n cap : Nat} {f : Nat → Nat} (h : Rd w k ao n cap f) (hb : Below B w w') (hB : w.heap.size ≤ B) : Rd w' k ao n cap f :=
  ⟨h.sh, h.le, h.cm, fun j hj => (hb.cell (p := ⟨blk ao, off ao + j, none⟩) (Nat.lt_of_lt_of_le (h.lt hj) hB)).trans (h.cell j hj)⟩

theorem Rd.take {w : World} {k : IntKind} {ao : Option Addr} {n cap : Nat} {f : Nat → Nat} (h : Rd w k ao n cap f) {m : Nat} (hm : m ≤ n) : Rd w k ao m cap f :=
  ⟨h.sh.mono hm, Nat.le_trans hm h.le, h.cm, fun j hj => h.cell j (Nat.lt_of_lt_of_le hj hm)⟩

theorem Rd.congr {w : World} {k : IntKind} {ao : Option Addr} {n cap : Nat} {f g : Nat → Nat} (h : Rd w k ao n cap f) (he : ∀ j, j < n → f j = g j) : Rd w k ao n cap g :=
  ⟨h.sh, h.le, h.cm, fun j hj => by rw [h.cell j hj, he j hj]⟩

theorem Rd.nil (w : World) (k : IntKind) (f : Nat → Nat) : Rd w k none 0 0 f := ⟨Sh.nil, Nat.le_refl _, by decide, fun j hj => absurd hj (Nat.not_lt_zero j)⟩

/-- Block g is a row of n cells that read as f, and may be written. -/
def Own (w : World) (k : IntKind) (e g n : Nat) (f : Nat → Nat) : Prop :=
  ∃ cur : Array Value, w.heap[g]? = some (.cells cur e (0, 0)) ∧ cur.size = n ∧ n ≤ 9223372036854775807 ∧ ∀ j, j < n → cur[j]? = some (.int k (f j : Nat))

theorem Own.lt {w : World} {k : IntKind} {e g n : Nat} {f : Nat → Nat} (h : Own w k e g n f) : g < w.heap.size := by
  obtain ⟨cur, hh, _⟩ := h
  exact (Array.getElem?_eq_some_iff.1 hh).1

theorem Own.cell {w : World} {k : IntKind} {e g n : Nat} {f : Nat → Nat} (h : Own w k e g n f) (j : Nat) (hj : j < n) : w.cell? ⟨g, j, none⟩ = some (.int k (f j : Nat)) := by
  obtain ⟨cur, hh, _, _, hc⟩ := h
  simp [World.cell?, hh, hc j hj]

theorem Own.frozen {w : World} {k : IntKind} {e g n : Nat} {f : Nat → Nat} (h : Own w k e g n f) (j : Nat) : w.frozen? ⟨g, j, none⟩ = false := by
  obtain ⟨cur, hh, _⟩ := h
  simp [World.frozen?, hh]

theorem Own.set {w : World} {k : IntKind} {e g n : Nat} {f : Nat → Nat} (h : Own w k e g n f) (j : Nat) (x : Nat) : Own (w.setCell ⟨g, j, none⟩ (.int k (x : Nat))) k e g n (fun i => if i = j then x else f i) := by
  obtain ⟨cur, hh, hs, hm, hc⟩ := h
  refine ⟨cur.setIfInBounds j (.int k (x : Nat)), heap_setCell_same w g j cur e _ hh, by simpa using hs, hm, fun i hi => ?_⟩
  by_cases e : j = i
  · subst e
    simp [hs, hi]
  · have e' : ¬ i = j := fun h => e h.symm
    rw [Array.getElem?_setIfInBounds, if_neg e, hc i hi]
    simp [e']

theorem Own.congr {w : World} {k : IntKind} {e g n : Nat} {f f' : Nat → Nat} (h : Own w k e g n f) (he : ∀ j, j < n → f j = f' j) : Own w k e g n f' := by
  obtain ⟨cur, hh, hs, hm, hc⟩ := h
  exact ⟨cur, hh, hs, hm, fun j hj => by rw [hc j hj, he j hj]⟩

theorem Own.block {w w' : World} {k : IntKind} {e g n : Nat} {f : Nat → Nat} (h : Own w k e g n f) (hb : w'.heap[g]? = w.heap[g]?) : Own w' k e g n f := by
  obtain ⟨cur, hh, r⟩ := h
  exact ⟨cur, by rw [hb]; exact hh, r⟩

theorem Own.below {w w' : World} {B : Nat} {k : IntKind} {e g n : Nat} {f : Nat → Nat} (h : Own w k e g n f) (hb : Below B w w') (hB : w.heap.size ≤ B) : Own w' k e g n f :=
  h.block (hb.block g (Nat.lt_of_lt_of_le h.lt hB))

theorem Own.drewN {w : World} {k : IntKind} {e g n : Nat} {f : Nat → Nat} (h : Own w k e g n f) (q : Nat) : Own (w.drewN q) k e g n f := h
theorem Rd.drewN {w : World} {k : IntKind} {ao : Option Addr} {n cap : Nat} {f : Nat → Nat} (h : Rd w k ao n cap f) (q : Nat) : Rd (w.drewN q) k ao n cap f := ⟨h.sh, h.le, h.cm, fun j hj => h.cell j hj⟩

/-- The own row as a slice that reads. -/
theorem Own.rd {w : World} {k : IntKind} {e g n : Nat} {f : Nat → Nat} (h : Own w k e g n f) : Rd w k (some ⟨g, 0, none⟩) n n f :=
  ⟨Sh.some _ _ _, Nat.le_refl _, by obtain ⟨_, _, _, hm, _⟩ := h; exact hm, fun j hj => by have := h.cell j hj; simpa [blk_some, off_some] using this⟩

/-- What 'make([]T, n)' lays is an own row of zeros. -/
theorem Own.made {w w' : World} {k : IntKind} {e n : Nat} (h : w'.ownsRow w.heap.size e 1 (.slice (some ⟨w.heap.size, 0, none⟩) n n) n (madeCells #[.int k 0] (n * 1)).toList) : Own w' k e w.heap.size n (fun _ => 0) := by
  obtain ⟨h1, ⟨h2, _⟩ | ⟨g, cap, cur, hv, hg, hh, hnc, hcm, hcs, ht⟩⟩ := h
  · simp at h2
  · simp only [Value.slice.injEq, Option.some.injEq, Addr.mk.injEq, and_true, true_and] at hv
    obtain ⟨rfl, rfl⟩ := hv
    refine ⟨cur, hh, by omega, by simpa [maxLen] using hcm, fun j hj => ?_⟩
    have hj' : j < n * 1 := by omega
    have e1 : cur.toList[j]? = (madeCells #[.int k 0] (n * 1)).toList[j]? := by
      rw [← ht, List.getElem?_take, if_pos hj']
    rw [← Array.getElem?_toList, e1, toList_madeCells_one, List.getElem?_replicate, if_pos hj']
    rfl

/-- 'make([]T, n)' at a type of integers: an own row of zeros, in a block of its own. -/
theorem wpList_make_row {P : Program} (w : World) {ops : Array Oper} {rest : List Oper} {o : Oper} {a : Act} {Q : Exit → Act → World → Prop}
    (hg : o.guard = none) (l c : Operand) (t : TypeId) (hop : o.op = Op.makeSlice t l c) (e : TypeId) (k : IntKind) (bytes : Nat) (h1 : P.underlying t = some (.slice e))
    (h2 : (P.info? e).map (fun i => (i.zero, i.size, i.bytes)) = some (some (.int k 0), 1, bytes))
    (kl kc : IntKind) (L C : Int) (n : Nat) (hl : a.eval l = .int kl L) (hc : a.eval c = .int kc C) (hL : L = (n : Int)) (hC : C = (n : Int)) (b2 : bytes * n ≤ 281474976710656) (b3 : n ≤ 9223372036854775807)
    (hK : ∀ (g : Nat) (w' : World), w.heap.size ≤ g → Own w' k e g n (fun _ => 0) → Below w.heap.size w w' → wpList P ops Q rest (a.put o.dst (.slice (some ⟨g, 0, none⟩) n n)) w') :
    wpList P ops Q (o :: rest) a w := by
  obtain ⟨i, hi, hz0, hz1, hz2⟩ := info_parts h2
  refine wpList_make_full w hg l c t hop w.heap.size e i (.int k 0) 1 h1 hi hz0 hz1 kl kc L C n hl hc hL hC (by rw [hz2]; exact b2) (by simpa [maxLen] using b3) (Nat.le_refl _) fun w' hown hgr => ?_
  exact hK _ w' (Nat.le_refl _) (Own.made hown) ((Below.refl _ _).grown hgr (Nat.le_refl _) (by simp))

theorem splice_getElem? {α : Type} (L cs : List α) (j : Nat) : (splice L 0 cs)[j]? = if j < cs.length then cs[j]? else L[j]? := by
  unfold splice
  simp only [List.take_zero, List.nil_append, Nat.zero_add, List.getElem?_append, List.getElem?_drop]
  split
  · rfl
  · congr 1; omega

/-- 'copy(out, a)': a row laid over the beginning of an own one. -/
theorem wpList_copy_row {P : Program} (w : World) {ops : Array Oper} {rest : List Oper} {o : Oper} {a : Act} {Q : Exit → Act → World → Prop} (hgd : o.guard = none) (d s : Operand) (dT sT : TypeId)
    (ho : o.op = .call { callee := .builtin .copy, args := #[d, s], argTypes := #[dT, sT] }) (e : TypeId) (hu : P.underlying dT = some (.slice e)) (hsz : (P.info? e).map (·.size) = some 1)
    (k : IntKind) (g n cap : Nat) (f : Nat → Nat) (ao : Option Addr) (m c : Nat) (h : Nat → Nat) (hd : a.eval d = .slice (some ⟨g, 0, none⟩) n cap) (hs : a.eval s = .slice ao m c)
    (hown : Own w k e g n f) (hr : Rd w k ao m c h) (hmn : m ≤ n) (B : Nat) (w0 : World) (hb : Below B w0 w) (hBg : B ≤ g)
    (hK : ∀ w', Own w' k e g n (fun j => if j < m then h j else f j) → Below B w0 w' → wpList P ops Q rest (a.put o.dst (.int .i64 m)) w') :
    wpList P ops Q (o :: rest) a w := by
  obtain ⟨cur, hh, hcs, hm, hc⟩ := hown
  obtain ⟨cs, hcsd⟩ : ∃ cs : List Value, cs = (List.range m).map fun j => Value.int k (h j : Nat) := ⟨_, rfl⟩
  have hlen : cs.length = m := by rw [hcsd]; simp
  have hcj : ∀ j v, cs[j]? = some v → j < m ∧ v = .int k (h j : Nat) := by
    intro j v hv
    rw [hcsd, List.getElem?_map] at hv
    by_cases hj : j < m
    · rw [List.getElem?_range hj] at hv
      exact ⟨hj, by simpa using hv.symm⟩
    · rw [List.getElem?_eq_none (by simpa using hj)] at hv
      simp at hv
  refine wpList_copy_splice hgd d s dT sT ho e hu hsz (some ⟨g, 0, none⟩) ao n cap m c hd hs g 0 cur.toList e (by simpa using hh) cs (by rw [hlen]; exact (Nat.min_eq_left hmn).symm)
    (fun hp => ⟨rfl, ?_⟩) (by simp [hlen, hcs]; omega) (fun v hv => ?_) B w0 hb hBg fun w' hh' hb' => ?_
  · have hp' : 0 < m := by omega
    obtain ⟨b', o', rfl | ⟨_, h0⟩⟩ := hr.sh
    · refine ⟨_, rfl, fun j v hv => ?_⟩
      obtain ⟨hj, rfl⟩ := hcj j v hv
      rw [Addr.add_lit]
      exact hr.cell j hj
    · omega
  · obtain ⟨j, hj⟩ := List.getElem?_of_mem hv
    obtain ⟨_, rfl⟩ := hcj j v hj
    rfl
  · have hget : ∀ j, j < n → (splice cur.toList 0 cs)[j]? = some (.int k ((if j < m then h j else f j : Nat) : Int)) := by
      intro j hj
      rw [splice_getElem?, hlen]
      by_cases hjm : j < m
      · rw [if_pos hjm, if_pos hjm, hcsd, List.getElem?_map, List.getElem?_range hjm]; rfl
      · rw [if_neg hjm, if_neg hjm, Array.getElem?_toList]; exact hc j hj
    rw [hlen]
    refine hK w' ⟨_, hh'.out, ?_, hm, fun j hj => ?_⟩ hb'
    · simp only [List.size_toArray]
      rw [length_splice _ _ _ (by simp [hlen, hcs]; omega)]
      simpa using hcs
    · simpa using hget j hj

/-- Below, in facts that the walk uses. -/
theorem bcell {B : Nat} {W w1 : World} (hb : Below B W w1) : (∀ b o, b < B → w1.cell? ⟨b, o, none⟩ = W.cell? ⟨b, o, none⟩) ∧ (∀ b o, b < B → w1.frozen? ⟨b, o, none⟩ = W.frozen? ⟨b, o, none⟩) :=
  ⟨fun b o h => hb.cell (p := ⟨b, o, none⟩) h, fun b o h => hb.frozen (p := ⟨b, o, none⟩) h⟩

/-- A slice's length: for a loop's measure. -/
def slLen : Value → Nat | .slice _ n _ => n | _ => 0

theorem drawn2 (w : World) (a b : Nat) : ∃ q, (w.drewN a).drewN b = w.drewN q := ⟨a + b, by simp⟩
theorem drawn3 (w : World) (a b c : Nat) : ∃ q, ((w.drewN a).drewN b).drewN c = w.drewN q := ⟨a + b + c, by simp⟩
theorem bne_cast {a b : Nat} (h : ((a : Int) != (b : Int)) = true) : a ≠ b := by
  have : ¬ (a : Int) = b := by simpa using h
  omega
theorem bne_cast_false {a b : Nat} (h : ((a : Int) != (b : Int)) = false) : a = b := by
  have : (a : Int) = b := by simpa using h
  omega
theorem beq_cast {a b : Nat} (h : ((a : Int) == (b : Int)) = true) : a = b := by
  have : (a : Int) = b := by simpa using h
  omega
theorem beq_cast_false {a b : Nat} (h : ((a : Int) == (b : Int)) = false) : a ≠ b := by
  have : ¬ (a : Int) = b := by simpa using h
  omega

theorem ret_bool {a b : Bool} (h : a = b) : Ending.returned (.bool a) = .returned (.bool b) := by rw [h]
theorem beq_one (n : Nat) : ((n : Int) == 1) = decide (n = 1) := by
  by_cases h : n = 1
  · subst h; rfl
  · have : ¬ (n : Int) = 1 := by omega
    simp [h, this]
theorem ret2_int {k l : IntKind} {a b c d : Int} (h1 : a = b) (h2 : c = d) : Ending.returned (.tuple #[.int k a, .int l c]) = .returned (.tuple #[.int k b, .int l d]) := by rw [h1, h2]
theorem ret_slice {ao : Option Addr} {n m c d : Nat} (h : n = m) (h2 : c = d) : Ending.returned (.slice ao n c) = .returned (.slice ao m d) := by rw [h, h2]
theorem ret_int {k : IntKind} {a b : Int} (h : a = b) : Ending.returned (.int k a) = .returned (.int k b) := by rw [h]

/-- How many digits are left without the noughts above. -/
def tl (f : Nat → Nat) : Nat → Nat
  | 0 => 0
  | n + 1 => if f n = 0 then tl f n else n + 1

theorem tl_le (f : Nat → Nat) : ∀ n, tl f n ≤ n
  | 0 => Nat.le_refl _
  | n + 1 => by
    unfold tl; split
    · have := tl_le f n; omega
    · omega

/-- A callee that leaves the world alone, in a region that only reads. -/
theorem quiet_same {P : Program} {f : FuncId} {args : Array Value} {w : World} {n : Nat} {v : Value}
    (h : Calls P f args (w.drewN n) fun e w' => e = .returned v ∧ w.drewN n = w') : Calls P f args (w.drewN n) fun e w'' => e = .returned v ∧ ∃ m, w'' = w.drewN m :=
  h.mono fun _ _ ⟨he, hm⟩ => ⟨he, n, hm.symm⟩
theorem quiet_drawn {P : Program} {f : FuncId} {args : Array Value} {w : World} {n : Nat} {v : Value}
    (h : Calls P f args (w.drewN n) fun e w' => e = .returned v ∧ ∃ q, w' = (w.drewN n).drewN q) : Calls P f args (w.drewN n) fun e w'' => e = .returned v ∧ ∃ m, w'' = w.drewN m :=
  Calls.quiet_of h

namespace Dg


/-- The j-th digit of v to the base B. -/
def dg (B v j : Nat) : Nat := v / B ^ j % B

theorem dg_lt {B : Nat} (hB : 0 < B) (v j : Nat) : dg B v j < B := Nat.mod_lt _ hB

theorem mod_succ (B v i : Nat) : v % B ^ (i + 1) = v % B ^ i + B ^ i * dg B v i := by
  unfold dg
  rw [Nat.pow_succ, Nat.mod_mul]

theorem dg_zero (B j : Nat) : dg B 0 j = 0 := by simp [dg]

/-- Beyond a bound all digits are 0. -/
theorem dg_of_lt {B v i : Nat} (h : v < B ^ i) : dg B v i = 0 := by
  unfold dg; rw [Nat.div_eq_of_lt h]; exact Nat.zero_mod _

theorem dg_of_lt_le {B v i j : Nat} (hB : 0 < B) (h : v < B ^ i) (hj : i ≤ j) : dg B v j = 0 :=
  dg_of_lt (Nat.lt_of_lt_of_le h (Nat.pow_le_pow_right hB hj))

/-- Two numbers below a power with the same digits are the same. -/
theorem ext {B v u : Nat} (n : Nat) (hv : v < B ^ n) (hu : u < B ^ n) (h : ∀ j, j < n → dg B v j = dg B u j) : v = u := by
  have key : ∀ i, i ≤ n → v % B ^ i = u % B ^ i := by
    intro i
    induction i with
    | zero => intro _; simp [Nat.mod_one]
    | succ i ih => intro hi; rw [mod_succ, mod_succ, ih (by omega), h i (by omega)]
  have := key n (Nat.le_refl n)
  rwa [Nat.mod_eq_of_lt hv, Nat.mod_eq_of_lt hu] at this

/-- The value of a row of digits, given by a function, of length n. -/
def vf (B : Nat) (f : Nat → Nat) : Nat → Nat
  | 0 => 0
  | n + 1 => vf B f n + B ^ n * f n

theorem vf_congr {B : Nat} {f g : Nat → Nat} : ∀ {n : Nat}, (∀ j, j < n → f j = g j) → vf B f n = vf B g n
  | 0, _ => rfl
  | n + 1, h => by
    have hr : ∀ j, j < n → f j = g j := fun j hj => h j (Nat.lt_succ_of_lt hj)
    show vf B f n + B ^ n * f n = vf B g n + B ^ n * g n
    rw [vf_congr hr, h n (Nat.lt_succ_self n)]

theorem vf_lt {B : Nat} {f : Nat → Nat} (hB : 0 < B) : ∀ {n : Nat}, (∀ j, j < n → f j < B) → vf B f n < B ^ n
  | 0, _ => by simp [vf]
  | n + 1, h => by
    have h1 := vf_lt hB (f := f) (n := n) fun j hj => h j (Nat.lt_succ_of_lt hj)
    have h2 := h n (Nat.lt_succ_self n)
    show vf B f n + B ^ n * f n < B ^ (n + 1)
    rw [Nat.pow_succ]
    have : B ^ n * f n ≤ B ^ n * (B - 1) := Nat.mul_le_mul_left _ (by omega)
    have h3 : B ^ n * (B - 1) + B ^ n = B ^ n * B := by
      have : B - 1 + 1 = B := by omega
      rw [← Nat.mul_succ]; congr 1
    omega

theorem vf_dg (B v : Nat) : ∀ n, vf B (dg B v) n = v % B ^ n
  | 0 => by simp [vf, Nat.mod_one]
  | n + 1 => by show vf B (dg B v) n + _ = _; rw [vf_dg B v n, mod_succ]

theorem vf_dg_of_lt {B v n : Nat} (h : v < B ^ n) : vf B (dg B v) n = v := by rw [vf_dg, Nat.mod_eq_of_lt h]

/-- The digits of a row's value are the row's. -/
theorem dg_vf {B : Nat} {f : Nat → Nat} (hB : 0 < B) : ∀ {n : Nat}, (∀ j, j < n → f j < B) → ∀ j, j < n → dg B (vf B f n) j = f j
  | 0, _, j, hj => by omega
  | n + 1, h, j, hj => by
    have hr : ∀ j, j < n → f j < B := fun j hj => h j (Nat.lt_succ_of_lt hj)
    have hlt := vf_lt hB hr
    have hp : 0 < B ^ n := Nat.pow_pos hB
    show dg B (vf B f n + B ^ n * f n) j = f j
    by_cases e : j = n
    · subst e
      unfold dg
      rw [Nat.add_mul_div_left _ _ hp, Nat.div_eq_of_lt hlt, Nat.zero_add, Nat.mod_eq_of_lt (h j (Nat.lt_succ_self j))]
    · have hjn : j < n := by omega
      have ih := dg_vf hB hr j hjn
      rw [← ih]
      unfold dg
      obtain ⟨d, rfl⟩ : ∃ d, n = j + 1 + d := ⟨n - (j + 1), by omega⟩
      have e2 : B ^ (j + 1 + d) * f (j + 1 + d) = B ^ j * (B * (B ^ d * f (j + 1 + d))) := by
        rw [Nat.pow_add, Nat.pow_succ]; simp only [Nat.mul_assoc]
      rw [e2, Nat.add_mul_div_left _ _ (Nat.pow_pos hB), Nat.add_mul_mod_self_left]

/-- How many digits. -/
def len (B : Nat) (v : Nat) : Nat :=
  if h : v = 0 ∨ B < 2 then 0 else len B (v / B) + 1
termination_by v
decreasing_by exact Nat.div_lt_self (by omega) (by omega)

theorem len_zero (B : Nat) : len B 0 = 0 := by rw [len]; simp
theorem len_pos {B v : Nat} (hB : 2 ≤ B) (hv : 0 < v) : len B v = len B (v / B) + 1 := by
  rw [len, dif_neg (by omega)]

theorem lt_pow_len {B : Nat} (hB : 2 ≤ B) (v : Nat) : v < B ^ len B v := by
  induction v using Nat.strongRecOn with
  | _ v ih =>
    by_cases h : v = 0
    · subst h; simp [len_zero]
    · rw [len_pos hB (by omega)]
      have := ih (v / B) (Nat.div_lt_self (by omega) (by omega))
      rw [Nat.pow_succ]
      exact (Nat.div_lt_iff_lt_mul (by omega)).1 this

theorem pow_len_le {B : Nat} (hB : 2 ≤ B) (v : Nat) (hv : 0 < v) : B ^ (len B v - 1) ≤ v := by
  induction v using Nat.strongRecOn with
  | _ v ih =>
    rw [len_pos hB hv, Nat.add_sub_cancel]
    by_cases h : v / B = 0
    · rw [h, len_zero]; show 1 ≤ v; omega
    · have hq : 0 < v / B := Nat.pos_of_ne_zero h
      have h1 := ih (v / B) (Nat.div_lt_self (by omega) (by omega)) hq
      have hl : 0 < len B (v / B) := by rw [len_pos hB hq]; omega
      have e : B ^ len B (v / B) = B ^ (len B (v / B) - 1) * B := by
        rw [← Nat.pow_succ]; congr 1; omega
      rw [e]
      exact (Nat.le_div_iff_mul_le (by omega)).1 h1

theorem len_le_iff {B : Nat} (hB : 2 ≤ B) (v n : Nat) : len B v ≤ n ↔ v < B ^ n := by
  constructor
  · intro h; exact Nat.lt_of_lt_of_le (lt_pow_len hB v) (Nat.pow_le_pow_right (by omega) h)
  · intro h
    by_cases hv : v = 0
    · subst hv; rw [len_zero]; omega
    · have h1 := pow_len_le hB v (by omega)
      have : B ^ (len B v - 1) < B ^ n := Nat.lt_of_le_of_lt h1 h
      have := (Nat.pow_lt_pow_iff_right (by omega : 1 < B)).1 this
      omega

theorem lt_len_iff {B : Nat} (hB : 2 ≤ B) (v n : Nat) : n < len B v ↔ B ^ n ≤ v := by
  have := len_le_iff hB v n
  omega

theorem len_pos_iff {B : Nat} (hB : 2 ≤ B) (v : Nat) : 0 < len B v ↔ 0 < v := by
  rw [lt_len_iff hB]; simp; omega

/-- The highest digit is not 0. -/
theorem dg_top {B : Nat} (hB : 2 ≤ B) {v : Nat} (hv : 0 < v) : 0 < dg B v (len B v - 1) := by
  unfold dg
  have h1 := pow_len_le hB v hv
  have h2 := lt_pow_len hB v
  have hl := (len_pos_iff hB v).2 hv
  have e : B ^ len B v = B ^ (len B v - 1) * B := by rw [← Nat.pow_succ]; congr 1; omega
  have hp : 0 < B ^ (len B v - 1) := Nat.pow_pos (by omega)
  have h3 : v / B ^ (len B v - 1) < B := by
    rw [Nat.div_lt_iff_lt_mul hp, Nat.mul_comm, ← e]; exact h2
  rw [Nat.mod_eq_of_lt h3]
  exact Nat.div_pos h1 hp

/-- A row whose last digit is not 0 has as many digits as its value. -/
theorem len_vf {B : Nat} {f : Nat → Nat} (hB : 2 ≤ B) {n : Nat} (h : ∀ j, j < n → f j < B) (ht : n = 0 ∨ 0 < f (n - 1)) : len B (vf B f n) = n := by
  have h1 := (len_le_iff hB (vf B f n) n).2 (vf_lt (by omega) h)
  by_cases hn : n = 0
  · omega
  · obtain ⟨m, rfl⟩ : ∃ m, n = m + 1 := ⟨n - 1, by omega⟩
    have hf : 0 < f m := by rcases ht with h | h; omega; simpa using h
    have : B ^ m ≤ vf B f (m + 1) := by
      show B ^ m ≤ vf B f m + B ^ m * f m
      exact Nat.le_trans (Nat.le_mul_of_pos_right _ hf) (Nat.le_add_left _ _)
    have := (lt_len_iff hB _ m).2 this
    omega

/-- The length of a number whose n-th digit and all above are 0, and the one before is not. -/
theorem len_unique {B : Nat} (hB : 2 ≤ B) {v n : Nat} (h1 : v < B ^ n) (h2 : n = 0 ∨ 0 < dg B v (n - 1)) : len B v = n := by
  have h := (len_le_iff hB v n).2 h1
  rcases h2 with h2 | h2
  · omega
  · by_cases hn : n = 0
    · omega
    · have : n - 1 < len B v := by
        rcases Nat.lt_or_ge (n - 1) (len B v) with h | h
        · exact h
        · have := dg_of_lt_le (by omega) (lt_pow_len hB v) h
          omega
      omega

theorem len_mono {B : Nat} (hB : 2 ≤ B) {u v : Nat} (h : u ≤ v) : len B u ≤ len B v :=
  (len_le_iff hB u _).2 (Nat.lt_of_le_of_lt h (lt_pow_len hB v))

theorem eq_zero_of_len {B : Nat} (hB : 2 ≤ B) {v : Nat} (h : len B v = 0) : v = 0 := by
  have := len_pos_iff hB v; omega

/-- Taking digits apart: below and above place i. -/
theorem div_add_mod' (B v i : Nat) : v = v % B ^ i + B ^ i * (v / B ^ i) := (Nat.mod_add_div v (B ^ i)).symm

theorem dg_mod {B v i j : Nat} (h : j < i) : dg B (v % B ^ i) j = dg B v j := by
  unfold dg
  obtain ⟨d, rfl⟩ : ∃ d, i = j + (d + 1) := ⟨i - j - 1, by omega⟩
  rw [Nat.pow_add, Nat.mod_mul_right_div_self, Nat.pow_succ, Nat.mul_comm (B ^ d) B, Nat.mod_mul_right_mod]

theorem dg_div (B v i j : Nat) : dg B (v / B ^ i) j = dg B v (i + j) := by
  unfold dg
  rw [Nat.div_div_eq_div_mul, ← Nat.pow_add]

/-- Order by the highest digit that differs. -/
theorem lt_of_dg {B u v n i : Nat} (hB : 0 < B) (hu : u < B ^ n) (hv : v < B ^ n) (hi : i < n) (he : ∀ j, i < j → j < n → dg B u j = dg B v j) (hlt : dg B u i < dg B v i) : u < v := by
  have key : ∀ m, i < m → m ≤ n → u % B ^ m < v % B ^ m := by
    intro m
    induction m with
    | zero => intro h; omega
    | succ m ih =>
      intro h1 h2
      rw [mod_succ, mod_succ]
      by_cases e : m = i
      · subst e
        have h3 : u % B ^ m < B ^ m := Nat.mod_lt _ (Nat.pow_pos hB)
        have h3' : u % B ^ m < B ^ m := h3
        have h5 : v % B ^ m < B ^ m := Nat.mod_lt _ (Nat.pow_pos hB)
        have h4 : B ^ m * dg B u m + B ^ m ≤ B ^ m * dg B v m := by
          rw [← Nat.mul_succ]; exact Nat.mul_le_mul_left _ hlt
        generalize B ^ m * dg B u m = x at *
        generalize B ^ m * dg B v m = y at *
        generalize u % B ^ m = x' at *
        generalize v % B ^ m = y' at *
        omega
      · rw [he m (by omega) (by omega)]
        have := ih (by omega) (by omega)
        omega
  have := key n hi (Nat.le_refl n)
  rwa [Nat.mod_eq_of_lt hu, Nat.mod_eq_of_lt hv] at this

theorem lt_of_len {B u v : Nat} (hB : 2 ≤ B) (h : len B u < len B v) : u < v := by
  rcases Nat.lt_or_ge u v with h1 | h1
  · exact h1
  · have := len_mono hB h1; omega

end Dg
theorem own_set_int {wr : World} {kd : IntKind} {e g n k s : Nat} {v : Int} {f h : Nat → Nat} (hown : Own wr kd e g n f) (hv : v = (s : Nat)) (hs : s = h k) (he : ∀ j, j < n → j ≠ k → f j = h j) :
    Own (wr.setCell ⟨g, k, none⟩ (.int kd v)) kd e g n h := by
  rw [hv]
  refine (hown.set k s).congr fun j hj => ?_
  by_cases h1 : j = k
  · subst h1; simp [hs]
  · simp [h1, he j hj h1]

/-- The number that bytes say, the highest first. -/
def bv (l : List UInt8) : Nat := l.foldl (fun a c => a * 256 + c.toNat) 0

theorem bv_acc (l : List UInt8) : ∀ a : Nat, l.foldl (fun a c => a * 256 + c.toNat) a = a * 256 ^ l.length + bv l := by
  induction l with
  | nil => intro a; simp [bv]
  | cons c l ih =>
    intro a
    show l.foldl _ (a * 256 + c.toNat) = _
    have h : bv (c :: l) = l.foldl (fun a c => a * 256 + c.toNat) (0 * 256 + c.toNat) := rfl
    rw [ih, h, ih, List.length_cons, Nat.pow_succ, Nat.add_mul, Nat.zero_mul, Nat.zero_add, Nat.mul_assoc, Nat.mul_comm 256]
    omega
theorem bv_cons (c : UInt8) (l : List UInt8) : bv (c :: l) = c.toNat * 256 ^ l.length + bv l := by
  show l.foldl (fun a c => a * 256 + c.toNat) (0 * 256 + c.toNat) = _
  rw [bv_acc]; simp
theorem bv_nil : bv [] = 0 := rfl
theorem bv_append (l m : List UInt8) : bv (l ++ m) = bv l * 256 ^ m.length + bv m := by
  unfold bv; rw [List.foldl_append, bv_acc]; rfl
theorem bv_lt (l : List UInt8) : bv l < 256 ^ l.length := by
  induction l with
  | nil => simp [bv_nil]
  | cons c l ih =>
    rw [bv_cons, List.length_cons, Nat.pow_succ]
    have h1 : c.toNat < 256 := c.toNat_lt
    have h2 : c.toNat * 256 ^ l.length + 256 ^ l.length ≤ 256 ^ l.length * 256 := by
      rw [← Nat.succ_mul, Nat.mul_comm]; exact Nat.mul_le_mul_left _ h1
    omega

/-- The number of a string's last i bytes. -/
def tailv (s : ByteArray) (i : Nat) : Nat := bv (s.data.toList.drop (s.size - i))
theorem tailv_zero (s : ByteArray) : tailv s 0 = 0 := by
  unfold tailv; rw [List.drop_eq_nil_of_le (by simp), bv_nil]
theorem tailv_lt (s : ByteArray) (i : Nat) (h : i ≤ s.size) : tailv s i < 256 ^ i := by
  have := bv_lt (s.data.toList.drop (s.size - i))
  rw [List.length_drop] at this
  have e : s.data.toList.length - (s.size - i) = i := by
    have : s.data.toList.length = s.size := by simp
    omega
  rwa [e] at this
theorem tailv_succ (s : ByteArray) (i : Nat) (h : i < s.size) : tailv s (i + 1) = tailv s i + (s[s.size - 1 - i]'(by omega)).toNat * 256 ^ i := by
  unfold tailv
  have hl : s.data.toList.length = s.size := by simp
  rw [List.drop_eq_getElem_cons (i := s.size - (i + 1)) (by omega), bv_cons]
  have e1 : s.size - (i + 1) + 1 = s.size - i := by omega
  have e2 : (s.data.toList.drop (s.size - i)).length = i := by rw [List.length_drop]; omega
  rw [e1, e2, Nat.add_comm]
  have e3 : s.data.toList[s.size - (i + 1)]'(by omega) = s[s.size - 1 - i]'(by omega) := by
    show s.data.toList[s.size - (i + 1)]'(by omega) = s.data[s.size - 1 - i]'(by have : s.data.size = s.size := rfl; omega)
    rw [Array.getElem_toList]
    congr 1
    omega
  rw [e3]
theorem tailv_all (s : ByteArray) : tailv s s.size = bv s.data.toList := by unfold tailv; simp

/-- A number's bytes, the highest first, without noughts ahead. -/
def fm (v : Nat) : List UInt8 := if _h : v = 0 then [] else fm (v / 256) ++ [UInt8.ofNat (v % 256)]
termination_by v
decreasing_by exact Nat.div_lt_self (by omega) (by omega)

theorem fm_zero : fm 0 = [] := by rw [fm]; simp
theorem fm_pos {v : Nat} (h : 0 < v) : fm v = fm (v / 256) ++ [UInt8.ofNat (v % 256)] := by rw [fm, dif_neg (by omega)]

theorem toNat_ofNat8 (n : Nat) (h : n < 256) : (UInt8.ofNat n).toNat = n := by
  simp [UInt8.toNat_ofNat']; omega

theorem bv_fm (v : Nat) : bv (fm v) = v := by
  induction v using Nat.strongRecOn with
  | _ v ih =>
    by_cases h : v = 0
    · subst h; rw [fm_zero, bv_nil]
    · rw [fm_pos (by omega), bv_append, ih (v / 256) (Nat.div_lt_self (by omega) (by omega)), bv_cons, bv_nil, toNat_ofNat8 _ (Nat.mod_lt _ (by omega))]
      simp
      omega

theorem fm_length (v : Nat) : (fm v).length = Dg.len 256 v := by
  induction v using Nat.strongRecOn with
  | _ v ih =>
    by_cases h : v = 0
    · subst h; rw [fm_zero, Dg.len_zero]; rfl
    · rw [fm_pos (by omega), Dg.len_pos (by omega) (by omega), List.length_append, ih (v / 256) (Nat.div_lt_self (by omega) (by omega))]
      rfl

/-- The first byte is not 0. -/
def Lead (l : List UInt8) : Prop := l = [] ∨ l.head? ≠ some 0

theorem bv_pos_of_lead {c : UInt8} {l : List UInt8} (h : c ≠ 0) : 0 < bv (c :: l) := by
  rw [bv_cons]
  have h1 : 0 < c.toNat := by
    rcases Nat.eq_zero_or_pos c.toNat with h2 | h2
    · exact absurd (UInt8.toNat_inj.1 h2) h
    · exact h2
  have : 0 < c.toNat * 256 ^ l.length := Nat.mul_pos h1 (Nat.pow_pos (by omega))
  omega

theorem fm_bv_rev : ∀ m : List UInt8, Lead m.reverse → fm (bv m.reverse) = m.reverse
  | [], _ => by simp [bv_nil, fm_zero]
  | c :: m, h => by
    have e : (c :: m).reverse = m.reverse ++ [c] := by simp
    rw [e] at h ⊢
    have hb : bv (m.reverse ++ [c]) = bv m.reverse * 256 + c.toNat := by rw [bv_append, bv_cons, bv_nil]; simp
    have hc := c.toNat_lt
    have hd : (bv m.reverse * 256 + c.toNat) / 256 = bv m.reverse := by omega
    have hm : (bv m.reverse * 256 + c.toNat) % 256 = c.toNat := by omega
    have hpos : 0 < bv m.reverse * 256 + c.toNat := by
      rw [← hb]
      cases hr : m.reverse with
      | nil =>
        rw [hr] at h
        rcases h with h | h
        · simp at h
        · refine bv_pos_of_lead (l := []) ?_
          intro h2; subst h2; simp at h
      | cons d r =>
        rw [hr] at h
        rcases h with h | h
        · simp at h
        · refine bv_pos_of_lead (l := r ++ [c]) ?_
          intro h2; subst h2; simp at h
    have hlead : Lead m.reverse := by
      cases hr : m.reverse with
      | nil => exact Or.inl rfl
      | cons d r =>
        rw [hr] at h
        rcases h with h | h
        · simp at h
        · right; simpa using h
    rw [hb, fm_pos hpos, hd, hm, fm_bv_rev m hlead]
    congr 2
    exact UInt8.toNat_inj.1 (toNat_ofNat8 _ hc)

theorem fm_bv (l : List UInt8) (h : Lead l) : fm (bv l) = l := by
  have := fm_bv_rev l.reverse (by simpa using h)
  simpa using this

theorem trim_lead (l : List UInt8) : Lead (Lib.trimLeftB l 0) ∧ bv (Lib.trimLeftB l 0) = bv l := by
  unfold Lib.trimLeftB
  induction l with
  | nil => exact ⟨Or.inl rfl, rfl⟩
  | cons c l ih =>
    by_cases h : c = 0
    · subst h
      simp only [List.dropWhile_cons, beq_self_eq_true, if_true]
      exact ⟨ih.1, by rw [ih.2, bv_cons]; simp⟩
    · simp only [List.dropWhile_cons, beq_iff_eq, h, if_false]
      exact ⟨Or.inr (by simpa using h), trivial⟩

/-- What stands behind the noughts is the number's form. -/
theorem trim_fm (l : List UInt8) : Lib.trimLeftB l 0 = fm (bv l) := by
  have h := trim_lead l
  rw [← h.2, fm_bv _ h.1]

theorem fm_lead (v : Nat) : Lead (fm v) := by
  have h := trim_lead (fm v)
  have e := trim_fm (fm v)
  rw [bv_fm] at e
  rw [← e]; exact h.1

theorem fm_inj {a b : Nat} (h : fm a = fm b) : a = b := by rw [← bv_fm a, h, bv_fm]

theorem info8 : (Tryz.prog.info? 5).map (fun i => (i.zero, i.size, i.bytes)) = some (some (.int .u8 0), 1, 1) := by kernel_rfl

/-- The value is a slice of the call's own (blocks from B on) that holds these bytes. -/
def Buf (w : World) (B : Nat) (v : Value) (l : List UInt8) : Prop :=
  w.ownsRow B 5 1 v l.length (l.map fun c => Value.int .u8 (c.toNat : Nat))

theorem Buf.own {w : World} {B : Nat} {v : Value} {l : List UInt8} (h : Buf w B v l) : w.ownsRow B 5 1 v l.length (l.map fun c => Value.int .u8 (c.toNat : Nat)) := h

theorem byte_cells (l : List UInt8) : ∀ u ∈ (l.map fun c => Value.int .u8 (c.toNat : Nat)), u.oneCell' = true := by
  intro u hu
  obtain ⟨c, _, rfl⟩ := List.mem_map.1 hu
  rfl

theorem Buf.below {w w' : World} {B : Nat} {v : Value} {l : List UInt8} (h : Buf w B v l) (hb : Below w.heap.size w w') : Buf w' B v l := by
  obtain ⟨h1, h2⟩ := h
  refine ⟨h1, ?_⟩
  rcases h2 with h2 | ⟨g, cap, cur, hv, hg, hh, r⟩
  · exact Or.inl h2
  · exact Or.inr ⟨g, cap, cur, hv, hg, by rw [hb.block g (by have := (Array.getElem?_eq_some_iff.1 hh).1; omega)]; exact hh, r⟩

/-- 'append(b, ..)' of some bytes. -/
theorem wpList_append_buf (w : World) {ops : Array Oper} {rest : List Oper} {o : Oper} {a : Act} {Q : Exit → Act → World → Prop} (hgd : o.guard = none) (s x : Operand) (t : TypeId)
    (ho : o.op = .call { callee := .builtin .append, args := #[s, x], argTypes := #[t, t] }) (ht : Tryz.prog.underlying t = some (.slice 5)) (B : Nat) (v : Value) (l : List UInt8) (hs : a.eval s = v) (hb : Buf w B v l)
    (ad : Addr) (m c : Nat) (cs : List UInt8) (hx : a.eval x = .slice (some ad) m c) (hl : cs.length = m) (hnews : ∀ j u, (cs.map fun c => Value.int .u8 (c.toNat : Nat))[j]? = some u → w.cell? (ad.add j) = some u)
    (hlen : l.length + m ≤ 140737488355328) (hbase : B ≤ w.heap.size) (w0 : World) (hw0 : Below B w0 w)
    (h : ∀ v' w', Buf w' B v' (l ++ cs) → Below B w0 w' → (v' = .slice none 0 0 ↔ v = .slice none 0 0 ∧ m = 0) → wpList Tryz.prog ops Q rest (a.put o.dst v') w') : wpList Tryz.prog ops Q (o :: rest) a w := by
  obtain ⟨i, hi, hz0, hz1, hz2⟩ := info_parts info8
  refine wpList_append_own w hgd s x t ho B 5 i (.int .u8 0) 1 1 ht hi hz0 hz1 hz2 rfl (by decide) v l.length _ hs hb ad m c (cs.map fun c => Value.int .u8 (c.toNat : Nat)) hx (by simp [hl]) hnews (byte_cells cs) (by unfold maxLen; omega) (by omega) hbase ?_
  intro v' w' hown hgr hnil
  refine h v' w' ?_ (hw0.grown hgr hbase ?_) hnil
  · unfold Buf
    rw [List.length_append, List.map_append, hl]; exact hown
  · intro k hk
    exact (hb.lt k hk).1

/-- What a new block holds. -/
theorem new_cells (w : World) (arr : Array Value) (e : TypeId) : ∀ (j : Nat) (u : Value), arr.toList[j]? = some u → (w.alloc (.cells arr e)).cell? ((⟨w.heap.size, 0, none⟩ : Addr).add j) = some u := by
  intro j u hj
  rw [Addr.add_lit, Nat.zero_add]
  have hh : (w.alloc (.cells arr e)).heap[w.heap.size]? = some (.cells arr e (0, 0)) := heap_alloc_new w _
  simp only [World.cell?, hh, Option.isSome_none, Bool.false_eq_true, if_false]
  rw [← Array.getElem?_toList]; exact hj

set_option maxRecDepth 100000 in
/-- 'string(b)' of such a slice. -/
theorem run_string_buf {w : World} {B : Nat} {v : Value} {l : List UInt8} (h : Buf w B v l) :
    (convert 68 9 v).run Tryz.prog w = .ok (.string ⟨l.toArray⟩) w := by
  have hown := h.own
  rcases h.2 with ⟨rfl, h0⟩ | ⟨g, cap, cur, rfl, _⟩
  · have : l = [] := List.eq_nil_of_length_eq_zero h0
    subst this
    exact run_convert_bytes_nil _ _ _ Tryz.underlying68 Tryz.underlying5 0 0 _ Tryz.underlying9
  · have hr := run_convert_bytes_arg w 68 5 Tryz.underlying68 Tryz.underlying5 g 0 l.length cap (l.map fun c => ((c.toNat : Nat) : Int)) (by simp) (fun i hi => by
      rw [Nat.zero_add, hown.cellAt i (by omega), List.getElem?_map, List.getElem?_eq_getElem hi]
      simp [List.getD, List.getElem?_eq_getElem hi]) 9 Tryz.underlying9
    rw [hr]
    congr 2
    unfold strOfNums
    congr 1
    rw [List.map_map]
    congr 1
    refine (List.map_congr_left fun c _ => ?_).trans (List.map_id l)
    simp



def DB : Nat := 65536
theorem DB_eq : DB = 65536 := rfl
theorem DB2 : 2 ≤ DB := by rw [DB_eq]; omega
theorem DBpos : 0 < DB := by rw [DB_eq]; omega

theorem info64 : (Tryz.prog.info? 78).map (fun i => (i.zero, i.size, i.bytes)) = some (some (.int .u64 0), 1, 8) := by kernel_rfl

/-- The slice reads as the number v, without noughts above. -/
structure RN (w : World) (ao : Option Addr) (n cap v : Nat) : Prop where
  len : n = Dg.len DB v
  rd : Rd w .u64 ao n cap (Dg.dg DB v)
theorem RN.below {w w' : World} {B : Nat} {ao : Option Addr} {n cap v : Nat} (h : RN w ao n cap v) (hb : Below B w w') (hB : w.heap.size ≤ B) : RN w' ao n cap v := ⟨h.len, h.rd.below hb hB⟩
theorem RN.drewN {w : World} {ao : Option Addr} {n cap v : Nat} (h : RN w ao n cap v) (q : Nat) : RN (w.drewN q) ao n cap v := ⟨h.len, h.rd.drewN q⟩
theorem RN.lt {w : World} {ao : Option Addr} {n cap v : Nat} (h : RN w ao n cap v) : v < DB ^ n := by rw [h.len]; exact Dg.lt_pow_len DB2 v
theorem RN.le {w : World} {ao : Option Addr} {n cap v k : Nat} (h : RN w ao n cap v) (hv : v < DB ^ k) : n ≤ k := by rw [h.len]; exact (Dg.len_le_iff DB2 v k).2 hv

/-- The call answers a slice that reads as v; nothing that was there has changed. -/
def RetRN (w : World) (v : Nat) (e : Ending) (w' : World) : Prop :=
  ∃ ro k cap, e = .returned (.slice ro k cap) ∧ RN w' ro k cap v ∧ Below w.heap.size w w'

theorem tl_dgB {B : Nat} (hB : 2 ≤ B) (v : Nat) : ∀ n, v < B ^ n → tl (Dg.dg B v) n = Dg.len B v
  | 0, h => by
    have : v = 0 := by simpa using h
    subst this
    rw [Dg.len_zero]; rfl
  | n + 1, h => by
    unfold tl
    by_cases h0 : Dg.dg B v n = 0
    · rw [if_pos h0]
      refine tl_dgB hB v n ?_
      have e := Dg.mod_succ B v n
      rw [Nat.mod_eq_of_lt h, h0] at e
      rw [e]
      simpa using Nat.mod_lt v (Nat.pow_pos (n := n) (show 0 < B by omega))
    · rw [if_neg h0]
      exact (Dg.len_unique hB h (Or.inr (by simp; omega))).symm

/-- A digit raised, where nothing is carried. -/
theorem dg_add_at {B V k x : Nat} (hB : 0 < B) (h : Dg.dg B V k + x < B) (j : Nat) : Dg.dg B (V + x * B ^ k) j = if j = k then Dg.dg B V k + x else Dg.dg B V j := by
  have hp : 0 < B ^ k := Nat.pow_pos hB
  have e1 : (V + x * B ^ k) / B ^ k = V / B ^ k + x := by rw [Nat.mul_comm x, Nat.add_mul_div_left _ _ hp]
  have e2 : V / B ^ k = B * (V / B ^ (k + 1)) + Dg.dg B V k := by
    unfold Dg.dg
    rw [Nat.pow_succ, ← Nat.div_div_eq_div_mul]
    exact (Nat.div_add_mod _ _).symm
  by_cases hj : j = k
  · subst hj
    rw [if_pos rfl]
    show (V + x * B ^ j) / B ^ j % B = _
    rw [e1, e2, Nat.add_assoc, Nat.mul_add_mod, Nat.mod_eq_of_lt h]
  · rw [if_neg hj]
    rcases Nat.lt_or_gt_of_ne hj with h1 | h1
    · obtain ⟨d, rfl⟩ : ∃ d, k = j + 1 + d := ⟨k - (j + 1), by omega⟩
      have e4 : x * B ^ (j + 1 + d) = B ^ j * (B * (x * B ^ d)) := by
        rw [Nat.pow_add, Nat.pow_succ]
        simp only [Nat.mul_comm, Nat.mul_left_comm, Nat.mul_assoc]
      unfold Dg.dg
      rw [e4, Nat.add_mul_div_left _ _ (Nat.pow_pos hB), Nat.add_mul_mod_self_left]
    · obtain ⟨d, rfl⟩ : ∃ d, j = k + 1 + d := ⟨j - (k + 1), by omega⟩
      rw [← Dg.dg_div, ← Dg.dg_div]
      congr 1
      have e5 : (V + x * B ^ k) / B ^ k / B = V / B ^ (k + 1) := by
        rw [e1, e2, Nat.add_assoc, Nat.mul_add_div hB, Nat.div_eq_of_lt h, Nat.add_zero]
      rw [Nat.div_div_eq_div_mul, ← Nat.pow_succ] at e5
      rw [e5]

set_option maxRecDepth 100000 in
theorem rtrim_any (ao : Option Addr) (n cap : Nat) (f : Nat → Nat) (w : World) (hr : Rd w .u64 ao n cap f) :
    Calls Tryz.prog 60 #[.slice ao n cap] w fun e w' => e = .returned (.slice ao (tl f n) cap) ∧ w = w' := by
  have hle := hr.le
  have hcm := hr.cm
  go_enter Tryz.func60, Tryz.ntmps60
  go_wp2
  go_loop [0] (fun v => ∃ m : Nat, m ≤ n ∧ v = .slice ao m cap ∧ tl f m = tl f n) (fun v => slLen v)
  case atStart => exact ⟨n, Nat.le_refl _, rfl, rfl⟩
  case round =>
    obtain ⟨m, hm, rfl, ht⟩ := hrel
    have HT := Lib.hid ht; clear ht
    have hs := hr.sh.mono hm
    by_cases h0 : 0 < m
    · obtain ⟨k, rfl⟩ : ∃ k, m = k + 1 := ⟨m - 1, by omega⟩
      have hc : w.cell? ⟨blk ao, off ao + k, none⟩ = some (.int .u64 (f k : Nat)) := hr.cell _ (by omega)
      go_wp2
      · have hz : ((f k : Int) == 0) = true := by assumption
        have hz' : f k = 0 := by simpa using hz
        go_round
        case rel => exact ⟨k, by omega, rfl, by rw [← HT.out, tl, if_pos hz']⟩
        case measure => simp [slLen]
      · have hz : ((f k : Int) == 0) = false := by assumption
        have hz' : ¬ f k = 0 := by simpa using hz
        go_ret
        exact ⟨ret_slice (by rw [← HT.out, tl, if_neg hz']) rfl, rfl⟩
    · obtain rfl : m = 0 := by omega
      go_wp2
      go_ret
      exact ⟨ret_slice HT.out rfl, rfl⟩

theorem rtrim_num (ao : Option Addr) (n cap v : Nat) (w : World) (hr : Rd w .u64 ao n cap (Dg.dg DB v)) (hv : v < DB ^ n) :
    Calls Tryz.prog 60 #[.slice ao n cap] w fun e w' => ∃ k, e = .returned (.slice ao k cap) ∧ RN w ao k cap v ∧ w = w' :=
  (rtrim_any ao n cap _ w hr).mono fun _ _ ⟨he, hw⟩ => ⟨_, he, ⟨tl_dgB DB2 v n hv, hr.take (tl_le _ _)⟩, hw⟩


/-- One round of reading. -/
theorem of_step {T c i d x : Nat} (hT : T < 256 ^ i) (hc : c < 256) (hd : d = Dg.dg DB T (i / 2)) (hx : x = if i % 2 = 1 then c * 256 else c) :
    d + x < 65536 ∧ ∀ j, Dg.dg DB (T + c * 256 ^ i) j = if j = i / 2 then d + x else Dg.dg DB T j := by
  have hDB : DB = 256 ^ 2 := rfl
  have e1 : 256 ^ i = DB ^ (i / 2) * 256 ^ (i % 2) := by rw [hDB, ← Nat.pow_mul, ← Nat.pow_add, Nat.div_add_mod]
  have hp : 0 < DB ^ (i / 2) := Nat.pow_pos DBpos
  have hdl : T / DB ^ (i / 2) < 256 ^ (i % 2) := by rw [Nat.div_lt_iff_lt_mul hp, Nat.mul_comm, ← e1]; exact hT
  have hd2 : d ≤ T / DB ^ (i / 2) := by rw [hd]; unfold Dg.dg; exact Nat.mod_le _ _
  have hcx : c * 256 ^ i = x * DB ^ (i / 2) := by
    rw [e1, hx]
    rcases Nat.mod_two_eq_zero_or_one i with h | h
    · rw [h, if_neg (by omega), Nat.pow_zero, Nat.mul_one]
    · rw [h, if_pos rfl, Nat.pow_one]; simp only [Nat.mul_comm, Nat.mul_left_comm]
  have hlt : d + x < 65536 := by
    rw [hx]
    rcases Nat.mod_two_eq_zero_or_one i with h | h
    · rw [h, Nat.pow_zero] at hdl; rw [if_neg (by omega)]; omega
    · rw [h, Nat.pow_one] at hdl; rw [if_pos h]; omega
  refine ⟨hlt, fun j => ?_⟩
  rw [hcx, dg_add_at DBpos (by rw [← hd]; exact hlt), ← hd]

set_option maxRecDepth 100000 in
set_option maxHeartbeats 800000 in
theorem of_any (s : ByteArray) (w : World) (hs : s.size ≤ 10000000) :
    Calls Tryz.prog 31 #[.string s] w (RetRN w (bv s.data.toList)) := by
  go_enter Tryz.func31, Tryz.ntmps31
  go_wp2_with (refine wpList_make_row _ rfl (.tmp 9) (.tmp 9) _ rfl 78 .u64 8 Tryz.underlying45 info64 .i64 .i64 _ _ (s.size / 2 + 1) rfl rfl (by omega) (by omega) (by omega) (by omega) ?_; intro g w1 hg hown1 hb1)
  have hown2 : Own w1 .u64 78 g (s.size / 2 + 1) (Dg.dg DB (tailv s 0)) := hown1.congr fun j _ => by rw [tailv_zero, Dg.dg_zero]
  clear hown1
  go_loopw [4] (fun i wr => ∃ k : Nat, k ≤ s.size ∧ i = .int .i64 k ∧ Own wr .u64 78 g (s.size / 2 + 1) (Dg.dg DB (tailv s k)) ∧ Below w.heap.size w wr) (fun i _ => s.size - (intOf i).toNat)
  case atStart => exact ⟨0, Nat.zero_le _, rfl, hown2, hb1⟩
  case round =>
    obtain ⟨i, hi, rfl, hown, hbel⟩ := hrel
    clear hown2
    by_cases hin : i < s.size
    · have hco : wr.cell? ⟨g, i / 2, none⟩ = some (.int .u64 (Dg.dg DB (tailv s i) (i / 2) : Nat)) := hown.cell (i / 2) (by omega)
      obtain ⟨d, hd⟩ : ∃ d, d = Dg.dg DB (tailv s i) (i / 2) := ⟨_, rfl⟩
      rw [← hd] at hco
      have hdl : d < 65536 := by rw [hd]; exact Dg.dg_lt DBpos _ _
      have HD := Lib.hid hd; clear hd
      have hf := hown.frozen (i / 2)
      have hk : s.size - 1 - i < s.size := by omega
      obtain ⟨c, hc⟩ : ∃ c, c = (s[s.size - 1 - i]'hk).toNat := ⟨_, rfl⟩
      have hcl : c < 256 := by rw [hc]; exact UInt8.toNat_lt _
      have hix : ∀ W : World, (Instr.index 9 (.string s) (.int .i64 ((s.size : Int) - 1 - (i : Int)))).run Tryz.prog W = .ok (.int .u8 (c : Nat)) W := fun W => by
        have e : ((s.size : Int) - 1 - (i : Int)).toNat = s.size - 1 - i := by omega
        have e0 : (i : Int) ≤ (s.size : Int) - 1 := by omega
        simp [Instr.index, asIntOf, run_underlying Tryz.underlying9, e, e0, hc, getElem?_pos s (s.size - 1 - i) hk]
      have HC := Lib.hid hc; clear hc
      obtain ⟨x, hx⟩ : ∃ x, x = if i % 2 = 1 then c * 256 else c := ⟨_, rfl⟩
      have R := of_step (tailv_lt s i hi) hcl HD.out hx
      have hT : tailv s (i + 1) = tailv s i + c * 256 ^ i := by rw [HC.out]; exact tailv_succ s i hin
      rw [← hT] at R
      have hdx := R.1
      have HR := Lib.hid R.2; clear R hT
      rcases Nat.mod_two_eq_zero_or_one i with h2 | h2
      · have hxc : c = x := by rw [hx, if_neg (by omega)]
        have ht : (((i : Int) % 2) == 1) = false := by rw [beq_eq_false_iff_ne]; omega
        have HXC := Lib.hid hxc
        clear h2 hx hxc
        go_wp2_with fail
        go_roundw
        case rel => exact ⟨i + 1, by omega, by go_num, own_set_int hown (s := d + c) (by simp) (by rw [HR.out, if_pos rfl, HXC.out]) (fun j _ hj => by rw [HR.out, if_neg hj]), hbel.setCell hg _⟩
        case measure => simp [intOf]; omega
      · have hxc : c * 256 = x := by rw [hx, if_pos h2]
        have ht : (((i : Int) % 2) == 1) = true := by rw [beq_iff_eq]; omega
        have HXC := Lib.hid hxc
        clear h2 hx hxc
        go_wp2_with fail
        go_roundw
        case rel => exact ⟨i + 1, by omega, by go_num, own_set_int hown (s := d + c * 256) (by simp) (by rw [HR.out, if_pos rfl, HXC.out]) (fun j _ hj => by rw [HR.out, if_neg hj]), hbel.setCell hg _⟩
        case measure => simp [intOf]; omega
    · obtain rfl : i = s.size := by omega
      have hrd := hown.rd
      rw [tailv_all] at hrd
      have hlt : bv s.data.toList < DB ^ (s.size / 2 + 1) := by
        refine Nat.lt_of_lt_of_le (bv_lt _) ?_
        have e : s.data.toList.length = s.size := by simp
        rw [e, show DB = 256 ^ 2 from rfl, ← Nat.pow_mul]
        exact Nat.pow_le_pow_right (by omega) (by omega)
      have HLT := Lib.hid hlt; clear hlt
      go_wp2_with (go_at_call 60; refine (rtrim_num _ _ _ _ _ hrd HLT.out).mono ?_; rintro e w' ⟨k, rfl, hnum, rfl⟩)
      go_ret
      exact ⟨_, _, _, rfl, hnum, hbel⟩


theorem fm_two {q d : Nat} (hd : d < 65536) (h : 0 < q ∨ 255 < d) : fm (65536 * q + d) = fm q ++ [UInt8.ofNat (d / 256), UInt8.ofNat (d % 256)] := by
  rw [fm_pos (by omega), fm_pos (v := (65536 * q + d) / 256) (by omega)]
  have e1 : (65536 * q + d) / 256 / 256 = q := by omega
  have e2 : (65536 * q + d) / 256 % 256 = d / 256 := by omega
  have e3 : (65536 * q + d) % 256 = d % 256 := by omega
  rw [e1, e2, e3, List.append_assoc]; rfl
theorem fm_one {d : Nat} (h0 : 0 < d) (h : d ≤ 255) : fm d = [UInt8.ofNat (d % 256)] := by
  rw [fm_pos h0, Nat.div_eq_of_lt (by omega), fm_zero]; rfl
theorem fm_len_le {v k : Nat} (h : v < DB ^ k) : (fm v).length ≤ 2 * k := by
  rw [fm_length]
  exact (Dg.len_le_iff (by omega) _ _).2 (by rwa [show DB = 256 ^ 2 from rfl, ← Nat.pow_mul] at h)

theorem news1 {w : World} {cs : List UInt8} {v : Value} (h : (cs.map fun c => Value.int .u8 (c.toNat : Nat)) = [v]) :
    ∀ (j : Nat) (u : Value), (cs.map fun c => Value.int .u8 (c.toNat : Nat))[j]? = some u → (w.alloc (.cells #[v] 5)).cell? ((⟨w.heap.size, 0, none⟩ : Addr).add j) = some u := by
  rw [h]; exact new_cells w #[v] 5

theorem Buf.form {w : World} {B : Nat} {v : Value} {l : List UInt8} (h : Buf w B v l) : ∃ bo cap, v = .slice bo l.length cap := by
  obtain ⟨h1, ⟨h2, h3⟩ | ⟨g, cap, cur, hv, r⟩⟩ := h
  · exact ⟨none, 0, by rw [h2, h3]⟩
  · exact ⟨_, _, hv⟩

set_option maxRecDepth 100000 in
set_option maxHeartbeats 1600000 in
theorem rform_any (ao : Option Addr) (n c v : Nat) (w : World) (ha : RN w ao n c v) (hn : n ≤ 10000000) :
    Calls Tryz.prog 30 #[.slice ao n c] w fun e w' => e = .returned (.string ⟨(fm v).toArray⟩) ∧ Below w.heap.size w w' := by
  have hv : v < DB ^ n := ha.lt
  have HV := Lib.hid hv; clear hv
  go_enter Tryz.func30, Tryz.ntmps30
  go_wp2_with fail
  have hbuf1 : Buf (w.alloc (.cells #[] 5)) w.heap.size (.slice (some ⟨w.heap.size, 0, none⟩) 0 0) [] :=
    ⟨rfl, Or.inr ⟨w.heap.size, 0, #[], rfl, Nat.le_refl _, by simpa using heap_alloc_new w (.cells #[] 5), Nat.le_refl _, by decide, rfl, rfl⟩⟩
  have hb1 : Below w.heap.size w (w.alloc (.cells #[] 5)) := (Below.refl _ _).alloc (Nat.le_refl _) _
  have hv0 : fm (v / DB ^ n) = [] := by rw [Nat.div_eq_of_lt HV.out, fm_zero]
  have HV0 := Lib.hid hv0; clear hv0
  go_loopw [3, 4] (fun bv iv wr => ∃ (m : Nat) (bo : Option Addr) (cap : Nat) (l : List UInt8), m ≤ n ∧ iv = .int .i64 ((m : Int) - 1) ∧ Hid (l = fm (v / DB ^ m)) ∧ bv = .slice bo l.length cap ∧ Buf wr w.heap.size (.slice bo l.length cap) l ∧ Below w.heap.size w wr) (fun _ iv _ => (intOf iv + 1).toNat)
  case atStart => exact ⟨n, _, _, [], Nat.le_refl _, rfl, HV0.out.symm, rfl, hbuf1, hb1⟩
  case round =>
    obtain ⟨m, bo, cap, l, hm, rfl, hl, rfl, hbuf, hbel⟩ := hrel
    clear hbuf1 hb1
    have hsz := hbel.size
    by_cases h0 : 0 < m
    · obtain ⟨k, rfl⟩ : ∃ k, m = k + 1 := ⟨m - 1, by omega⟩
      have hca : wr.cell? ⟨blk ao, off ao + k, none⟩ = some (.int .u64 (Dg.dg DB v k : Nat)) := (ha.rd.below hbel (Nat.le_refl _)).cell _ (by omega)
      have hsa := ha.rd.sh
      obtain ⟨d, hd⟩ : ∃ d, d = Dg.dg DB v k := ⟨_, rfl⟩
      have hold : w.cell? ⟨blk ao, off ao + k, none⟩ = some (.int .u64 (d : Nat)) := by rw [hd]; exact ha.rd.cell _ (by omega)
      have hblt : blk ao < w.heap.size := ha.rd.lt (j := k) (by omega)
      rw [← hd] at hca
      have HOLD := Lib.hid hold; clear hold
      have hdl : d < 65536 := by rw [hd]; exact Dg.dg_lt DBpos _ _
      obtain ⟨q, hq⟩ : ∃ q, q = v / DB ^ (k + 1) := ⟨_, rfl⟩
      have hqd : v / DB ^ k = 65536 * q + d := by
        rw [hq, hd]; unfold Dg.dg
        rw [Nat.pow_succ, ← Nat.div_div_eq_div_mul, DB_eq]
        exact (Nat.div_add_mod _ _).symm
      have hlq : l = fm q := by rw [hl.out, hq]
      have hll : l.length ≤ 2 * n := by
        rw [hlq]; refine fm_len_le (Nat.lt_of_le_of_lt ?_ HV.out)
        rw [hq]; exact Nat.div_le_self _ _
      have htop : q = 0 → 0 < d := fun h => by
        have h1 : v < DB ^ (k + 1) := by
          rcases Nat.lt_or_ge v (DB ^ (k + 1)) with h2 | h2
          · exact h2
          · have := Nat.div_pos h2 (Nat.pow_pos DBpos); omega
        have h2 := ha.le h1
        have h3 : n = k + 1 := by omega
        have h4 := Dg.dg_top DB2 (v := v) ((Dg.len_pos_iff DB2 v).1 (by rw [← ha.len]; omega))
        rw [← ha.len, h3] at h4
        rw [hd]; simpa using h4
      have hl0 : 0 < l.length ↔ 0 < q := by rw [hlq, fm_length]; exact Dg.len_pos_iff (by omega) q
      have HQD := Lib.hid hqd; have HLQ := Lib.hid hlq; have HTOP := Lib.hid htop; have HL0 := Lib.hid hl0
      clear hd hq hqd hlq htop hl0 hl
      by_cases hcase : 0 < q ∨ 255 < d
      · have hfm := fm_two hdl hcase
        have HFM := Lib.hid hfm; clear hfm
        obtain ⟨c1, hc1⟩ : ∃ c : List UInt8, c = [UInt8.ofNat (d / 256)] := ⟨_, rfl⟩
        obtain ⟨c2, hc2⟩ : ∃ c : List UInt8, c = [UInt8.ofNat (d % 256)] := ⟨_, rfl⟩
        have hv1 : (c1.map fun c => Value.int .u8 (c.toNat : Nat)) = [Value.int .u8 ((d : Int) / 256)] := by
          rw [hc1]; simp only [List.map_cons, List.map_nil]; rw [toNat_ofNat8 _ (by omega)]; simp
        have hv2 : (c2.map fun c => Value.int .u8 (c.toNat : Nat)) = [Value.int .u8 ((d : Int) % 256)] := by
          rw [hc2]; simp only [List.map_cons, List.map_nil]; rw [toNat_ofNat8 _ (by omega)]; simp
        have hn1 : c1.length = 1 := by rw [hc1]; rfl
        have hn2 : c2.length = 1 := by rw [hc2]; rfl
        have hcc : l ++ c1 ++ c2 = fm (v / DB ^ k) := by rw [HQD.out, HFM.out, hc1, hc2, HLQ.out, List.append_assoc]; rfl
        have HV1 := Lib.hid hv1; have HV2 := Lib.hid hv2; have HN1 := Lib.hid hn1; have HN2 := Lib.hid hn2; have HCC := Lib.hid hcc
        clear hc1 hc2 hv1 hv2 hn1 hn2 hcc
        by_cases hlp : 0 < l.length
        all_goals
          try have hgt : 255 < d := by have := HL0.out; omega
          clear hcase
          have hl2 : (l ++ c1).length + 1 ≤ 140737488355328 := by rw [List.length_append, HN1.out]; omega
          go_wp2_with (at_builtin; first
            | (refine wpList_append_buf _ rfl (.tmp 23) (.tmp 30) _ rfl Tryz.underlying68 w.heap.size _ l rfl (hbuf.below ((Below.refl _ _).alloc (Nat.le_refl _) _)) ⟨wr.heap.size, 0, none⟩ 1 1 c1 rfl HN1.out (news1 HV1.out) (by omega) (by simp; omega) w (hbel.alloc (by omega) _) ?_; intro v2 w2 hbuf2 hbel2 _; have hca2 := (hbel2.cell (p := ⟨blk ao, off ao + k, none⟩) hblt).trans HOLD.out; have hsz2 := hbel2.size)
            | (refine wpList_append_buf _ rfl (.tmp 32) (.tmp 39) _ rfl Tryz.underlying68 w.heap.size _ (l ++ c1) rfl (hbuf2.below ((Below.refl _ _).alloc (Nat.le_refl _) _)) ⟨w2.heap.size, 0, none⟩ 1 1 c2 rfl HN2.out (news1 HV2.out) hl2 (by simp; omega) w (hbel2.alloc (by omega) _) ?_; intro v3 w3 hbuf3 hbel3 _))
          obtain ⟨bo3, cap3, rfl⟩ := hbuf3.form
          go_roundw
          case rel => exact ⟨k, bo3, cap3, _, by omega, by go_num, HCC.out, rfl, hbuf3, hbel3⟩
          case measure => simp [intOf]
      · have hq0 : q = 0 := by omega
        have hd0 : 0 < d := HTOP.out hq0
        have hd2 : ¬ 255 < d := by omega
        obtain ⟨c1, hc1⟩ : ∃ c : List UInt8, c = [UInt8.ofNat (d % 256)] := ⟨_, rfl⟩
        have hv1 : (c1.map fun c => Value.int .u8 (c.toNat : Nat)) = [Value.int .u8 ((d : Int) % 256)] := by
          rw [hc1]; simp only [List.map_cons, List.map_nil]; rw [toNat_ofNat8 _ (by omega)]; simp
        have hn1 : c1.length = 1 := by rw [hc1]; rfl
        have hl0 : ¬ 0 < l.length := by have := HL0.out; omega
        have hcc : l ++ c1 = fm (v / DB ^ k) := by
          have hln : l = [] := List.eq_nil_of_length_eq_zero (by omega)
          rw [HQD.out, hq0, Nat.mul_zero, Nat.zero_add, fm_one hd0 (by omega), hc1, hln]; rfl
        have HV1 := Lib.hid hv1; have HN1 := Lib.hid hn1; have HCC := Lib.hid hcc
        clear hc1 hv1 hn1 hcc hcase hq0
        go_wp2_with (at_builtin; refine wpList_append_buf _ rfl (.tmp 32) (.tmp 39) _ rfl Tryz.underlying68 w.heap.size _ l rfl (hbuf.below ((Below.refl _ _).alloc (Nat.le_refl _) _)) ⟨wr.heap.size, 0, none⟩ 1 1 c1 rfl HN1.out (news1 HV1.out) (by omega) (by simp; omega) w (hbel.alloc (by omega) _) ?_; intro v2 w2 hbuf2 hbel2 _)
        obtain ⟨bo3, cap3, rfl⟩ := hbuf2.form
        go_roundw
        case rel => exact ⟨k, bo3, cap3, _, by omega, by go_num, HCC.out, rfl, hbuf2, hbel2⟩
        case measure => simp [intOf]
    · obtain rfl : m = 0 := by omega
      have hcv := run_string_buf hbuf
      have hfin : l = fm v := by rw [hl.out, Nat.pow_zero, Nat.div_one]
      have HFIN := Lib.hid hfin; clear hfin
      go_wp2_with fail
      go_ret
      exact ⟨by rw [HFIN.out]; rfl, hbel⟩
end Go.Proofs.YtebhiplcoioenaaGreatDoor.Num
