/- LTree LPlain, in one text. -/
import Derived.Test.YthpagppipifgeaaGreatDoorRows
import Derived.WalkKit
import Derived.WalkSpells
import Derived.WalkLawsBesides
import Derived.WalkSmall
import Derived.Lib.Hide
import Derived.Laws.CopyOwn
import Derived.Deep.DeepCutAuto
import Derived.Deep.LoopGhost
/- Forests of policies: a policy's parts are a forest; how a forest lies in memory. -/
namespace Go.Proofs.YthpagppipifgeaaGreatDoor
open Go.RowKit

/-- A list of policies: the first one's kind, what it looks at, name, text and parts; and the others. -/
inductive Fo where
  | nil
  | cons (k o : Int) (n t : ByteArray) (kids next : Fo)

namespace Fo
def len : Fo → Nat
  | .nil => 0
  | .cons _ _ _ _ _ nx => nx.len + 1
def All (Q : Fo → Prop) : Fo → Prop
  | .nil => True
  | .cons _ _ _ _ kids nx => Q kids ∧ nx.All Q
/-- What is true of each forest of whose policies' parts it is true is true of all. -/
theorem rec_all {Q : Fo → Prop} (h : ∀ F : Fo, F.All Q → Q F) (F : Fo) : Q F := h F (by
  induction F with
  | nil => trivial
  | cons k o n t kids nx ih1 ih2 => exact ⟨h kids ih1, ih2⟩)
end Fo

/-- The longest text that came in. -/
def SB : Nat := 140737488351232
theorem SB_eq : SB = 140737488351232 := rfl
/-- The greatest length there is. -/
def MX : Nat := 9223372036854775807
theorem MX_eq : MX = 9223372036854775807 := rfl

/-- The forest lies at this place. -/
def Row (w : World) : Fo → Nat → Nat → Prop
  | .nil, _, _ => True
  | .cons k o n t kids nx, b, f =>
    (∃ (ad : Option Addr) (c b1 f1 : Nat), w.cell? ⟨b, f, none⟩ = some (.int .i64 k) ∧ w.cell? ⟨b, f + 1, none⟩ = some (.int .i64 o) ∧ w.cell? ⟨b, f + 2, none⟩ = some (.string n)
      ∧ w.cell? ⟨b, f + 3, none⟩ = some (.string t) ∧ w.cell? ⟨b, f + 4, none⟩ = some (.slice ad kids.len c) ∧ n.size ≤ SB ∧ t.size ≤ SB ∧ kids.len ≤ c ∧ c ≤ MX
      ∧ (ad = some ⟨b1, f1, none⟩ ∨ (ad = ad ∧ kids.len = 0)) ∧ Row w kids b1 f1) ∧ Row w nx b (f + 5)

theorem Row.below {w w' : World} {B : Nat} (hb : Below B w w') (hB : w.heap.size ≤ B) : ∀ {F : Fo} {b f : Nat}, Row w F b f → Row w' F b f := by
  intro F
  induction F with
  | nil => exact fun _ => trivial
  | cons k o n t kids nx ih1 ih2 =>
    rintro b f ⟨⟨ad, c, b1, f1, h0, h1, h2, h3, h4, r1, r2, r3, r4, r5, r6⟩, hn⟩
    have hlt : b < w.heap.size := World.block_lt_of_cell? w _ h0
    have hc : ∀ i, w'.cell? ⟨b, f + i, none⟩ = w.cell? ⟨b, f + i, none⟩ := fun i => hb.cell (p := ⟨b, f + i, none⟩) (Nat.lt_of_lt_of_le hlt hB)
    exact ⟨⟨ad, c, b1, f1, (hc 0).trans h0, (hc 1).trans h1, (hc 2).trans h2, (hc 3).trans h3, (hc 4).trans h4, r1, r2, r3, r4, r5, ih1 r6⟩, ih2 hn⟩

/-- A slice's value, and its forest. -/
structure SlF (w : World) (F : Fo) (ad : Option Addr) (c : Nat) : Prop where
  le : F.len ≤ c
  cm : c ≤ MX
  at_ : ∃ b f, (ad = some ⟨b, f, none⟩ ∨ (ad = ad ∧ F.len = 0)) ∧ Row w F b f

theorem SlF.below {w w' : World} {B : Nat} {F : Fo} {ad : Option Addr} {c : Nat} (h : SlF w F ad c) (hb : Below B w w') (hB : w.heap.size ≤ B) : SlF w' F ad c := by
  obtain ⟨h1, h2, b, f, h3, h4⟩ := h
  exact ⟨h1, h2, b, f, h3, h4.below hb hB⟩
theorem SlF.grown {w w' : World} {F : Fo} {ad : Option Addr} {c : Nat} (h : SlF w F ad c) (hb : Below w.heap.size w w') : SlF w' F ad c := h.below hb (Nat.le_refl _)

theorem Row.kids {w : World} {k o : Int} {n t : ByteArray} {kids nx : Fo} {b f : Nat} (h : Row w (.cons k o n t kids nx) b f) :
    ∃ ad c, w.cell? ⟨b, f, none⟩ = some (.int .i64 k) ∧ w.cell? ⟨b, f + 1, none⟩ = some (.int .i64 o) ∧ w.cell? ⟨b, f + 2, none⟩ = some (.string n)
      ∧ w.cell? ⟨b, f + 3, none⟩ = some (.string t) ∧ w.cell? ⟨b, f + 4, none⟩ = some (.slice ad kids.len c) ∧ n.size ≤ SB ∧ t.size ≤ SB ∧ SlF w kids ad c ∧ Row w nx b (f + 5) := by
  obtain ⟨⟨ad, c, b1, f1, h0, h1, h2, h3, h4, r1, r2, r3, r4, r5, r6⟩, hn⟩ := h
  exact ⟨ad, c, h0, h1, h2, h3, h4, r1, r2, ⟨r3, r4, b1, f1, r5, r6⟩, hn⟩

/-- A policy's value. -/
@[reducible] def pv (k o : Int) (n t : ByteArray) (ad : Option Addr) (l c : Nat) : Value := .agg #[.int .i64 k, .int .i64 o, .string n, .string t, .slice ad l c]

/-- 'for i := range s': a step of a row of policies. -/
def RetB (v : Bool) (w : World) : Ending → World → Prop := fun e w' => e = .returned (.bool v) ∧ Below w.heap.size w w'
def RetI (v : Int) (w : World) : Ending → World → Prop := fun e w' => e = .returned (.int .i64 v) ∧ Below w.heap.size w w'
def RetS (v : ByteArray) (w : World) : Ending → World → Prop := fun e w' => e = .returned (.string v) ∧ Below w.heap.size w w'
def RetI2 (v u : Int) (w : World) : Ending → World → Prop := fun e w' => e = .returned (.tuple #[.int .i64 v, .int .i64 u]) ∧ Below w.heap.size w w'
theorem b_alloc (w : World) (ob : Obj) : Below w.heap.size w (w.alloc ob) := (Below.refl _ w).alloc (Nat.le_refl _) _
theorem b_call {w w1 : World} {ob : Obj} (hb : Below (w.alloc ob).heap.size (w.alloc ob) w1) : Below w.heap.size w w1 := (b_alloc w ob).trans (hb.mono (by simp))
theorem b_trans {w w1 w2 : World} (hb : Below w.heap.size w w1) (h2 : Below w1.heap.size w1 w2) : Below w.heap.size w w2 := hb.trans (h2.mono hb.size)
theorem isE {α : Type} [DecidableEq α] (l : List α) : l.isEmpty = decide (l = []) := by cases l <;> simp
/-- A cell of a block of one's own, behind a call. -/
theorem box_cell {w w1 : World} {cs : Array Value} {ty : TypeId} (hb : Below (w.alloc (.cells cs ty)).heap.size (w.alloc (.cells cs ty)) w1) (i : Nat) {v : Value} (h : cs[i]? = some v) : w1.cell? ⟨w.heap.size, i, none⟩ = some v :=
  (hb.cell (p := ⟨w.heap.size, i, none⟩) (by simp)).trans (by simp [h])
theorem new_cell {w : World} {g : Nat} (hg : w.heap.size = g) (cs : Array Value) (ty : TypeId) (i : Nat) {v : Value} (h : cs[i]? = some v) : (w.alloc (.cells cs ty)).cell? ⟨g, i, none⟩ = some v := by subst hg; simp [h]
theorem below_drawn {B : Nat} {a w : World} (h : Below B a w) (q : Nat) : Below B a (w.drewN q) := ⟨h.os, h.tape, h.output, h.size, h.block⟩
theorem beqL (a b : List UInt8) : (a == b) = decide (a = b) := by by_cases h : a = b <;> simp [h]
theorem dl (s : ByteArray) : s.toList = s.data.toList := by exact Go.ByteArray.toList_eq s
theorem sz0 (s : ByteArray) : s.toList.isEmpty = !decide (1 ≤ s.size) := by
  rw [dl]
  have h : s.data.toList.length = s.size := by simp
  cases hl : s.data.toList with
  | nil => rw [hl] at h; simp at h; simp [← h]
  | cons x r => rw [hl] at h; simp at h; simp [← h]
theorem beq0 (L : Nat) : ((L : Int) == 0) = decide (L = 0) := by by_cases h : L = 0 <;> simp [h]
theorem beq1 (L : Nat) : ((L : Int) == 1) = decide (L = 1) := by
  by_cases h : L = 1
  · subst h; rfl
  · have : ¬ ((L : Int) = 1) := by omega
    simp [h, this]
end Go.Proofs.YthpagppipifgeaaGreatDoor
/- Plain: which policies may be; how many nodes they have, and how deep they are. -/
namespace Go.Proofs.YthpagppipifgeaaGreatDoor
open Go.RowKit

/-- A byte of a name; a byte of a literal. -/
def nmC (c : UInt8) : Bool := (decide (97 ≤ c.toNat) && decide (c.toNat ≤ 122)) || (decide (48 ≤ c.toNat) && decide (c.toNat ≤ 57)) || c.toNat == 95 || c.toNat == 45
def ltC (c : UInt8) : Bool := decide (32 ≤ c.toNat) && decide (c.toNat ≤ 126)
def nameB (s : ByteArray) : Bool := decide (1 ≤ s.size) && decide (s.size ≤ 32) && s.data.toList.all nmC
def litB (s : ByteArray) : Bool := decide (s.size ≤ 64) && s.data.toList.all ltC
/-- The text that is none. -/
def e0 : ByteArray := ⟨#[]⟩
def plainB (o : Int) (n t : ByteArray) : Bool := decide (o = 0) && decide (n.toList = []) && decide (t.toList = [])
/-- A node of l parts, of which each may be where m is true. -/
def nodeB (k o : Int) (n t : ByteArray) (l : Nat) (m : Bool) : Bool :=
  if k = 0 then plainB o n t && decide (l = 0)
  else if k = 1 then plainB o n t && decide (l = 1) && m
  else if k = 2 ∨ k = 3 then plainB o n t && decide (2 ≤ l) && m
  else if k = 4 ∨ k = 5 ∨ k = 6 then decide (l = 0) && decide (0 ≤ o) && decide (o < 4) && (if o = 2 ∨ o = 3 then nameB n else decide (n.toList = [])) && litB t
  else false
def Fo.may : Fo → Bool
  | .nil => true
  | .cons k o n t kids nx => nodeB k o n t kids.len kids.may && nx.may
def mayP (k o : Int) (n t : ByteArray) (F : Fo) : Bool := nodeB k o n t F.len F.may
/-- The nodes of a forest behind a number of them, as they are counted; how deep it is. -/
def Fo.nds : Fo → Int → Int
  | .nil, a => a
  | .cons _ _ _ _ kids nx, a => nx.nds (wrap64 (a + wrap64 (kids.nds 0 + 1)))
def Fo.dep : Fo → Int → Int
  | .nil, a => a
  | .cons _ _ _ _ kids nx, a => nx.dep (max a (wrap64 (kids.dep 0 + 1)))
def ndsP (F : Fo) : Int := wrap64 (F.nds 0 + 1)
def depP (F : Fo) : Int := wrap64 (F.dep 0 + 1)
def smallP (F : Fo) : Bool := decide (ndsP F ≤ 64) && decide (depP F ≤ 16)
/-- Check's answer. -/
def chkP (k o : Int) (n t : ByteArray) (F : Fo) : Int := if mayP k o n t F then (if smallP F then 0 else 201) else 202
end Go.Proofs.YthpagppipifgeaaGreatDoor
