/- Facts in memory; what a test looks at; which policies hold. -/
import Derived.Test.YthpagppipifgeaaGreatDoorZLA
import Derived.Test.YthpagppipifgeaaGreatDoorZLX
import Derived.Test.YthpagppipifgeaaGreatDoorShelf
import Derived.Deep.Light
namespace Go.Proofs.YthpagppipifgeaaGreatDoor
open Go.RowKit

/-- A slice of texts. -/
structure SlS (w : World) (l : List ByteArray) (ad : Option Addr) (c : Nat) : Prop where
  le : l.length ≤ c
  cm : c ≤ MX
  at_ : ∃ b f, (ad = some ⟨b, f, none⟩ ∨ (ad = ad ∧ l.length = 0)) ∧ ∀ j s, l[j]? = some s → w.cell? ⟨b, f + j, none⟩ = some (.string s)
theorem SlS.below {w w' : World} {B : Nat} {l : List ByteArray} {ad : Option Addr} {c : Nat} (h : SlS w l ad c) (hb : Below B w w') (hB : w.heap.size ≤ B) : SlS w' l ad c := by
  obtain ⟨h1, h2, b, f, h3, h4⟩ := h
  refine ⟨h1, h2, b, f, h3, fun j s hj => ?_⟩
  have := h4 j s hj
  exact (hb.cell (p := ⟨b, f + j, none⟩) (Nat.lt_of_lt_of_le (World.block_lt_of_cell? w _ this) hB)).trans this
abbrev Fact : Type := ByteArray × List ByteArray
def RowX (w : World) : List Fact → Nat → Nat → Prop
  | [], _, _ => True
  | x :: r, b, f => (∃ ad c, w.cell? ⟨b, f, none⟩ = some (.string x.1) ∧ w.cell? ⟨b, f + 1, none⟩ = some (.slice ad x.2.length c) ∧ SlS w x.2 ad c) ∧ RowX w r b (f + 2)
theorem RowX.below {w w' : World} {B : Nat} (hb : Below B w w') (hB : w.heap.size ≤ B) : ∀ {l : List Fact} {b f : Nat}, RowX w l b f → RowX w' l b f := by
  intro l
  induction l with
  | nil => exact fun _ => trivial
  | cons x r ih =>
    rintro b f ⟨⟨ad, c, h0, h1, h2⟩, hn⟩
    have hlt : b < w.heap.size := World.block_lt_of_cell? w _ h0
    have hc : ∀ i, w'.cell? ⟨b, f + i, none⟩ = w.cell? ⟨b, f + i, none⟩ := fun i => hb.cell (p := ⟨b, f + i, none⟩) (Nat.lt_of_lt_of_le hlt hB)
    exact ⟨⟨ad, c, (hc 0).trans h0, (hc 1).trans h1, h2.below hb hB⟩, ih hn⟩
structure SlX (w : World) (l : List Fact) (ad : Option Addr) (c : Nat) : Prop where
  le : l.length ≤ c
  cm : c ≤ MX
  at_ : ∃ b f, (ad = some ⟨b, f, none⟩ ∨ (ad = ad ∧ l.length = 0)) ∧ RowX w l b f
theorem SlX.below {w w' : World} {B : Nat} {l : List Fact} {ad : Option Addr} {c : Nat} (h : SlX w l ad c) (hb : Below B w w') (hB : w.heap.size ≤ B) : SlX w' l ad c := by
  obtain ⟨h1, h2, b, f, h3, h4⟩ := h
  exact ⟨h1, h2, b, f, h3, h4.below hb hB⟩
/-- What is known of a request. -/
structure Fx where
  m : ByteArray
  p : ByteArray
  cl : List Fact
  ce : List Fact
  a1 : Option Addr
  c1 : Nat
  a2 : Option Addr
  c2 : Nat
@[reducible] def Fx.v (x : Fx) : Value := .agg #[.string x.m, .string x.p, .slice x.a1 x.cl.length x.c1, .slice x.a2 x.ce.length x.c2]
structure FxAt (w : World) (x : Fx) : Prop where
  cl : SlX w x.cl x.a1 x.c1
  ce : SlX w x.ce x.a2 x.c2
theorem FxAt.below {w w' : World} {B : Nat} {x : Fx} (h : FxAt w x) (hb : Below B w w') (hB : w.heap.size ≤ B) : FxAt w' x := ⟨h.cl.below hb hB, h.ce.below hb hB⟩

/-- The texts of the first fact of a name. -/
def lookF : List Fact → ByteArray → List ByteArray
  | [], _ => []
  | x :: r, n => if x.1.toList = n.toList then x.2 else lookF r n
def textsP (o : Int) (n : ByteArray) (x : Fx) : List ByteArray :=
  if o = 0 then [x.m] else if o = 1 then [x.p] else if o = 3 then lookF x.ce n else lookF x.cl n
def prefB (s p : ByteArray) : Bool := Lib.hasPrefix s.data.toList p.data.toList
def testB (k : Int) (l : List ByteArray) (t : ByteArray) : Bool :=
  if k = 4 then (match l with | [x] => decide (x.toList = t.toList) | _ => false)
  else if k = 5 then (match l with | [x] => prefB x t | _ => false)
  else l.any fun x => decide (x.toList = t.toList)
/-- Does a node hold, where 'a' tells whether all of its parts do, and whether one does? -/
def holdN (x : Fx) (k o : Int) (n t : ByteArray) (a : Bool × Bool) : Bool :=
  if k = 0 then true else if k = 1 then !a.1 else if k = 2 then a.1 else if k = 3 then a.2 else testB k (textsP o n x) t
def Fo.hold (x : Fx) : Fo → Bool × Bool
  | .nil => (true, false)
  | .cons k o n t kids nx => (holdN x k o n t (kids.hold x) && (nx.hold x).1, holdN x k o n t (kids.hold x) || (nx.hold x).2)
def holdP (x : Fx) (k o : Int) (n t : ByteArray) (F : Fo) : Bool := holdN x k o n t (F.hold x)
theorem any_hold (x : Fx) (F : Fo) : F.any (fun k o n t K => holdP x k o n t K) = (F.hold x).2 := by
  induction F with
  | nil => rfl
  | cons k o n t kids nx _ ih => simp only [Fo.any, Fo.hold]; rw [ih]; rfl
theorem any_unhold (x : Fx) (F : Fo) : F.any (fun k o n t K => !holdP x k o n t K) = !(F.hold x).1 := by
  induction F with
  | nil => rfl
  | cons k o n t kids nx _ ih => simp only [Fo.any, Fo.hold]; rw [ih]; show (!holdN x k o n t (kids.hold x) || !(nx.hold x).1) = _; cases holdN x k o n t (kids.hold x) <;> simp
/-- Holds' answer. -/
def holdsP (x : Fx) (k o : Int) (n t : ByteArray) (F : Fo) : Bool := decide (chkP k o n t F = 0) && holdP x k o n t F
end Go.Proofs.YthpagppipifgeaaGreatDoor
