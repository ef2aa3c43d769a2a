/- Plain: which policies may be; how many nodes they have, and how deep they are. -/
import Derived.Test.YthpagppipifgeaaGreatDoorLTree
namespace Go.Proofs.YthpagppipifgeaaGreatDoor
open Go.RowKit

/-- A byte of a name; a byte of a literal. -/
def nmC (c : UInt8) : Bool := (decide (97 ≤ c.toNat) && decide (c.toNat ≤ 122)) || (decide (48 ≤ c.toNat) && decide (c.toNat ≤ 57)) || c.toNat == 95 || c.toNat == 45
def ltC (c : UInt8) : Bool := decide (32 ≤ c.toNat) && decide (c.toNat ≤ 126)
def nameB (s : ByteArray) : Bool := decide (1 ≤ s.size) && decide (s.size ≤ 32) && s.data.toList.all nmC
def litB (s : ByteArray) : Bool := decide (s.size ≤ 64) && s.data.toList.all ltC
/-- The text that is none. -/
def e0 : ByteArray := ⟨#[]⟩
def plainB (o : Int) (n t : ByteArray) : Bool := decide (o = 0) && decide (n.toList = []) && decide (t.toList = [])
/-- A node of l parts, of which each may be where m is true. -/
def nodeB (k o : Int) (n t : ByteArray) (l : Nat) (m : Bool) : Bool :=
  if k = 0 then plainB o n t && decide (l = 0)
  else if k = 1 then plainB o n t && decide (l = 1) && m
  else if k = 2 ∨ k = 3 then plainB o n t && decide (2 ≤ l) && m
  else if k = 4 ∨ k = 5 ∨ k = 6 then decide (l = 0) && decide (0 ≤ o) && decide (o < 4) && (if o = 2 ∨ o = 3 then nameB n else decide (n.toList = [])) && litB t
  else false
def Fo.may : Fo → Bool
  | .nil => true
  | .cons k o n t kids nx => nodeB k o n t kids.len kids.may && nx.may
def mayP (k o : Int) (n t : ByteArray) (F : Fo) : Bool := nodeB k o n t F.len F.may
/-- The nodes of a forest behind a number of them, as they are counted; how deep it is. -/
def Fo.nds : Fo → Int → Int
  | .nil, a => a
  | .cons _ _ _ _ kids nx, a => nx.nds (wrap64 (a + wrap64 (kids.nds 0 + 1)))
def Fo.dep : Fo → Int → Int
  | .nil, a => a
  | .cons _ _ _ _ kids nx, a => nx.dep (max a (wrap64 (kids.dep 0 + 1)))
def ndsP (F : Fo) : Int := wrap64 (F.nds 0 + 1)
def depP (F : Fo) : Int := wrap64 (F.dep 0 + 1)
def smallP (F : Fo) : Bool := decide (ndsP F ≤ 64) && decide (depP F ≤ 16)
/-- Check's answer. -/
def chkP (k o : Int) (n t : ByteArray) (F : Fo) : Int := if mayP k o n t F then (if smallP F then 0 else 201) else 202
end Go.Proofs.YthpagppipifgeaaGreatDoor
