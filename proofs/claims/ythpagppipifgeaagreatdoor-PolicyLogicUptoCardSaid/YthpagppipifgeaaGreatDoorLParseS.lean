/- Plain: how a policy is read. -/
import Derived.Test.YthpagppipifgeaaGreatDoorLOwn
namespace Go.Proofs.YthpagppipifgeaaGreatDoor
open Go.RowKit

def sAlways : List UInt8 := [97, 108, 119, 97, 121, 115]
def sNot : List UInt8 := [110, 111, 116]
def sAnd : List UInt8 := [97, 110, 100]
def sOr : List UInt8 := [111, 114]
def wOf (lv : Nat) : List UInt8 := if lv = 0 then sAnd else sOr
def kOf (lv : Nat) : Int := if lv = 0 then 2 else 3
def finP (lv : Nat) (acc : Fo) (q : Po) : Po := if acc.len = 1 then q else ⟨kOf lv, 0, e0, e0, acc⟩
abbrev PRes : Type := Option (Po × List UInt8)
/-- What binds closest; p reads the others. -/
def oneS (p : Nat → List UInt8 → PRes) (s : List UInt8) : PRes :=
  if (peekS (trL s)).2 = 40 then (match p 2 ((trL s).drop 1) with
    | none => none
    | some (q, r) => if (peekS (trL r)).2 = 41 then some (q, (trL r).drop 1) else none)
  else match wordS sAlways (trL s) with
    | some r => some (⟨0, 0, e0, e0, .nil⟩, r)
    | none => match wordS sNot (trL s) with
      | some r => (match p 0 r with
        | none => none
        | some (q, r') => some (⟨1, 0, e0, e0, .cons q.k q.o q.n q.t q.kids .nil⟩, r'))
      | none => if (peekS (trL s)).2 = 119 then testS (peekS (trL s)).1 ((trL s).drop (peekS (trL s)).1.length) else none
/-- Reading by fuel: nodes by their levels (0 closest), and what is behind the first of a list. -/
def pS : Nat → (Nat → List UInt8 → PRes) × (Nat → Fo → Po → List UInt8 → PRes)
  | 0 => (fun _ _ => none, fun _ _ _ _ => none)
  | f + 1 =>
    (fun lv s => match lv with
      | 0 => oneS (pS f).1 s
      | l + 1 => match (pS f).1 l s with
        | none => none
        | some (p, r) => (pS f).2 l (.cons p.k p.o p.n p.t p.kids .nil) p r,
     fun lv acc q s => match wordS (wOf lv) (trL s) with
      | none => some (finP lv acc q, trL s)
      | some r => match (pS f).1 lv r with
        | none => none
        | some (p, r') => (pS f).2 lv (acc.snoc p) p r')
def parseS (f lv : Nat) (s : List UInt8) : PRes := (pS f).1 lv s
def loopS (f lv : Nat) (acc : Fo) (q : Po) (s : List UInt8) : PRes := (pS f).2 lv acc q s
theorem parseS_one (f : Nat) (s : List UInt8) : parseS (f + 1) 0 s = oneS (parseS f) s := rfl
theorem parseS_list (f lv : Nat) (s : List UInt8) : parseS (f + 1) (lv + 1) s = (match parseS f lv s with
    | none => none
    | some (p, r) => loopS f lv (.cons p.k p.o p.n p.t p.kids .nil) p r) := rfl
theorem loopS_succ (f lv : Nat) (acc : Fo) (q : Po) (s : List UInt8) : loopS (f + 1) lv acc q s = (match wordS (wOf lv) (trL s) with
      | none => some (finP lv acc q, trL s)
      | some r => match parseS f lv r with
        | none => none
        | some (p, r') => loopS f lv (acc.snoc p) p r') := rfl
theorem literalS_le {s b r : List UInt8} (h : literalS s = some (b, r)) : r.length ≤ s.length := by
  have h1 := trL_le s
  unfold literalS at h
  cases hu : trL s with
  | nil => rw [hu] at h; cases h
  | cons c r' =>
    rw [hu] at h h1
    simp only at h
    split at h
    · cases hl : litS r' [] with
      | none => rw [hl] at h; cases h
      | some q =>
        obtain ⟨b', r2⟩ := q
        rw [hl] at h
        simp only at h
        split at h
        · cases h
          have := litE_le r' false [] b r hl
          simp only [List.length_cons] at h1
          omega
        · cases h
    · cases h
theorem opS_le {s r : List UInt8} {k : Int} (h : opS s = some (k, r)) : r.length ≤ s.length := by
  have h1 := trL_le s
  unfold opS at h
  split at h
  · next e => cases h; have := wordS_le e; omega
  · split at h
    · next e => cases h; have := wordS_le e; omega
    · split at h
      · next e => cases h; have := wordS_le e; omega
      · cases h
theorem testS_le {sub s r : List UInt8} {p : Po} (h : testS sub s = some (p, r)) : r.length ≤ s.length := by
  unfold testS at h
  split at h
  · cases h
  · split at h
    · cases h
    · next e =>
      split at h
      · cases h
      · next e2 => cases h; have := opS_le e; have := literalS_le e2; omega
theorem oneS_le {q : Nat → List UInt8 → PRes} (hq : ∀ lv s p r, q lv s = some (p, r) → r.length ≤ s.length) {s r : List UInt8} {p : Po} (h : oneS q s = some (p, r)) : r.length ≤ s.length := by
  have h1 := trL_le s
  unfold oneS at h
  split at h
  · split at h
    · cases h
    · next p2 r2 e =>
      have h2 := hq _ _ _ _ e
      have h3 := trL_le r2
      split at h
      · cases h
        simp only [List.length_drop] at h2 ⊢
        omega
      · cases h
  · split at h
    · next e => cases h; have := wordS_le e; omega
    · split at h
      · next e =>
        have h4 := wordS_le e
        split at h
        · cases h
        · next e2 => cases h; have := hq _ _ _ _ e2; omega
      · split at h
        · have := testS_le h
          simp only [List.length_drop] at this
          omega
        · cases h
theorem both_le : ∀ f, (∀ lv s p r, parseS f lv s = some (p, r) → r.length ≤ s.length) ∧ (∀ lv acc q s p r, loopS f lv acc q s = some (p, r) → r.length ≤ s.length) := by
  intro f
  induction f with
  | zero => exact ⟨fun _ _ _ _ h => (nomatch h), fun _ _ _ _ _ _ h => (nomatch h)⟩
  | succ f ih =>
    constructor
    · intro lv s p r h
      cases lv with
      | zero => rw [parseS_one] at h; exact oneS_le ih.1 h
      | succ lv =>
        rw [parseS_list] at h
        split at h
        · cases h
        · next e => have h2 := ih.1 _ _ _ _ e; have h3 := ih.2 _ _ _ _ _ _ h; omega
    · intro lv acc q s p r h
      have h1 := trL_le s
      rw [loopS_succ] at h
      split at h
      · cases h; exact h1
      · next e =>
        have h4 := wordS_le e
        split at h
        · cases h
        · next e2 => have h2 := ih.1 _ _ _ _ e2; have h3 := ih.2 _ _ _ _ _ _ h; omega
theorem parseS_le {f lv : Nat} {s r : List UInt8} {p : Po} (h : parseS f lv s = some (p, r)) : r.length ≤ s.length := (both_le f).1 _ _ _ _ h
theorem wordS_lt {wd u r : List UInt8} (h : wordS wd u = some r) : r.length + wd.length ≤ u.length := by
  unfold wordS at h
  split at h
  · next hp =>
    cases h
    have := peek_fst_le u
    rw [hp] at this
    simp only at this
    rw [List.length_drop]; omega
  · cases h
theorem wOf_len (lv : Nat) : 2 ≤ (wOf lv).length := by unfold wOf; split <;> decide
end Go.Proofs.YthpagppipifgeaaGreatDoor
