/- The plain meaning of chapter 6: values, their forms, and what bytes say. No program in sight. -/
namespace Go.Proofs.YtebhiplcoioenaaGreatDoor

abbrev Bs := List UInt8
theorem every_byte {P : UInt8 → Prop} (h : ∀ k : Fin 256, P (UInt8.ofNat k.val)) (c : UInt8) : P c := by
  have := h ⟨c.toNat, c.toNat_lt⟩
  simpa using this
/-- A list of values: the first one's class and tag, whether it is constructed, its bytes, its parts; and the others. -/
inductive Dr where
  | nil
  | cons (c t : Int) (k : Bool) (b : Bs) (kids next : Dr)
namespace Dr
def len : Dr → Nat
  | .nil => 0
  | .cons _ _ _ _ _ nx => nx.len + 1
def All (Q : Dr → Prop) : Dr → Prop
  | .nil => True
  | .cons _ _ _ _ kids nx => Q kids ∧ nx.All Q
theorem rec_all {Q : Dr → Prop} (h : ∀ F : Dr, F.All Q → Q F) (F : Dr) : Q F := h F (by
  induction F with
  | nil => trivial
  | cons c t k b kids nx ih1 ih2 => exact ⟨h kids ih1, ih2⟩)
def app : Dr → Dr → Dr
  | .nil, g => g
  | .cons c t k b kids nx, g => .cons c t k b kids (nx.app g)
theorem app_nil : ∀ f : Dr, f.app .nil = f
  | .nil => rfl
  | .cons c t k b kids nx => by show Dr.cons c t k b kids (nx.app .nil) = _; rw [app_nil nx]
theorem app_assoc : ∀ f g h : Dr, (f.app g).app h = f.app (g.app h)
  | .nil, _, _ => rfl
  | .cons c t k b kids nx, g, h => by show Dr.cons c t k b kids ((nx.app g).app h) = Dr.cons c t k b kids (nx.app (g.app h)); rw [app_assoc nx g h]
theorem len_app : ∀ f g : Dr, (f.app g).len = f.len + g.len
  | .nil, g => by show g.len = 0 + g.len; omega
  | .cons c t k b kids nx, g => by show (nx.app g).len + 1 = nx.len + 1 + g.len; rw [len_app nx g]; omega
/-- How much a list weighs. -/
def wt : Dr → Nat
  | .nil => 0
  | .cons _ _ _ b kids nx => b.length + 4 + kids.wt + nx.wt
end Dr

/-- Is there a tag of the class 0; is it constructed? -/
def thereB (t : Int) : Bool := t == 1 || t == 2 || t == 3 || t == 4 || t == 5 || t == 6 || t == 12 || t == 16 || t == 17 || t == 19 || t == 22 || t == 23 || t == 24
def consB (t : Int) : Bool := t == 16 || t == 17

/-- An OID's numbers, behind some bytes of one. -/
def grpS : Bs → Nat → Nat → Option (List Nat)
  | [], _, many => if many = 0 then some [] else none
  | b :: r, n, many =>
    if (many = 0 ∧ b = 128) ∨ many = 5 then none
    else if b.toNat < 128 then (if 2147483647 < n * 128 + b.toNat % 128 then none else (grpS r 0 0).map ((n * 128 + b.toNat % 128) :: ·))
    else grpS r (n * 128 + b.toNat % 128) (many + 1)
/-- An OID's numbers. -/
def groupsS (s : Bs) : Option (List Nat) := match grpS s 0 0 with
  | some (x :: l) => some (x :: l)
  | _ => none

/-- The number of digits, behind others. -/
def digF : Bs → Int → Int
  | [], n => n
  | b :: r, n => if b.toNat < 48 ∨ 57 < b.toNat then -1 else digF r (10 * n + (b.toNat - 48 : Nat))
def digS (s : Bs) : Int := digF s 0

def leapB (y : Nat) : Bool := (y % 4 == 0 && y % 100 != 0) || y % 400 == 0
/-- A month's days. -/
def lenM (y m : Nat) : Nat := if m = 4 ∨ m = 6 ∨ m = 9 ∨ m = 11 then 30 else if m = 2 then (if leapB y then 29 else 28) else 31
/-- The days of the years ahead of one. -/
def yearsS : Nat → Nat
  | 0 => 0
  | y + 1 => yearsS y + if leapB y then 366 else 365
/-- The days of a year's months ahead of one (months from 1 on). -/
def monthsS (y : Nat) : Nat → Nat
  | 0 => 0
  | 1 => 0
  | m + 2 => monthsS y (m + 1) + lenM y (m + 1)
def dayS (y m : Nat) : Nat := yearsS y + monthsS y m

/-- Six numbers as a time. -/
def timeS (y m d h i s : Nat) : Option Int :=
  if m < 1 ∨ 12 < m ∨ d < 1 ∨ lenM y m < d ∨ 23 < h ∨ 59 < i ∨ 59 < s then none
  else some (86400 * ((dayS y m : Int) + d - 1 - dayS 1970 1) + 3600 * h + 60 * i + s)
/-- The number of fifteen signs of a time. -/
def longS (s : Bs) : Option Int :=
  if s.length ≠ 15 ∨ s[14]? ≠ some 90 ∨ digS (s.take 14) < 0 then none
  else timeS (digS (s.take 4)).toNat (digS ((s.drop 4).take 2)).toNat (digS ((s.drop 6).take 2)).toNat (digS ((s.drop 8).take 2)).toNat (digS ((s.drop 10).take 2)).toNat (digS ((s.drop 12).take 2)).toNat
/-- The number of a time of the tag 23 or 24. -/
def momentS (t : Int) (s : Bs) : Option Int :=
  if t = 23 then (if s.length ≠ 13 then none else longS ((if (53 : UInt8) ≤ s.headD 0 then [49, 57] else [50, 48]) ++ s)) else longS s

/-- How many bytes a rune begins with has: 0: there is none. -/
def runeN : Bs → Nat
  | [] => 0
  | a :: r =>
    if a.toNat < 128 then 1
    else match r with
      | [] => 0
      | b :: r =>
        if 194 ≤ a.toNat ∧ a.toNat ≤ 223 then (if b.toNat / 64 = 2 then 2 else 0)
        else match r with
          | [] => 0
          | c :: r =>
            if 224 ≤ a.toNat ∧ a.toNat ≤ 239 then (if b.toNat / 64 = 2 ∧ c.toNat / 64 = 2 ∧ (a.toNat = 224 → 160 ≤ b.toNat) ∧ (a.toNat = 237 → b.toNat < 160) then 3 else 0)
            else match r with
              | [] => 0
              | d :: _ => if 240 ≤ a.toNat ∧ a.toNat ≤ 244 ∧ b.toNat / 64 = 2 ∧ c.toNat / 64 = 2 ∧ d.toNat / 64 = 2 ∧ (a.toNat = 240 → 144 ≤ b.toNat) ∧ (a.toNat = 244 → b.toNat < 144) then 4 else 0
/-- Are bytes UTF-8? (by fuel: as many steps as bytes) -/
def utfF : Nat → Bs → Bool
  | 0, s => s.isEmpty
  | f + 1, s => if s.isEmpty then true else if runeN s = 0 then false else utfF f (s.drop (runeN s))
def utfB (s : Bs) : Bool := utfF s.length s

def printC (c : UInt8) : Bool := [32, 39, 40, 41, 43, 44, 45, 46, 47, 58, 61, 63].contains c || (decide (65 ≤ c.toNat) && decide (c.toNat ≤ 90)) || (decide (97 ≤ c.toNat) && decide (c.toNat ≤ 122)) || (decide (48 ≤ c.toNat) && decide (c.toNat ≤ 57))
/-- May an integer's bytes be? -/
def intB : Bs → Bool
  | [] => false
  | [_] => true
  | a :: b :: _ => !((a == 0 && decide (b.toNat < 128)) || (a == 255 && decide (128 ≤ b.toNat)))
/-- May a row of digits be? -/
def bitsB : Bs → Bool
  | [] => false
  | a :: r => decide (a.toNat < 8) && (a == 0 || match r.getLast? with
    | none => false
    | some x => x.toNat % 2 ^ a.toNat == 0)
/-- Are these the bytes of a primitive value of the class 0? -/
def fineS (t : Int) (s : Bs) : Bool :=
  if t = 1 then s == [0] || s == [255]
  else if t = 2 then intB s
  else if t = 3 then bitsB s
  else if t = 5 then s.isEmpty
  else if t = 6 then (groupsS s).isSome
  else if t = 12 then utfB s
  else if t = 19 then s.all printC
  else if t = 22 then s.all (fun c => decide (c.toNat < 128))
  else if t = 23 ∨ t = 24 then (momentS t s).isSome
  else true

/-- What is wrong with a class and a tag. -/
def headE (c t : Int) (k : Bool) (b : Bs) (n : Nat) (deep : Nat) : Int :=
  if c < 0 ∨ 3 < c ∨ t < 0 ∨ 30 < t ∨ (c = 0 ∧ thereB t = false) then 62
  else if (c = 0 ∧ consB t ≠ k) ∨ (k = true ∧ b ≠ []) ∨ (k = false ∧ 0 < n) then 61
  else if k = true ∧ 16 ≤ deep then 63 else 0
/-- A value's first byte, and a length. -/
def fstS (c t : Int) (k : Bool) : UInt8 := UInt8.ofNat (64 * c.toNat + t.toNat + if k then 32 else 0)
def lenS (n : Nat) : Bs := if n < 128 then [UInt8.ofNat n] else if n < 256 then [129, UInt8.ofNat n] else [130, UInt8.ofNat (n / 256), UInt8.ofNat n]
def wholeS (c t : Int) (k : Bool) (s : Bs) : Bs := fstS c t k :: (lenS s.length ++ s)
/-- Values' forms. -/
def formsS : Dr → List Bs
  | .nil => []
  | .cons c t k b kids nx => wholeS c t k (if k then (formsS kids).flatten else b) :: formsS nx
/-- Is one text ahead of another, or the same? -/
def leB : Bs → Bs → Bool
  | [], _ => true
  | _ :: _, [] => false
  | a :: l, b :: r => if a.toNat < b.toNat then true else if b.toNat < a.toNat then false else leB l r
def riseB : List Bs → Bool
  | [] => true
  | [_] => true
  | a :: b :: l => leB a b && riseB (b :: l)
/-- What is wrong with values, within so many others. -/
def errsS : Dr → Nat → Int
  | .nil, _ => 0
  | .cons c t k b kids nx, d =>
    if headE c t k b kids.len d ≠ 0 then headE c t k b kids.len d
    else if k = false then (if c = 0 ∧ fineS t b = false then 61 else errsS nx d)
    else if errsS kids (d + 1) ≠ 0 then errsS kids (d + 1)
    else if c = 0 ∧ t = 17 ∧ riseB (formsS kids) = false then 61 else errsS nx d
/-- A value. -/
structure Dv where
  c : Int
  t : Int
  k : Bool
  b : Bs
  l : Dr
namespace Dv
def one (v : Dv) : Dr := .cons v.c v.t v.k v.b v.l .nil
def zero : Dv := ⟨0, 0, false, [], .nil⟩
def form (v : Dv) : Bs := wholeS v.c v.t v.k (if v.k then (formsS v.l).flatten else v.b)
def err (v : Dv) (d : Nat) : Int :=
  if headE v.c v.t v.k v.b v.l.len d ≠ 0 then headE v.c v.t v.k v.b v.l.len d
  else if v.k = false then (if v.c = 0 ∧ fineS v.t v.b = false then 61 else 0)
  else if errsS v.l (d + 1) ≠ 0 then errsS v.l (d + 1)
  else if v.c = 0 ∧ v.t = 17 ∧ riseB (formsS v.l) = false then 61 else 0
def check (v : Dv) : Int := if v.err 0 ≠ 0 then v.err 0 else if 16384 < v.form.length then 64 else 0
def print (v : Dv) : Bs × Int := if v.check = 0 then (v.form, 0) else ([], v.check)
end Dv

def size1 : Bs → Int × Nat × Bs
  | [] => (60, 0, [])
  | x :: r => if x.toNat < 128 then (61, 0, []) else (0, x.toNat, r)
def size2 : Bs → Int × Nat × Bs
  | [] => (60, 0, [])
  | [_] => (60, 0, [])
  | x :: y :: r => if x.toNat * 256 + y.toNat < 256 then (61, 0, []) else (0, x.toNat * 256 + y.toNat, r)
/-- A length: the error, the length, and what stands behind it. -/
def sizeS : Bs → Int × Nat × Bs
  | [] => (60, 0, [])
  | b :: r =>
    if b.toNat < 128 then (0, b.toNat, r)
    else if b.toNat = 128 ∨ 130 < b.toNat then (61, 0, [])
    else if b.toNat = 129 then size1 r else size2 r
/-- A value with which bytes begin; many: how its parts are read. The error, the value, and what stands behind it. -/
def rdB (deep : Nat) (many : Bs → Int × Dr) : Bs → Int × Dv × Bs
  | [] => (60, .zero, [])
  | x :: s =>
    let c : Int := (x.toNat / 64 : Nat); let t : Int := (x.toNat % 32 : Nat); let k := x.toNat / 32 % 2 == 1
    let e := headE c t k [] 0 deep
    if e ≠ 0 then (e, .zero, [])
    else
      let z := sizeS s
      if z.1 ≠ 0 then (z.1, .zero, [])
      else if z.2.2.length < z.2.1 then (60, .zero, [])
      else
        let inner := z.2.2.take z.2.1
        let more := z.2.2.drop z.2.1
        if k = false then (if c = 0 ∧ fineS t inner = false then (61, .zero, []) else (0, ⟨c, t, false, inner, .nil⟩, more))
        else
          let m := many inner
          if m.1 ≠ 0 then (m.1, .zero, [])
          else if c = 0 ∧ t = 17 ∧ riseB (formsS m.2) = false then (61, .zero, []) else (0, ⟨c, t, true, [], m.2⟩, more)
/-- Values one behind the other, to the end; one: how each is read (as many steps as bytes). -/
def rdsF (one : Bs → Int × Dv × Bs) : Nat → Bs → Int × Dr
  | 0, _ => (0, .nil)
  | f + 1, s =>
    if s.isEmpty then (0, .nil)
    else
      let x := one s
      if x.1 ≠ 0 then (x.1, .nil)
      else
        let m := rdsF one f x.2.2
        if m.1 ≠ 0 then (m.1, .nil) else (0, .cons x.2.1.c x.2.1.t x.2.1.k x.2.1.b x.2.1.l m.2)
def rdsS (one : Bs → Int × Dv × Bs) (s : Bs) : Int × Dr := rdsF one s.length s
/-- A value, with so many levels left. -/
def rdS : Nat → Bs → Int × Dv × Bs
  | 0 => rdB 16 (fun _ => (0, .nil))
  | h + 1 => rdB (15 - h) (rdsS (rdS h))
def parseS (s : Bs) : Dv × Int :=
  if 16384 < s.length then (.zero, 64)
  else
    let x := rdS 16 s
    if x.1 ≠ 0 then (.zero, x.1) else if x.2.2 ≠ [] then (.zero, 66) else (x.2.1, 0)
/-- Is a value of the class 0 and a tag, and may it be? -/
def Dv.isK (v : Dv) (t : Int) : Bool := v.c == 0 && v.t == t && v.check == 0
end Go.Proofs.YtebhiplcoioenaaGreatDoor
