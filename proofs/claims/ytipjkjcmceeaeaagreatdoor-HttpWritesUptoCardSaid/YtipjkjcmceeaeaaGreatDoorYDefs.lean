/- Plain: requests and replies as bytes: what may be, how it is laid, how it is read. -/
import Derived.Lib.SplitLaws
import Derived.Lib.TrimByte
import Derived.Lib.ItoaNum
namespace Go.Proofs.YtipjkjcmceeaeaaGreatDoor
open Go

abbrev Bs := List UInt8
/-- A field: its name and its value. -/
abbrev Hd := Bs × Bs
structure Rq where
  m : Bs
  t : Bs
  hs : List Hd
  b : Bs
def zRq : Rq := ⟨[], [], [], []⟩
def upC (c : UInt8) : Bool := decide (65 ≤ c.toNat ∧ c.toNat ≤ 90)
def dgC (c : UInt8) : Bool := decide (48 ≤ c.toNat ∧ c.toNat ≤ 57)
def smC (c : UInt8) : Bool := decide (97 ≤ c.toNat ∧ c.toNat ≤ 122) || dgC c || decide (c.toNat = 45)
def hoC (c : UInt8) : Bool := smC c || upC c || decide (c.toNat = 46) || decide (c.toNat = 58)
def plC (c : UInt8) : Bool := decide (32 ≤ c.toNat ∧ c.toNat ≤ 126)
def taC (c : UInt8) : Bool := decide (33 ≤ c.toNat ∧ c.toNat ≤ 126 ∧ c.toNat ≠ 35)
def nmC (c : UInt8) : Bool := smC c || upC c
def noC (c : UInt8) : Bool := smC c || upC c || decide (c.toNat = 95)
def heC (c : UInt8) : Bool := dgC c || decide (65 ≤ c.toNat ∧ c.toNat ≤ 70) || decide (97 ≤ c.toNat ∧ c.toNat ≤ 102)
/-- So many bytes, all of them such. -/
def ofB (l h : Nat) (p : UInt8 → Bool) (s : Bs) : Bool := s.all p && decide (l ≤ s.length) && decide (s.length ≤ h)
def trimS (s : Bs) : Bs := Lib.trimB s 32
def lowC (c : UInt8) : UInt8 := if upC c then c ||| 32 else c
def lowS (s : Bs) : Bs := s.map lowC
def wHost : Bs := [104, 111, 115, 116]
def wCl : Bs := [99, 111, 110, 116, 101, 110, 116, 45, 108, 101, 110, 103, 116, 104]
def wTe : Bs := [116, 114, 97, 110, 115, 102, 101, 114, 45, 101, 110, 99, 111, 100, 105, 110, 103]
def wChunked : Bs := [99, 104, 117, 110, 107, 101, 100]
def wHttp : Bs := [72, 84, 84, 80, 47, 49, 46, 49]
def wNonce : Bs := [100, 112, 111, 112, 45, 110, 111, 110, 99, 101]
def CRLF : Bs := [13, 10]
def HEND : Bs := [13, 10, 13, 10]
/-- May a field stand in Heads? -/
def fieldB (h : Hd) : Bool := decide (h.1 ≠ wCl) && decide (h.1 ≠ wTe) && (!decide (h.1 = wHost) || ofB 1 255 hoC h.2) && ofB 1 64 smC h.1 && h.2.all plC && decide (trimS h.2 = h.2)
def hosts (hs : List Hd) : Nat := (hs.filter fun h => decide (h.1 = wHost)).length
/-- May a request be, but for sizes? -/
def formB (q : Rq) : Bool := ofB 1 16 upC q.m && ofB 1 1024 taC q.t && decide (q.t.head? = some 47) && q.hs.all fieldB && decide (hosts q.hs = 1)
def numS (n : Nat) : Bs := Lib.decDigits n
def lineS (h : Hd) : Bs := h.1 ++ [58, 32] ++ h.2 ++ CRLF
def linesS (hs : List Hd) : Bs := (hs.map lineS).flatten
/-- A request's head. -/
def headS (q : Rq) : Bs := q.m ++ [32] ++ q.t ++ [32] ++ wHttp ++ CRLF ++ linesS q.hs ++ (if q.b = [] then [] else wCl ++ [58, 32] ++ numS q.b.length ++ CRLF) ++ CRLF
def checkS (q : Rq) : Int := if 31 < q.hs.length then 152 else if formB q = false then 151 else if 8192 < q.b.length ∨ 8192 < (headS q).length then 152 else 0
def printS (q : Rq) : Bs × Int := if checkS q = 0 then (headS q ++ q.b, 0) else ([], checkS q)

/-- A text cut at the first of a mark. -/
def cutA (sep s : Bs) : Option (Bs × Bs) := if 0 ≤ Lib.index s sep then some (s.take (Lib.index s sep).toNat, s.drop ((Lib.index s sep).toNat + sep.length)) else none
def splitS (sep s : Bs) : List Bs := Lib.split s sep
def decV : Nat → Bs → Nat
  | n, [] => n
  | n, c :: r => decV (10 * n + (c.toNat - 48)) r
/-- A line of a field: its name in small letters, its value without blanks. -/
def lineH (l : Bs) : Option Hd := match cutA [58] l with
  | none => none
  | some (n, v) => if ofB 1 64 nmC n = true then some (lowS n, trimS v) else none
/-- What a field says of the body's length: none: it is wrong; some none: it comes in chunks. -/
def lenF (h : Hd) : Option (Option Nat) :=
  if h.1 = wTe then (if lowS h.2 = wChunked then some none else none)
  else if ofB 1 9 dgC h.2 = true ∧ ¬ (h.2.head? = some 48 ∧ h.2 ≠ [48]) then some (some (decV 0 h.2)) else none
/-- The fields of lines: those that stand in Heads, the body's length, how many tell that. -/
def readL : List Bs → List Hd → Option Nat → Nat → Option (List Hd × Option Nat × Nat)
  | [], hs, b, k => some (hs, b, k)
  | l :: r, hs, b, k => match lineH l with
    | none => none
    | some h => if h.1 = wCl ∨ h.1 = wTe then (match lenF h with
        | none => none
        | some b' => readL r hs b' (k + 1))
      else readL r (hs ++ [h]) b k
/-- What is read of a first line's words and further lines. -/
def readLines (m t : Bs) (L : List Bs) : Except Int (Rq × Option Nat) :=
  match readL L [] (some 0) 0 with
  | none => .error 151
  | some (hs, b, k) => if 1 < k ∨ 31 < hs.length ∨ formB ⟨m, t, hs, []⟩ = false then .error 151 else .ok (⟨m, t, hs, []⟩, b)
/-- What is read of a head, without its empty line. -/
def readH (s : Bs) : Except Int (Rq × Option Nat) :=
  if 33 < (splitS CRLF s).length then .error 152 else
  match splitS CRLF s with
  | [] => .error 151
  | l0 :: r => match splitS [32] l0 with
    | [m, t, v] => if v = wHttp then readLines m t r else .error 151
    | _ => .error 151
def hexV (c : UInt8) : Nat := if dgC c then c.toNat - 48 else (c ||| 32).toNat - 87
def hexN : Nat → Bs → Nat
  | n, [] => n
  | n, c :: r => hexN (16 * n + hexV c) r
/-- The digits at the beginning, four at most. -/
def hexD (s : Bs) : Bs := (s.take 4).takeWhile heC
/-- Is a text the beginning of what is wanted here, or the other way round? -/
def begCR (s : Bs) : Bool := decide (s.take 2 = CRLF.take (s.take 2).length)
inductive LR where
  | bad
  | short
  | num (n i : Nat) (r : Bs)
/-- The line at a chunk's beginning. -/
def lineC (s : Bs) : LR :=
  if (hexD s = [] ∧ s ≠ []) ∨ begCR (s.drop (hexD s).length) = false then .bad
  else if s.length < (hexD s).length + 2 then .short
  else .num (hexN 0 (hexD s)) (hexD s).length (s.drop ((hexD s).length + 2))
inductive CR where
  | bad
  | short
  | done (b r : Bs)
/-- A body in chunks. -/
def chunkS : Nat → Bs → Bs → CR
  | 0, _, _ => .short
  | f + 1, body, s => match lineC s with
    | .bad => .bad
    | .short => .short
    | .num n i r =>
      if 8192 < body.length + n ∨ (n = 0 ∧ i ≠ 1) then .bad
      else if begCR (r.drop n) = false then .bad
      else if r.length < n + 2 then .short
      else if n = 0 then .done body (r.drop 2)
      else chunkS f (body ++ r.take n) (r.drop (n + 2))
/-- A request with its body: so many bytes all, so many of them the head, and what stands behind that. -/
def withBody (all head : Nat) (r : Bs) : Except Int (Rq × Option Nat) → Except Int (Rq × Nat)
  | .error e => .error e
  | .ok (q, none) => (match chunkS (r.length + 1) [] r with
    | .bad => .error 153
    | .short => .error 150
    | .done b r' => .ok ({ q with b := b }, all - r'.length))
  | .ok (q, some n) => if 8192 < n then .error 153 else if r.length < n then .error 150 else .ok ({ q with b := r.take n }, head + n)
/-- What bytes say as a request: the request and how many bytes it has, or what is wrong. -/
def parseQ (s : Bs) : Except Int (Rq × Nat) :=
  match cutA HEND s with
  | none => if 8192 < s.length then .error 152 else .error 150
  | some (t, r) => if 8192 < t.length + 4 then .error 152 else withBody s.length (t.length + 4) r (readH t)
/-- As the program tells it: a request, a number, what is wrong. -/
def parseV (s : Bs) : Rq × Nat × Int := match parseQ s with
  | .error e => (zRq, 0, e)
  | .ok (q, n) => (q, n, 0)
def getS (q : Rq) (n : Bs) : List Bs := (q.hs.filter fun h => decide (h.1 = n)).map (·.2)
def labelS (q : Rq) : Bs := match getS q wHost with
  | [] => []
  | v :: _ => lowS (v.takeWhile fun c => !(decide (c.toNat = 46) || decide (c.toNat = 58)))
def wordS (n : Int) : Bs :=
  if n = 200 then [79, 75]
  else if n = 400 then [66, 97, 100, 32, 82, 101, 113, 117, 101, 115, 116]
  else if n = 401 then [85, 110, 97, 117, 116, 104, 111, 114, 105, 122, 101, 100]
  else if n = 403 then [70, 111, 114, 98, 105, 100, 100, 101, 110]
  else if n = 404 then [78, 111, 116, 32, 70, 111, 117, 110, 100]
  else if n = 431 then [82, 101, 113, 117, 101, 115, 116, 32, 72, 101, 97, 100, 101, 114, 32, 70, 105, 101, 108, 100, 115, 32, 84, 111, 111, 32, 76, 97, 114, 103, 101]
  else if n = 503 then [83, 101, 114, 118, 105, 99, 101, 32, 85, 110, 97, 118, 97, 105, 108, 97, 98, 108, 101]
  else []
/-- A reply: its status, its nonce, its body. -/
structure Rp where
  s : Int
  n : Bs
  b : Bs
def answerS (r : Rp) : Bs × Int :=
  if wordS r.s = [] ∨ ofB 0 128 noC r.n = false ∨ 8192 < r.b.length then ([], 1)
  else (wHttp ++ [32] ++ numS r.s.toNat ++ [32] ++ wordS r.s ++ CRLF ++ (if r.n = [] then [] else wNonce ++ [58, 32] ++ r.n ++ CRLF) ++ wCl ++ [58, 32] ++ numS r.b.length ++ HEND ++ r.b, 0)
theorem every_byte {P : UInt8 → Prop} (h : ∀ k : Fin 256, P (UInt8.ofNat k.val)) (c : UInt8) : P c := by
  have := h ⟨c.toNat, UInt8.toNat_lt c⟩
  rwa [UInt8.ofNat_toNat] at this
end Go.Proofs.YtipjkjcmceeaeaaGreatDoor
