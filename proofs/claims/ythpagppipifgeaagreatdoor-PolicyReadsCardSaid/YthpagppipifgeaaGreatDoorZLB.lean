/- LOwn LParseS LTextS LReplS, in one text. -/
import Derived.Test.YthpagppipifgeaaGreatDoorZLTest
/- Policies in memory of one's own: rows whose blocks are known to be of a kind; rows that grow. -/
namespace Go.Proofs.YthpagppipifgeaaGreatDoor
open Go.RowKit

/-- As Row; and each block that it lies in is a Q. -/
def RowQ (Q : Nat → Prop) (w : World) : Fo → Nat → Nat → Prop
  | .nil, _, _ => True
  | .cons k o n t kids nx, b, f =>
    (Q b ∧ ∃ (ad : Option Addr) (c b1 f1 : Nat), w.cell? ⟨b, f, none⟩ = some (.int .i64 k) ∧ w.cell? ⟨b, f + 1, none⟩ = some (.int .i64 o) ∧ w.cell? ⟨b, f + 2, none⟩ = some (.string n)
      ∧ w.cell? ⟨b, f + 3, none⟩ = some (.string t) ∧ w.cell? ⟨b, f + 4, none⟩ = some (.slice ad kids.len c) ∧ n.size ≤ SB ∧ t.size ≤ SB ∧ kids.len ≤ c ∧ c ≤ MX
      ∧ (ad = some ⟨b1, f1, none⟩ ∨ (ad = ad ∧ kids.len = 0)) ∧ RowQ Q w kids b1 f1) ∧ RowQ Q w nx b (f + 5)
theorem RowQ.row {Q : Nat → Prop} {w : World} : ∀ {F : Fo} {b f : Nat}, RowQ Q w F b f → Row w F b f := by
  intro F
  induction F with
  | nil => exact fun _ => trivial
  | cons k o n t kids nx ih1 ih2 =>
    rintro b f ⟨⟨_, ad, c, b1, f1, h0, h1, h2, h3, h4, r1, r2, r3, r4, r5, r6⟩, hn⟩
    exact ⟨⟨ad, c, b1, f1, h0, h1, h2, h3, h4, r1, r2, r3, r4, r5, ih1 r6⟩, ih2 hn⟩
/-- It goes over into each world that holds the same in those blocks, and says of them what else is known. -/
theorem RowQ.same {Q Q' : Nat → Prop} {w w' : World} (hq : ∀ k, Q k → k < w.heap.size → Q' k) (hs : ∀ k, Q k → k < w.heap.size → w'.heap[k]? = w.heap[k]?) : ∀ {F : Fo} {b f : Nat}, RowQ Q w F b f → RowQ Q' w' F b f := by
  intro F
  induction F with
  | nil => exact fun _ => trivial
  | cons k o n t kids nx ih1 ih2 =>
    rintro b f ⟨⟨hQ, ad, c, b1, f1, h0, h1, h2, h3, h4, r1, r2, r3, r4, r5, r6⟩, hn⟩
    have hlt : b < w.heap.size := World.block_lt_of_cell? w _ h0
    have hc : ∀ i, w'.cell? ⟨b, f + i, none⟩ = w.cell? ⟨b, f + i, none⟩ := fun i => World.cell?_of_block (w := w) (w' := w') (hs b hQ hlt)
    exact ⟨⟨hq b hQ hlt, ad, c, b1, f1, (hc 0).trans h0, (hc 1).trans h1, (hc 2).trans h2, (hc 3).trans h3, (hc 4).trans h4, r1, r2, r3, r4, r5, ih1 r6⟩, ih2 hn⟩
structure SlQ (Q : Nat → Prop) (w : World) (F : Fo) (ad : Option Addr) (c : Nat) : Prop where
  le : F.len ≤ c
  cm : c ≤ MX
  at_ : ∃ b f, (ad = some ⟨b, f, none⟩ ∨ (ad = ad ∧ F.len = 0)) ∧ RowQ Q w F b f
theorem SlQ.slf {Q : Nat → Prop} {w : World} {F : Fo} {ad : Option Addr} {c : Nat} (h : SlQ Q w F ad c) : SlF w F ad c := by
  obtain ⟨h1, h2, b, f, h3, h4⟩ := h
  exact ⟨h1, h2, b, f, h3, h4.row⟩
theorem SlQ.same {Q Q' : Nat → Prop} {w w' : World} {F : Fo} {ad : Option Addr} {c : Nat} (h : SlQ Q w F ad c) (hq : ∀ k, Q k → k < w.heap.size → Q' k) (hs : ∀ k, Q k → k < w.heap.size → w'.heap[k]? = w.heap[k]?) : SlQ Q' w' F ad c := by
  obtain ⟨h1, h2, b, f, h3, h4⟩ := h
  exact ⟨h1, h2, b, f, h3, h4.same hq hs⟩
theorem SlQ.nil (Q : Nat → Prop) (w : World) : SlQ Q w .nil none 0 := ⟨Nat.le_refl _, by decide, 0, 0, Or.inr ⟨rfl, rfl⟩, trivial⟩

/-- The cells of a policy. -/
def pcl (p : Po) (ad : Option Addr) (c : Nat) : List Value := [.int .i64 p.k, .int .i64 p.o, .string p.n, .string p.t, .slice ad p.kids.len c]
def Fo.snoc : Fo → Po → Fo
  | .nil, p => .cons p.k p.o p.n p.t p.kids .nil
  | .cons k o n t kids nx, p => .cons k o n t kids (nx.snoc p)
theorem Fo.snoc_len (F : Fo) (p : Po) : (F.snoc p).len = F.len + 1 := by
  induction F with
  | nil => rfl
  | cons k o n t kids nx _ ih => simp only [Fo.snoc, Fo.len]; omega
/-- The cells of a list of policies, one policy behind the other. -/
def Chk (Q : Nat → Prop) (w : World) : Fo → List Value → Prop
  | .nil, xs => xs = []
  | .cons k o n t kids nx, xs => ∃ (ad : Option Addr) (c : Nat) (ys : List Value), xs = pcl ⟨k, o, n, t, kids⟩ ad c ++ ys ∧ n.size ≤ SB ∧ t.size ≤ SB ∧ SlQ Q w kids ad c ∧ Chk Q w nx ys
theorem Chk.same {Q Q' : Nat → Prop} {w w' : World} (hq : ∀ k, Q k → k < w.heap.size → Q' k) (hs : ∀ k, Q k → k < w.heap.size → w'.heap[k]? = w.heap[k]?) : ∀ {F : Fo} {xs : List Value}, Chk Q w F xs → Chk Q' w' F xs := by
  intro F
  induction F with
  | nil => exact fun h => h
  | cons k o n t kids nx _ ih =>
    rintro xs ⟨ad, c, ys, h1, h2, h3, h4, h5⟩
    exact ⟨ad, c, ys, h1, h2, h3, h4.same hq hs, ih h5⟩
theorem Chk.snoc {Q : Nat → Prop} {w : World} {p : Po} {ad : Option Addr} {c : Nat} (hn : p.n.size ≤ SB) (ht : p.t.size ≤ SB) (hk : SlQ Q w p.kids ad c) : ∀ {F : Fo} {xs : List Value}, Chk Q w F xs → Chk Q w (F.snoc p) (xs ++ pcl p ad c) := by
  intro F
  induction F with
  | nil => intro xs h; obtain rfl : xs = [] := h; exact ⟨ad, c, [], by simp, hn, ht, hk, rfl⟩
  | cons k o n t kids nx _ ih =>
    rintro xs ⟨a1, c1, ys, rfl, h2, h3, h4, h5⟩
    exact ⟨a1, c1, ys ++ pcl p ad c, by simp [pcl], h2, h3, h4, ih h5⟩
theorem Chk.len {Q : Nat → Prop} {w : World} : ∀ {F : Fo} {xs : List Value}, Chk Q w F xs → xs.length = F.len * 5 := by
  intro F
  induction F with
  | nil => intro xs h; obtain rfl : xs = [] := h; rfl
  | cons k o n t kids nx _ ih =>
    rintro xs ⟨a1, c1, ys, rfl, h2, h3, h4, h5⟩
    have := ih h5
    simp only [pcl, List.length_append, List.length_cons, List.length_nil, Fo.len]; omega
/-- Such cells in a block make a row. -/
theorem Chk.row {Q : Nat → Prop} {w : World} {g : Nat} (hQ : Q g) : ∀ {F : Fo} {xs : List Value} {f : Nat}, Chk Q w F xs → (∀ j v, xs[j]? = some v → w.cell? ⟨g, f + j, none⟩ = some v) → RowQ Q w F g f := by
  intro F
  induction F with
  | nil => exact fun _ _ => trivial
  | cons k o n t kids nx _ ih =>
    rintro xs f ⟨ad, c, ys, rfl, h2, h3, ⟨h4, h5, b1, f1, h6, h7⟩, h8⟩ hc
    refine ⟨⟨hQ, ad, c, b1, f1, hc 0 _ rfl, hc 1 _ rfl, hc 2 _ rfl, hc 3 _ rfl, hc 4 _ rfl, h2, h3, h4, h5, h6, h7⟩, ih h8 fun j v hj => ?_⟩
    have := hc (5 + j) v (by
      rw [List.getElem?_append_right (by simp [pcl])]
      simpa [pcl] using hj)
    rwa [show f + (5 + j) = f + 5 + j by omega] at this
theorem Chk.slq {Q : Nat → Prop} {w : World} {B : Nat} {e : TypeId} {F : Fo} {xs : List Value} {v : Value} (h : Chk Q w F xs) (hown : w.ownsRow B e 5 v F.len xs) (hQ : ∀ g c, v = .slice (some ⟨g, 0, none⟩) F.len c → Q g) : ∃ ad c, v = .slice ad F.len c ∧ SlQ Q w F ad c := by
  obtain ⟨h1, ⟨hv, h0⟩ | ⟨g, cap, cur, hv, hg, hh, hnc, hcm, hcs, ht⟩⟩ := hown
  · have hF : F = .nil := by cases F with | nil => rfl | cons => simp [Fo.len] at h0
    subst hF
    exact ⟨none, 0, hv, SlQ.nil Q w⟩
  · refine ⟨_, _, hv, hnc, hcm, g, 0, Or.inl rfl, h.row (hQ g cap hv) fun j v hj => ?_⟩
    have hjl : j < xs.length := (List.getElem?_eq_some_iff.1 hj).1
    rw [Nat.zero_add]
    simp only [World.cell?, hh]
    rw [← ht, List.getElem?_take] at hj
    split at hj
    · simpa using hj
    · cases hj
end Go.Proofs.YthpagppipifgeaaGreatDoor
/- Plain: how a policy is read. -/
namespace Go.Proofs.YthpagppipifgeaaGreatDoor
open Go.RowKit

def sAlways : List UInt8 := [97, 108, 119, 97, 121, 115]
def sNot : List UInt8 := [110, 111, 116]
def sAnd : List UInt8 := [97, 110, 100]
def sOr : List UInt8 := [111, 114]
def wOf (lv : Nat) : List UInt8 := if lv = 0 then sAnd else sOr
def kOf (lv : Nat) : Int := if lv = 0 then 2 else 3
def finP (lv : Nat) (acc : Fo) (q : Po) : Po := if acc.len = 1 then q else ⟨kOf lv, 0, e0, e0, acc⟩
abbrev PRes : Type := Option (Po × List UInt8)
/-- What binds closest; p reads the others. -/
def oneS (p : Nat → List UInt8 → PRes) (s : List UInt8) : PRes :=
  if (peekS (trL s)).2 = 40 then (match p 2 ((trL s).drop 1) with
    | none => none
    | some (q, r) => if (peekS (trL r)).2 = 41 then some (q, (trL r).drop 1) else none)
  else match wordS sAlways (trL s) with
    | some r => some (⟨0, 0, e0, e0, .nil⟩, r)
    | none => match wordS sNot (trL s) with
      | some r => (match p 0 r with
        | none => none
        | some (q, r') => some (⟨1, 0, e0, e0, .cons q.k q.o q.n q.t q.kids .nil⟩, r'))
      | none => if (peekS (trL s)).2 = 119 then testS (peekS (trL s)).1 ((trL s).drop (peekS (trL s)).1.length) else none
/-- Reading by fuel: nodes by their levels (0 closest), and what is behind the first of a list. -/
def pS : Nat → (Nat → List UInt8 → PRes) × (Nat → Fo → Po → List UInt8 → PRes)
  | 0 => (fun _ _ => none, fun _ _ _ _ => none)
  | f + 1 =>
    (fun lv s => match lv with
      | 0 => oneS (pS f).1 s
      | l + 1 => match (pS f).1 l s with
        | none => none
        | some (p, r) => (pS f).2 l (.cons p.k p.o p.n p.t p.kids .nil) p r,
     fun lv acc q s => match wordS (wOf lv) (trL s) with
      | none => some (finP lv acc q, trL s)
      | some r => match (pS f).1 lv r with
        | none => none
        | some (p, r') => (pS f).2 lv (acc.snoc p) p r')
def parseS (f lv : Nat) (s : List UInt8) : PRes := (pS f).1 lv s
def loopS (f lv : Nat) (acc : Fo) (q : Po) (s : List UInt8) : PRes := (pS f).2 lv acc q s
theorem parseS_one (f : Nat) (s : List UInt8) : parseS (f + 1) 0 s = oneS (parseS f) s := rfl
theorem parseS_list (f lv : Nat) (s : List UInt8) : parseS (f + 1) (lv + 1) s = (match parseS f lv s with
    | none => none
    | some (p, r) => loopS f lv (.cons p.k p.o p.n p.t p.kids .nil) p r) := rfl
theorem loopS_succ (f lv : Nat) (acc : Fo) (q : Po) (s : List UInt8) : loopS (f + 1) lv acc q s = (match wordS (wOf lv) (trL s) with
      | none => some (finP lv acc q, trL s)
      | some r => match parseS f lv r with
        | none => none
        | some (p, r') => loopS f lv (acc.snoc p) p r') := rfl
theorem literalS_le {s b r : List UInt8} (h : literalS s = some (b, r)) : r.length ≤ s.length := by
  have h1 := trL_le s
  unfold literalS at h
  cases hu : trL s with
  | nil => rw [hu] at h; cases h
  | cons c r' =>
    rw [hu] at h h1
    simp only at h
    split at h
    · cases hl : litS r' [] with
      | none => rw [hl] at h; cases h
      | some q =>
        obtain ⟨b', r2⟩ := q
        rw [hl] at h
        simp only at h
        split at h
        · cases h
          have := litE_le r' false [] b r hl
          simp only [List.length_cons] at h1
          omega
        · cases h
    · cases h
theorem opS_le {s r : List UInt8} {k : Int} (h : opS s = some (k, r)) : r.length ≤ s.length := by
  have h1 := trL_le s
  unfold opS at h
  split at h
  · next e => cases h; have := wordS_le e; omega
  · split at h
    · next e => cases h; have := wordS_le e; omega
    · split at h
      · next e => cases h; have := wordS_le e; omega
      · cases h
theorem testS_le {sub s r : List UInt8} {p : Po} (h : testS sub s = some (p, r)) : r.length ≤ s.length := by
  unfold testS at h
  split at h
  · cases h
  · split at h
    · cases h
    · next e =>
      split at h
      · cases h
      · next e2 => cases h; have := opS_le e; have := literalS_le e2; omega
theorem oneS_le {q : Nat → List UInt8 → PRes} (hq : ∀ lv s p r, q lv s = some (p, r) → r.length ≤ s.length) {s r : List UInt8} {p : Po} (h : oneS q s = some (p, r)) : r.length ≤ s.length := by
  have h1 := trL_le s
  unfold oneS at h
  split at h
  · split at h
    · cases h
    · next p2 r2 e =>
      have h2 := hq _ _ _ _ e
      have h3 := trL_le r2
      split at h
      · cases h
        simp only [List.length_drop] at h2 ⊢
        omega
      · cases h
  · split at h
    · next e => cases h; have := wordS_le e; omega
    · split at h
      · next e =>
        have h4 := wordS_le e
        split at h
        · cases h
        · next e2 => cases h; have := hq _ _ _ _ e2; omega
      · split at h
        · have := testS_le h
          simp only [List.length_drop] at this
          omega
        · cases h
theorem both_le : ∀ f, (∀ lv s p r, parseS f lv s = some (p, r) → r.length ≤ s.length) ∧ (∀ lv acc q s p r, loopS f lv acc q s = some (p, r) → r.length ≤ s.length) := by
  intro f
  induction f with
  | zero => exact ⟨fun _ _ _ _ h => (nomatch h), fun _ _ _ _ _ _ h => (nomatch h)⟩
  | succ f ih =>
    constructor
    · intro lv s p r h
      cases lv with
      | zero => rw [parseS_one] at h; exact oneS_le ih.1 h
      | succ lv =>
        rw [parseS_list] at h
        split at h
        · cases h
        · next e => have h2 := ih.1 _ _ _ _ e; have h3 := ih.2 _ _ _ _ _ _ h; omega
    · intro lv acc q s p r h
      have h1 := trL_le s
      rw [loopS_succ] at h
      split at h
      · cases h; exact h1
      · next e =>
        have h4 := wordS_le e
        split at h
        · cases h
        · next e2 => have h2 := ih.1 _ _ _ _ e2; have h3 := ih.2 _ _ _ _ _ _ h; omega
theorem parseS_le {f lv : Nat} {s r : List UInt8} {p : Po} (h : parseS f lv s = some (p, r)) : r.length ≤ s.length := (both_le f).1 _ _ _ _ h
theorem wordS_lt {wd u r : List UInt8} (h : wordS wd u = some r) : r.length + wd.length ≤ u.length := by
  unfold wordS at h
  split at h
  · next hp =>
    cases h
    have := peek_fst_le u
    rw [hp] at this
    simp only at this
    rw [List.length_drop]; omega
  · cases h
theorem wOf_len (lv : Nat) : 2 ≤ (wOf lv).length := by unfold wOf; split <;> decide
end Go.Proofs.YthpagppipifgeaaGreatDoor
/- Plain: a policy's text. -/
namespace Go.Proofs.YthpagppipifgeaaGreatDoor
open Go.RowKit

def sAndB : List UInt8 := [32, 97, 110, 100, 32]
def sOrB : List UInt8 := [32, 111, 114, 32]
def sNotB : List UInt8 := [110, 111, 116, 32]
def quoteC (c : UInt8) : List UInt8 := if c = 34 then [92, 34] else if c = 92 then [92, 92] else [c]
def quoteL (l : List UInt8) : List UInt8 := l.flatMap quoteC
def looksL (o : Int) (n : List UInt8) : List UInt8 :=
  (if o = 0 then sMethod else if o = 1 then sPath else if o = 2 then sClaim ++ [46] else sCert ++ [46]) ++ n
def opL (k : Int) : List UInt8 := if k = 4 then sIs else if k = 5 then sBegins else sHas
def wrapT (pk k : Int) (t : List UInt8) : List UInt8 := if k = 3 ∨ (k = 2 ∧ pk ≠ 3) then [40] ++ t ++ [41] else t
def textN (k o : Int) (n t : ByteArray) (l : List (List UInt8)) : List UInt8 :=
  if k = 0 then sAlways else if k = 1 then sNotB ++ l.headD [] else if k = 2 then Lib.join l sAndB else if k = 3 then Lib.join l sOrB
  else looksL o n.data.toList ++ [32] ++ opL k ++ [32, 34] ++ quoteL t.data.toList ++ [34]
def Fo.txs (pk : Int) : Fo → List (List UInt8)
  | .nil => []
  | .cons k o n t kids nx => wrapT pk k (textN k o n t (kids.txs k)) :: nx.txs pk
def textP (k o : Int) (n t : ByteArray) (F : Fo) : List UInt8 := textN k o n t (F.txs k)
/-- The nodes. -/
def Fo.cnt : Fo → Nat
  | .nil => 0
  | .cons _ _ _ _ kids nx => kids.cnt + nx.cnt + 1
theorem Fo.txs_len (pk : Int) (F : Fo) : (F.txs pk).length = F.len := by
  induction F with
  | nil => rfl
  | cons k o n t kids nx _ ih => simp only [Fo.txs, Fo.len, List.length_cons]; omega
theorem Fo.len_cnt (F : Fo) : F.len ≤ F.cnt := by
  induction F with
  | nil => exact Nat.le_refl _
  | cons k o n t kids nx _ ih => simp only [Fo.cnt, Fo.len]; omega
theorem join_le (l : List (List UInt8)) (sep : List UInt8) : (Lib.join l sep).length ≤ (l.map List.length).sum + l.length * sep.length := by
  induction l with
  | nil => simp [Lib.join]
  | cons x r ih =>
    cases r with
    | nil => simp [Lib.join]
    | cons y r' =>
      have : Lib.join (x :: y :: r') sep = x ++ sep ++ Lib.join (y :: r') sep := by simp [Lib.join]
      rw [this]
      simp only [List.length_append, List.map_cons, List.sum_cons, List.length_cons] at ih ⊢
      have e : (r'.length + 1 + 1) * sep.length = (r'.length + 1) * sep.length + sep.length := Nat.succ_mul _ _
      omega
theorem quote_le (l : List UInt8) : (quoteL l).length ≤ 2 * l.length := by
  induction l with
  | nil => simp [quoteL]
  | cons x r ih =>
    have : quoteL (x :: r) = quoteC x ++ quoteL r := rfl
    rw [this]
    have h : (quoteC x).length ≤ 2 := by
      unfold quoteC
      split
      · exact Nat.le_refl 2
      · split
        · exact Nat.le_refl 2
        · exact Nat.le_succ 1
    simp only [List.length_append, List.length_cons]; omega
theorem node_sizes {k o : Int} {n t : ByteArray} {l : Nat} {m : Bool} (h : nodeB k o n t l m = true) : (k = 0 ∨ k = 1 ∨ k = 2 ∨ k = 3) ∨ (n.size ≤ 32 ∧ t.size ≤ 64) := by
  unfold nodeB at h
  split at h
  · omega
  · split at h
    · omega
    · split at h
      · omega
      · split at h
        · right
          simp only [Bool.and_eq_true] at h
          obtain ⟨⟨⟨⟨_, _⟩, _⟩, hn⟩, ht⟩ := h
          refine ⟨?_, lit_len ht⟩
          split at hn
          · unfold nameB at hn
            simp only [Bool.and_eq_true, decide_eq_true_eq] at hn
            exact hn.1.2
          · have hn := of_decide_eq_true hn
            rw [dl] at hn
            have : n.data.toList.length = n.size := by simp
            rw [hn] at this
            simp at this
            omega
        · cases h
theorem looks_le (o : Int) (n : List UInt8) : (looksL o n).length ≤ 6 + n.length := by
  unfold looksL
  rw [List.length_append]
  split
  · exact Nat.le_refl _
  · split
    · simp [sPath]
    · split
      · simp [sClaim]
      · simp [sCert]
theorem op_le (k : Int) : (opL k).length ≤ 6 := by
  unfold opL
  split
  · simp [sIs]
  · split
    · simp [sBegins]
    · simp [sHas]
theorem may_nil {k o : Int} {n t : ByteArray} {F : Fo} (h : mayP k o n t F = true) : F.may = true ∨ F = .nil := by
  cases hm : F.may with
  | true => exact Or.inl rfl
  | false =>
    right
    unfold mayP nodeB at h
    rw [hm] at h
    have : F.len = 0 := by
      split at h
      · simp only [Bool.and_eq_true, decide_eq_true_eq] at h; exact h.2
      · split at h
        · simp at h
        · split at h
          · simp at h
          · split at h
            · simp only [Bool.and_eq_true, decide_eq_true_eq] at h; exact h.1.1.1.1
            · cases h
    cases F with | nil => rfl | cons => simp [Fo.len] at this
theorem textN_le {k o : Int} {n t : ByteArray} {l : Nat} {m : Bool} (h : nodeB k o n t l m = true) (L : List (List UInt8)) : (textN k o n t L).length ≤ 190 + (L.map List.length).sum + L.length * 5 := by
  have hj := join_le L sAndB
  have ho := join_le L sOrB
  have e1 : sAndB.length = 5 := rfl
  have e2 : sOrB.length = 4 := rfl
  rw [e1] at hj
  rw [e2] at ho
  unfold textN
  split
  · simp [sAlways]; omega
  · split
    · rw [List.length_append]
      have : sNotB.length = 4 := rfl
      cases L with
      | nil => simp only [List.headD_nil, List.length_nil]; omega
      | cons x r => simp only [List.headD_cons, List.map_cons, List.sum_cons]; omega
    · split
      · omega
      · split
        · have : L.length * 4 ≤ L.length * 5 := Nat.mul_le_mul_left _ (by omega)
          omega
        · next h0 h1 h2 h3 =>
          have hs : n.size ≤ 32 ∧ t.size ≤ 64 := by
            rcases node_sizes h with h4 | h4
            · omega
            · exact h4
          have hl := looks_le o n.data.toList
          have hq := quote_le t.data.toList
          have hp := op_le k
          have z1 : n.data.toList.length = n.size := by simp
          have z2 : t.data.toList.length = t.size := by simp
          simp only [List.length_append, List.length_cons, List.length_nil]
          omega
theorem txs_le (pk : Int) (F : Fo) (h : F.may = true) : ((F.txs pk).map List.length).sum + F.len * 5 ≤ 210 * F.cnt := by
  induction F generalizing pk with
  | nil => simp [Fo.txs, Fo.len, Fo.cnt]
  | cons k o n t kids nx ih1 ih2 =>
    simp only [Fo.may, Bool.and_eq_true] at h
    have h2 := ih2 pk h.2
    have ht := textN_le h.1 (kids.txs k)
    rw [Fo.txs_len] at ht
    have hw : (wrapT pk k (textN k o n t (kids.txs k))).length ≤ (textN k o n t (kids.txs k)).length + 2 := by
      unfold wrapT
      split
      · simp
      · omega
    simp only [Fo.txs, List.map_cons, List.sum_cons, Fo.len, Fo.cnt]
    cases hm : kids.may with
    | true =>
      have h1 := ih1 k hm
      omega
    | false =>
      have hkl : kids.len = 0 := by
        have h3 := h.1
        rw [hm] at h3
        unfold nodeB at h3
        split at h3
        · simp only [Bool.and_eq_true, decide_eq_true_eq] at h3; exact h3.2
        · split at h3
          · simp at h3
          · split at h3
            · simp at h3
            · split at h3
              · simp only [Bool.and_eq_true, decide_eq_true_eq] at h3; exact h3.1.1.1.1
              · cases h3
      have hkn : kids = .nil := by cases kids with | nil => rfl | cons => simp [Fo.len] at hkl
      rw [hkn] at hm
      cases hm
end Go.Proofs.YthpagppipifgeaaGreatDoor
/- Plain: how many bytes of a text are quoted. -/
namespace Go.Proofs.YthpagppipifgeaaGreatDoor
open Go.RowKit

def spC (c : UInt8) : Bool := c == 34 || c == 92
def spc (l : List UInt8) : Nat := l.countP spC
theorem quoteC_len (c : UInt8) : (quoteC c).length = 1 + (if spC c then 1 else 0) := by
  unfold quoteC spC
  split
  · next h => subst h; rfl
  · split
    · next h => subst h; rfl
    · next h h2 => simp [h, h2]
theorem quote_len (l : List UInt8) : (quoteL l).length = l.length + spc l := by
  induction l with
  | nil => rfl
  | cons x r ih =>
    have : quoteL (x :: r) = quoteC x ++ quoteL r := rfl
    rw [this, List.length_append, quoteC_len, ih]
    unfold spc
    rw [List.countP_cons]
    simp only [List.length_cons]
    omega
theorem quote_snoc (l : List UInt8) (c : UInt8) : quoteL (l ++ [c]) = quoteL l ++ quoteC c := by
  unfold quoteL
  rw [List.flatMap_append]
  simp
theorem take_snoc {l : List UInt8} {i : Nat} (h : i < l.length) : l.take (i + 1) = l.take i ++ [l[i]] := by
  rw [List.take_add_one, List.getElem?_eq_getElem h]; rfl
theorem spc_snoc (l : List UInt8) (c : UInt8) : spc (l ++ [c]) = spc l + (if spC c then 1 else 0) := by
  unfold spc
  rw [List.countP_append, List.countP_singleton]
theorem spc_le (l : List UInt8) (i : Nat) : spc (l.take i) ≤ spc l := by
  have h : l = l.take i ++ l.drop i := (List.take_append_drop i l).symm
  unfold spc
  conv => rhs; rw [h, List.countP_append]
  omega
theorem count_spc (l : List UInt8) : l.count 92 + l.count 34 = spc l := by
  induction l with
  | nil => rfl
  | cons x r ih =>
    unfold spc at ih ⊢
    rw [List.count_cons, List.count_cons, List.countP_cons]
    by_cases h34 : x = 34
    · subst h34; simp [spC]; omega
    · by_cases h92 : x = 92
      · subst h92; simp [spC]; omega
      · simp [spC, h34, h92]; omega
theorem quote_none {l : List UInt8} (h : spc l = 0) : quoteL l = l := by
  induction l with
  | nil => rfl
  | cons x r ih =>
    unfold spc at h
    rw [List.countP_cons] at h
    have hx : spC x = false := by
      cases hq : spC x with
      | false => rfl
      | true => rw [hq] at h; simp at h
    have : quoteL (x :: r) = quoteC x ++ quoteL r := rfl
    rw [this, ih (by unfold spc; omega)]
    unfold quoteC
    unfold spC at hx
    simp only [Bool.or_eq_false_iff, beq_eq_false_iff_ne] at hx
    rw [if_neg hx.1, if_neg hx.2]
    rfl
/-- Cells of bytes. -/
def bvs (l : List UInt8) : List Value := l.map fun b => Value.int .u8 ((b.toNat : Nat) : Int)
theorem bvs_len (l : List UInt8) : (bvs l).length = l.length := by simp [bvs]
theorem bvs_app (a b : List UInt8) : bvs (a ++ b) = bvs a ++ bvs b := by simp [bvs]
theorem bvs_cells (l : List UInt8) : ∀ v ∈ bvs l, v.oneCell' = true := by
  intro v hv
  simp only [bvs, List.mem_map] at hv
  obtain ⟨b, _, rfl⟩ := hv
  rfl
end Go.Proofs.YthpagppipifgeaaGreatDoor
