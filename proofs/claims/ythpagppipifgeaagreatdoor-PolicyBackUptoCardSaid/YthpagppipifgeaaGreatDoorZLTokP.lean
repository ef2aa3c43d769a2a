/- Plain: reading by tokens is reading. -/
import Derived.Test.YthpagppipifgeaaGreatDoorZLTok
namespace Go.Proofs.YthpagppipifgeaaGreatDoor
open Go.RowKit

abbrev LRes : Type := Option (Po × List Tok)
def opW (b : List UInt8) : Option Int := if b = sIs then some 4 else if b = sBegins then some 5 else if b = sHas then some 6 else none
def testL (ts : List Tok) : LRes :=
  match ts with
  | (a, false) :: (b, false) :: (t, true) :: r => match lookS a with
    | none => none
    | some (o, n) => match opW b with
      | none => none
      | some k => some (⟨k, o, bs n, bs t, .nil⟩, r)
  | _ => none
def isT (w : List UInt8) (ts : List Tok) : Bool := decide (ts.head? = some (w, false))
def oneL (p : Nat → List Tok → LRes) (ts : List Tok) : LRes :=
  if isT [40] ts = true then (match p 2 ts.tail with
    | none => none
    | some (q, r) => if isT [41] r = true then some (q, r.tail) else none)
  else if isT sAlways ts = true then some (⟨0, 0, e0, e0, .nil⟩, ts.tail)
  else if isT sNot ts = true then (match p 0 ts.tail with
    | none => none
    | some (q, r) => some (⟨1, 0, e0, e0, .cons q.k q.o q.n q.t q.kids .nil⟩, r))
  else testL ts
def pL : Nat → (Nat → List Tok → LRes) × (Nat → Fo → Po → List Tok → LRes)
  | 0 => (fun _ _ => none, fun _ _ _ _ => none)
  | f + 1 =>
    (fun lv s => match lv with
      | 0 => oneL (pL f).1 s
      | l + 1 => match (pL f).1 l s with
        | none => none
        | some (p, r) => (pL f).2 l (.cons p.k p.o p.n p.t p.kids .nil) p r,
     fun lv acc q s => if isT (wOf lv) s = true then (match (pL f).1 lv s.tail with
        | none => none
        | some (p, r') => (pL f).2 lv (acc.snoc p) p r') else some (finP lv acc q, s))
def parseL (f lv : Nat) (s : List Tok) : LRes := (pL f).1 lv s
def loopL (f lv : Nat) (acc : Fo) (q : Po) (s : List Tok) : LRes := (pL f).2 lv acc q s
theorem parseL_one (f : Nat) (s : List Tok) : parseL (f + 1) 0 s = oneL (parseL f) s := rfl
theorem parseL_list (f lv : Nat) (s : List Tok) : parseL (f + 1) (lv + 1) s = (match parseL f lv s with
    | none => none
    | some (p, r) => loopL f lv (.cons p.k p.o p.n p.t p.kids .nil) p r) := rfl
theorem loopL_succ (f lv : Nat) (acc : Fo) (q : Po) (s : List Tok) : loopL (f + 1) lv acc q s = (if isT (wOf lv) s = true then (match parseL f lv s.tail with
        | none => none
        | some (p, r') => loopL f lv (acc.snoc p) p r') else some (finP lv acc q, s)) := rfl
/-- A text's reading is that of its tokens. -/
def Agree (s : List UInt8) (a : PRes) (b : LRes) : Prop := a.map (fun x => (x.1, TK x.2)) = b.map (fun y => (y.1, (y.2, (TK s).2)))
theorem Agree.no (s : List UInt8) : Agree s none none := rfl
theorem Agree.yes {s r : List UInt8} {p : Po} {ts : List Tok} (h : TK r = (ts, (TK s).2)) : Agree s (some (p, r)) (some (p, ts)) := by
  unfold Agree; simp [h]
theorem Agree.cases {s : List UInt8} {a : PRes} {b : LRes} (h : Agree s a b) : (a = none ∧ b = none) ∨ ∃ p r ts, a = Option.some (p, r) ∧ b = Option.some (p, ts) ∧ TK r = (ts, (TK s).2) := by
  unfold Agree at h
  cases a with
  | none => cases b with
    | none => exact Or.inl ⟨rfl, rfl⟩
    | some y => cases h
  | some x => cases b with
    | none => cases h
    | some y =>
      obtain ⟨p, r⟩ := x
      obtain ⟨q, ts⟩ := y
      simp only [Option.map_some, Option.some.injEq, Prod.mk.injEq] at h
      obtain ⟨rfl, h⟩ := h
      exact Or.inr ⟨p, r, ts, rfl, rfl, h⟩
/-- A word is next: in the text as among the tokens. -/
theorem word_agree (wd : List UInt8) (hw : wd ≠ [40] ∧ wd ≠ [41] ∧ wd ≠ []) (s : List UInt8) :
    (∃ r, wordS wd (trL s) = some r ∧ isT wd (TK s).1 = true ∧ TK r = ((TK s).1.tail, (TK s).2)) ∨ (wordS wd (trL s) = none ∧ isT wd (TK s).1 = false) := by
  unfold wordS isT
  rcases TK_cases s with ⟨_, h, hp⟩ | ⟨c, r, _, hc, h, hp⟩ | ⟨r, _, h, hp⟩ | ⟨w, hne, _, h, hp⟩ | ⟨h, hp⟩
  · right; rw [hp, h]; simp
  · right
    rw [hp, h]
    have : ([c] : List UInt8) ≠ wd := by rcases hc with rfl | rfl; exact fun e => hw.1 e.symm; exact fun e => hw.2.1 e.symm
    simp [this]
  · right
    rw [hp, h]
    refine ⟨by simp, ?_⟩
    cases hl : lit2 (litS r []) with
    | none => rw [TK_none hl]; simp
    | some q => obtain ⟨b, r'⟩ := q; rw [TK_some hl]; simp
  · rw [hp, h]
    by_cases e : w = wd
    · subst e
      left
      exact ⟨_, by simp, by simp, rfl⟩
    · right
      simp [e]
  · right; rw [hp, h]; simp
theorem opS_agree (s : List UInt8) :
    (∃ k r, opS s = some (k, r) ∧ ∃ b, (TK s).1.head? = some (b, false) ∧ opW b = some k ∧ TK r = ((TK s).1.tail, (TK s).2)) ∨ (opS s = none ∧ ∀ b, (TK s).1.head? = some (b, false) → opW b = none) := by
  unfold opS opW
  rcases word_agree sIs (by decide) s with ⟨r, h1, h2, h3⟩ | ⟨h1, h2⟩
  · left; rw [h1]; exact ⟨4, r, rfl, sIs, of_decide_eq_true h2, by simp, h3⟩
  · rw [h1]
    have n1 := of_decide_eq_false h2
    rcases word_agree sBegins (by decide) s with ⟨r, h1, h2, h3⟩ | ⟨h1, h2⟩
    · left; rw [h1]; exact ⟨5, r, rfl, sBegins, of_decide_eq_true h2, by decide, h3⟩
    · rw [h1]
      have n2 := of_decide_eq_false h2
      rcases word_agree sHas (by decide) s with ⟨r, h1, h2, h3⟩ | ⟨h1, h2⟩
      · left; rw [h1]; exact ⟨6, r, rfl, sHas, of_decide_eq_true h2, by decide, h3⟩
      · right
        rw [h1]
        have n3 := of_decide_eq_false h2
        refine ⟨rfl, fun b hb => ?_⟩
        rw [if_neg (fun e => n1 (by rw [hb, e])), if_neg (fun e => n2 (by rw [hb, e])), if_neg (fun e => n3 (by rw [hb, e]))]
theorem literal_agree (s : List UInt8) :
    (∃ b r, literalS s = some (b, r) ∧ (TK s).1.head? = some (b, true) ∧ TK r = ((TK s).1.tail, (TK s).2)) ∨ (literalS s = none ∧ ∀ b, (TK s).1.head? ≠ some (b, true)) := by
  rcases TK_cases s with ⟨hu, h, _⟩ | ⟨c, r, hu, hc, h, _⟩ | ⟨r, hu, h, _⟩ | ⟨w, hne, hwd, h, hp⟩ | ⟨h, hp⟩
  · right; rw [h]; exact ⟨literalS_other (fun r e => by rw [hu] at e; cases e), by simp⟩
  · right; rw [h]; exact ⟨literalS_other (fun r' e => by rw [hu] at e; cases e; rcases hc with h | h <;> exact absurd h (by decide)), by simp⟩
  · rw [literalS_quote hu, h]
    cases hl : lit2 (litS r []) with
    | none => right; rw [TK_none hl]; simp
    | some q => obtain ⟨b, r'⟩ := q; left; rw [TK_some hl]; exact ⟨b, r', rfl, rfl, rfl⟩
  · right
    rw [h]
    refine ⟨literalS_other (fun r e => ?_), by simp⟩
    rw [e] at hp
    have : peekS (34 :: r) = ([34], 34) := rfl
    rw [this] at hp
    cases hp
  · right
    rw [h]
    refine ⟨literalS_other (fun r e => ?_), by simp⟩
    rw [e] at hp
    have : peekS (34 :: r) = ([34], 34) := rfl
    rw [this] at hp
    cases hp
theorem testL_look {a : List UInt8} (h : lookS a = none) (ts : List Tok) : testL ((a, false) :: ts) = none := by
  unfold testL
  split
  · next e => simp only [List.cons.injEq, Prod.mk.injEq, and_true] at e; rw [← e.1, h]
  · rfl
theorem testL_op {a : List UInt8} {ts : List Tok} (h : ∀ b, ts.head? = some (b, false) → opW b = none) : testL ((a, false) :: ts) = none := by
  unfold testL
  split
  · next e =>
    simp only [List.cons.injEq, Prod.mk.injEq, and_true] at e
    obtain ⟨rfl, e⟩ := e
    split
    · rfl
    · rw [h _ (by rw [e]; rfl)]
  · rfl
theorem testL_lit {a b : List UInt8} {ts : List Tok} (h : ∀ t, ts.head? ≠ some (t, true)) : testL ((a, false) :: (b, false) :: ts) = none := by
  unfold testL
  split
  · next e =>
    simp only [List.cons.injEq, Prod.mk.injEq, and_true] at e
    exact absurd (by rw [e.2.2]; rfl) (h _)
  · rfl
theorem test_agree (s u w : List UInt8) (h : TK s = ((w, false) :: (TK u).1, (TK u).2)) : Agree s (testS w u) (testL (TK s).1) := by
  rw [h]
  unfold testS
  cases hl : lookS w with
  | none => rw [testL_look hl]; exact Agree.no s
  | some q =>
    obtain ⟨o, n⟩ := q
    simp only
    rcases opS_agree u with ⟨k, r, h1, b, hb, hk, hr⟩ | ⟨h1, h2⟩
    · rw [h1]
      simp only
      obtain ⟨ts, hts⟩ : ∃ ts, (TK u).1 = (b, false) :: ts := by
        cases hu : (TK u).1 with
        | nil => rw [hu] at hb; cases hb
        | cons x ts => rw [hu] at hb; cases hb; exact ⟨ts, rfl⟩
      rw [hts] at hr ⊢
      simp only [List.tail_cons] at hr
      rcases literal_agree r with ⟨t, r', h3, h4, h5⟩ | ⟨h3, h4⟩
      · rw [h3]
        simp only
        rw [hr] at h4 h5
        obtain ⟨ts', rfl⟩ : ∃ ts', ts = (t, true) :: ts' := by
          cases ts with
          | nil => cases h4
          | cons x ts => cases h4; exact ⟨ts, rfl⟩
        have e : testL ((w, false) :: (b, false) :: (t, true) :: ts') = some (⟨k, o, bs n, bs t, .nil⟩, ts') := by
          unfold testL; simp only [hl, hk]
        rw [e]
        refine Agree.yes ?_
        rw [h5, h]; rfl
      · rw [h3]
        rw [hr] at h4
        rw [testL_lit h4]
        exact Agree.no s
    · rw [h1, testL_op h2]
      exact Agree.no s
theorem isT_ne {w a : List UInt8} {q : Bool} {ts : List Tok} (h : ¬ (a = w ∧ q = false)) : isT w ((a, q) :: ts) = false := by
  unfold isT
  exact decide_eq_false (fun e => h (by simp only [List.head?_cons, Option.some.injEq, Prod.mk.injEq] at e; exact e))
theorem close_agree (s : List UInt8) : ((peekS (trL s)).2 = 41 ∧ isT [41] (TK s).1 = true ∧ TK ((trL s).drop 1) = ((TK s).1.tail, (TK s).2)) ∨ ((peekS (trL s)).2 ≠ 41 ∧ isT [41] (TK s).1 = false) := by
  rcases TK_cases s with ⟨hu, h, hp⟩ | ⟨c, r, hu, hc, h, hp⟩ | ⟨r, hu, h, hp⟩ | ⟨w, hne, hwd, h, hp⟩ | ⟨h, hp⟩
  · right; rw [hp, h]; exact ⟨by decide, rfl⟩
  · rcases hc with rfl | rfl
    · right; rw [hp, h]; exact ⟨by decide, isT_ne (by decide)⟩
    · left; rw [hp, h, hu]; exact ⟨rfl, by unfold isT; simp, rfl⟩
  · right
    rw [hp, h]
    refine ⟨by decide, ?_⟩
    cases hl : lit2 (litS r []) with
    | none => rw [TK_none hl]; rfl
    | some q => obtain ⟨b, r'⟩ := q; rw [TK_some hl]; exact isT_ne (by simp)
  · right
    rw [hp, h]
    refine ⟨(show (119 : Nat) ≠ 41 by decide), isT_ne (fun e => ?_)⟩
    have := hwd 41 (by rw [e.1]; simp)
    revert this; decide
  · right; rw [hp, h]; exact ⟨by decide, rfl⟩
theorem one_agree (p : Nat → List UInt8 → PRes) (pl : Nat → List Tok → LRes) (hp : ∀ lv s, Agree s (p lv s) (pl lv (TK s).1)) (s : List UInt8) : Agree s (oneS p s) (oneL pl (TK s).1) := by
  have none_of : ∀ (hk : (peekS (trL s)).2 ≠ 40) (hk2 : (peekS (trL s)).2 ≠ 119) (ha : isT sAlways (TK s).1 = false) (hn : isT sNot (TK s).1 = false) (hb : isT [40] (TK s).1 = false) (ht : testL (TK s).1 = none), Agree s (oneS p s) (oneL pl (TK s).1) := by
    intro hk hk2 ha hn hb ht
    have wa : wordS sAlways (trL s) = none := by rcases word_agree sAlways (by decide) s with ⟨r, _, h2, _⟩ | ⟨h1, _⟩; rw [ha] at h2; cases h2; exact h1
    have wn : wordS sNot (trL s) = none := by rcases word_agree sNot (by decide) s with ⟨r, _, h2, _⟩ | ⟨h1, _⟩; rw [hn] at h2; cases h2; exact h1
    unfold oneS oneL
    rw [if_neg hk, wa, wn, hb, ha, hn, ht]
    simp only
    rw [if_neg hk2]
    exact Agree.no s
  rcases TK_cases s with ⟨hu, h, hpk⟩ | ⟨c, r, hu, hc, h, hpk⟩ | ⟨r, hu, h, hpk⟩ | ⟨w, hne, hwd, h, hpk⟩ | ⟨h, hpk⟩
  · refine none_of (by rw [hpk]; decide) (by rw [hpk]; decide) ?_ ?_ ?_ ?_ <;> rw [h] <;> rfl
  · rcases hc with rfl | rfl
    · have e : (TK s).1 = ([40], false) :: (TK r).1 := by rw [h]
      have e2 : (TK s).2 = (TK r).2 := by rw [h]
      unfold oneS oneL
      rw [if_pos (by rw [hpk]; rfl), e, if_pos (by unfold isT; simp), hu]
      simp only [List.drop_succ_cons, List.drop_zero, List.tail_cons]
      rcases (hp 2 r).cases with ⟨h1, h2⟩ | ⟨q, r2, ts, h1, h2, h3⟩
      · rw [h1, h2]; exact Agree.no s
      · rw [h1, h2]
        simp only
        have h31 : (TK r2).1 = ts := by rw [h3]
        rcases close_agree r2 with ⟨k1, k2, k3⟩ | ⟨k1, k2⟩
        · rw [if_pos k1, if_pos (by rw [← h31]; exact k2)]
          refine Agree.yes ?_
          rw [k3, h3, e2]
        · rw [if_neg k1, if_neg (by rw [← h31, k2]; decide)]
          exact Agree.no s
    · refine none_of (by rw [hpk]; decide) (by rw [hpk]; decide) ?_ ?_ ?_ ?_ <;> rw [h]
      · exact isT_ne (by decide)
      · exact isT_ne (by decide)
      · exact isT_ne (by decide)
      · exact testL_look (by decide) _
  · cases hl : lit2 (litS r []) with
    | none => refine none_of (by rw [hpk]; decide) (by rw [hpk]; decide) ?_ ?_ ?_ ?_ <;> rw [h, TK_none hl] <;> rfl
    | some q =>
      obtain ⟨b, r'⟩ := q
      refine none_of (by rw [hpk]; decide) (by rw [hpk]; decide) ?_ ?_ ?_ ?_ <;> rw [h, TK_some hl]
      · exact isT_ne (by simp)
      · exact isT_ne (by simp)
      · exact isT_ne (by simp)
      · rfl
  · have hb : isT [40] (TK s).1 = false := by
      rw [h]
      refine isT_ne (fun e => ?_)
      have := hwd 40 (by rw [e.1]; simp)
      revert this; decide
    have hk40 : ¬ (peekS (trL s)).2 = 40 := by rw [hpk]; exact (show ¬ (119 : Nat) = 40 by decide)
    have hk119 : (peekS (trL s)).2 = 119 := by rw [hpk]
    have e1 : (peekS (trL s)).1 = w := by rw [hpk]
    unfold oneS oneL
    rcases word_agree sAlways (by decide) s with ⟨r, h1, h2, h3⟩ | ⟨h1, h2⟩
    · simp only [if_neg hk40, hb, h1, h2, Bool.false_eq_true, if_false, if_true]
      exact Agree.yes (by rw [h3])
    · rcases word_agree sNot (by decide) s with ⟨r, h4, h5, h6⟩ | ⟨h4, h5⟩
      · simp only [if_neg hk40, hb, h1, h2, h4, h5, Bool.false_eq_true, if_false, if_true]
        have h61 : (TK r).1 = (TK s).1.tail := by rw [h6]
        rw [← h61]
        rcases (hp 0 r).cases with ⟨k1, k2⟩ | ⟨q, r2, ts, k1, k2, k3⟩
        · rw [k1, k2]; exact Agree.no s
        · rw [k1, k2]
          exact Agree.yes (by rw [k3, h6])
      · simp only [if_neg hk40, if_pos hk119, hb, h1, h2, h4, h5, Bool.false_eq_true, if_false, e1]
        exact test_agree s _ w h
  · refine none_of (by rw [hpk]; decide) (by rw [hpk]; decide) ?_ ?_ ?_ ?_ <;> rw [h] <;> rfl
theorem wOf_word (lv : Nat) : wOf lv ≠ [40] ∧ wOf lv ≠ [41] ∧ wOf lv ≠ [] := by unfold wOf; split <;> decide
theorem both_agree : ∀ f, (∀ lv s, Agree s (parseS f lv s) (parseL f lv (TK s).1)) ∧ (∀ lv acc q s, Agree s (loopS f lv acc q s) (loopL f lv acc q (TK s).1)) := by
  intro f
  induction f with
  | zero => exact ⟨fun _ s => Agree.no s, fun _ _ _ s => Agree.no s⟩
  | succ f ih =>
    constructor
    · intro lv s
      cases lv with
      | zero => rw [parseS_one, parseL_one]; exact one_agree _ _ ih.1 s
      | succ lv =>
        rw [parseS_list, parseL_list]
        rcases (ih.1 lv s).cases with ⟨h1, h2⟩ | ⟨p, r, ts, h1, h2, h3⟩
        · rw [h1, h2]; exact Agree.no s
        · rw [h1, h2]
          simp only
          have h := ih.2 lv (.cons p.k p.o p.n p.t p.kids .nil) p r
          rw [h3] at h
          unfold Agree at h ⊢
          rw [h, h3]
    · intro lv acc q s
      rw [loopS_succ, loopL_succ]
      rcases word_agree (wOf lv) (wOf_word lv) s with ⟨r, h1, h2, h3⟩ | ⟨h1, h2⟩
      · rw [h1, if_pos h2]
        simp only
        have h31 : (TK r).1 = (TK s).1.tail := by rw [h3]
        rw [← h31]
        rcases (ih.1 lv r).cases with ⟨k1, k2⟩ | ⟨p, r2, ts, k1, k2, k3⟩
        · rw [k1, k2]; exact Agree.no s
        · rw [k1, k2]
          simp only
          have h := ih.2 lv (acc.snoc p) p r2
          rw [k3] at h
          unfold Agree at h ⊢
          rw [h, k3, h3]
      · rw [h1, if_neg (by rw [h2]; decide)]
        exact Agree.yes (by rw [TK_trL])
/-- Reading by tokens. -/
def parseK (s : List UInt8) : Option Po := if (TK s).2 = true then (match parseL (4 * s.length + 3) 2 (TK s).1 with
    | none => none
    | some (p, r) => if r = [] then some p else none) else none
theorem peek_end (s : List UInt8) : (peekS (trL s)).2 = 0 ↔ TK s = ([], true) := by
  rcases TK_cases s with ⟨hu, h, hp⟩ | ⟨c, r, hu, hc, h, hp⟩ | ⟨r, hu, h, hp⟩ | ⟨w, hne, hwd, h, hp⟩ | ⟨h, hp⟩
  · rw [hp, h]; simp
  · rw [hp, h]; rcases hc with rfl | rfl <;> simp
  · rw [hp, h]
    cases hl : lit2 (litS r []) with
    | none => rw [TK_none hl]; simp
    | some q => obtain ⟨b, r'⟩ := q; rw [TK_some hl]; simp
  · rw [hp, h]; simp
  · rw [hp, h]; simp
theorem parseT_K (s : List UInt8) : parseT s = parseK s := by
  unfold parseT parseK
  rcases ((both_agree (4 * s.length + 3)).1 2 s).cases with ⟨h1, h2⟩ | ⟨p, r, ts, h1, h2, h3⟩
  · rw [h1, h2]
    by_cases hk : (TK s).2 = true
    · rw [if_pos hk]
    · rw [if_neg hk]
  · rw [h1, h2]
    simp only
    have he := peek_end r
    rw [h3] at he
    by_cases hk : (peekS (trL r)).2 = 0
    · have := he.1 hk
      simp only [Prod.mk.injEq] at this
      rw [if_pos hk, if_pos this.2, if_pos this.1]
    · rw [if_neg hk]
      split
      · next h4 =>
        rw [if_neg (fun e => hk (he.2 (by rw [e, h4])))]
      · rfl
end Go.Proofs.YthpagppipifgeaaGreatDoor
