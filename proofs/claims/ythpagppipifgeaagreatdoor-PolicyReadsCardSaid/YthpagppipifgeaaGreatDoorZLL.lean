/- LTok LTokP LTokM LTokN LTokL LBackP LReadS, in one text. -/
import Derived.Test.YthpagppipifgeaaGreatDoorZLD
import Derived.Test.YthpagppipifgeaaGreatDoorZLB
/- Plain: the tokens of a text; reading goes by them. -/
namespace Go.Proofs.YthpagppipifgeaaGreatDoor
open Go.RowKit

/-- A word, a bracket, or a literal (its value; true). -/
abbrev Tok : Type := List UInt8 × Bool
theorem lit2_le {r b r' : List UInt8} (h : lit2 (litS r []) = some (b, r')) : r'.length ≤ r.length := by
  unfold lit2 at h
  cases hl : litS r [] with
  | none => rw [hl] at h; cases h
  | some q =>
    obtain ⟨b1, r1⟩ := q
    rw [hl] at h
    simp only at h
    split at h
    · cases h; exact litE_le r false [] _ _ hl
    · cases h
theorem drop_word {c : UInt8} {r : List UInt8} (h : wdC c = true) : ((c :: r).dropWhile wdC).length < (c :: r).length := by
  rw [List.dropWhile_cons, h]
  simp only [if_true]
  have := (List.dropWhile_suffix wdC (l := r)).length_le
  simp only [List.length_cons]; omega
/-- The tokens ahead of the first thing that is none, and whether all of the text is tokens. -/
def TK (s : List UInt8) : List Tok × Bool :=
  match s with
  | [] => ([], true)
  | c :: r =>
    if c = 32 then TK r
    else if c = 40 ∨ c = 41 then (([c], false) :: (TK r).1, (TK r).2)
    else if c = 34 then
      match _h : lit2 (litS r []) with
      | some (b, r') => ((b, true) :: (TK r').1, (TK r').2)
      | none => ([], false)
    else if _h : wdC c = true then (((c :: r).takeWhile wdC, false) :: (TK ((c :: r).dropWhile wdC)).1, (TK ((c :: r).dropWhile wdC)).2)
    else ([], false)
termination_by s.length
decreasing_by
  all_goals first
    | (simp only [List.length_cons]; omega)
    | (have := lit2_le _h; simp only [List.length_cons]; omega)
    | exact drop_word _h
theorem TK_nil : TK [] = ([], true) := by unfold TK; rfl
theorem TK_blank (r : List UInt8) : TK (32 :: r) = TK r := by rw [TK]; rfl
theorem TK_br {c : UInt8} (r : List UInt8) (h : c = 40 ∨ c = 41) : TK (c :: r) = (([c], false) :: (TK r).1, (TK r).2) := by
  rw [TK, if_neg (by rcases h with rfl | rfl <;> decide), if_pos h]
theorem TK_some {r b r' : List UInt8} (h : lit2 (litS r []) = some (b, r')) : TK (34 :: r) = ((b, true) :: (TK r').1, (TK r').2) := by
  rw [TK, if_neg (by decide), if_neg (by decide), if_pos rfl]
  split
  · next h2 => rw [h] at h2; cases h2; rfl
  · next h2 => rw [h] at h2; cases h2
theorem TK_none {r : List UInt8} (h : lit2 (litS r []) = none) : TK (34 :: r) = ([], false) := by
  rw [TK, if_neg (by decide), if_neg (by decide), if_pos rfl]
  split
  · next h2 => rw [h] at h2; cases h2
  · rfl
theorem wdC_not {c : UInt8} (h : wdC c = true) : ¬ c = 32 ∧ ¬ (c = 40 ∨ c = 41) ∧ ¬ c = 34 := by
  refine ⟨?_, ?_, ?_⟩
  · rintro rfl; revert h; decide
  · rintro (rfl | rfl) <;> revert h <;> decide
  · rintro rfl; revert h; decide
theorem TK_word {c : UInt8} (r : List UInt8) (h : wdC c = true) : TK (c :: r) = (((c :: r).takeWhile wdC, false) :: (TK ((c :: r).dropWhile wdC)).1, (TK ((c :: r).dropWhile wdC)).2) := by
  obtain ⟨h1, h2, h3⟩ := wdC_not h
  rw [TK, if_neg h1, if_neg h2, if_neg h3, dif_pos h]
theorem TK_bad {c : UInt8} (r : List UInt8) (h1 : ¬ c = 32) (h2 : ¬ (c = 40 ∨ c = 41)) (h3 : ¬ c = 34) (h4 : ¬ wdC c = true) : TK (c :: r) = ([], false) := by
  rw [TK, if_neg h1, if_neg h2, if_neg h3, dif_neg h4]
theorem TK_trL (s : List UInt8) : TK (trL s) = TK s := by
  induction s with
  | nil => rfl
  | cons c r ih =>
    by_cases h : c = 32
    · subst h
      rw [TK_blank, ← ih]
      congr 1
    · have : trL (c :: r) = c :: r := by unfold trL Lib.trimLeftB; rw [List.dropWhile_cons]; simp [h]
      rw [this]
theorem trL_head {s r : List UInt8} {c : UInt8} (h : trL s = c :: r) : ¬ c = 32 := by
  induction s with
  | nil => cases h
  | cons d s ih =>
    by_cases hd : d = 32
    · subst hd
      exact ih (by rw [← h]; unfold trL Lib.trimLeftB; rw [List.dropWhile_cons]; simp)
    · have : trL (d :: s) = d :: s := by unfold trL Lib.trimLeftB; rw [List.dropWhile_cons]; simp [hd]
      rw [this] at h; cases h; exact hd
theorem drop_take (p : UInt8 → Bool) (l : List UInt8) : l.drop (l.takeWhile p).length = l.dropWhile p := by
  induction l with
  | nil => rfl
  | cons x r ih =>
    rw [List.takeWhile_cons, List.dropWhile_cons]
    split
    · simpa using ih
    · rfl
theorem takeW_all (p : UInt8 → Bool) (l : List UInt8) : ∀ x ∈ l.takeWhile p, p x = true := by
  induction l with
  | nil => intro x hx; simp at hx
  | cons y r ih =>
    intro x hx
    rw [List.takeWhile_cons] at hx
    split at hx
    · next h => rcases List.mem_cons.1 hx with rfl | hx; exact h; exact ih x hx
    · simp at hx
/-- What a text begins with. -/
theorem TK_cases (s : List UInt8) :
    (trL s = [] ∧ TK s = ([], true) ∧ peekS (trL s) = ([], 0))
    ∨ (∃ c r, trL s = c :: r ∧ (c = 40 ∨ c = 41) ∧ TK s = (([c], false) :: (TK r).1, (TK r).2) ∧ peekS (trL s) = ([c], c.toNat))
    ∨ (∃ r, trL s = 34 :: r ∧ TK s = TK (34 :: r) ∧ peekS (trL s) = ([34], 34))
    ∨ (∃ w, w ≠ [] ∧ (∀ x ∈ w, wdC x = true) ∧ TK s = ((w, false) :: (TK ((trL s).drop w.length)).1, (TK ((trL s).drop w.length)).2) ∧ peekS (trL s) = (w, 119))
    ∨ (TK s = ([], false) ∧ peekS (trL s) = ([], 63)) := by
  have ht := TK_trL s
  cases hu : trL s with
  | nil => left; rw [hu] at ht; exact ⟨rfl, by rw [← ht, TK_nil], rfl⟩
  | cons c r =>
    right
    rw [hu] at ht
    have h32 := trL_head hu
    by_cases hb : c = 40 ∨ c = 41
    · left
      refine ⟨c, r, rfl, hb, by rw [← ht, TK_br r hb], ?_⟩
      unfold peekS
      simp only
      rw [if_pos (by rcases hb with h | h; exact Or.inl h; exact Or.inr (Or.inl h))]
    · right
      by_cases hq : c = 34
      · subst hq
        left
        exact ⟨r, rfl, ht.symm, rfl⟩
      · right
        have hp : ¬ (c = 40 ∨ c = 41 ∨ c = 34) := by rintro (h | h | h); exact hb (Or.inl h); exact hb (Or.inr h); exact hq h
        by_cases hw : wdC c = true
        · left
          have hne : (c :: r).takeWhile wdC ≠ [] := by rw [List.takeWhile_cons, hw]; simp
          refine ⟨(c :: r).takeWhile wdC, hne, fun x hx => takeW_all _ _ x hx, ?_, ?_⟩
          · rw [← ht, TK_word r hw, drop_take]
          · unfold peekS
            simp only
            rw [if_neg hp, if_neg hne]
        · right
          refine ⟨by rw [← ht, TK_bad r h32 hb hq hw], ?_⟩
          have he : (c :: r).takeWhile wdC = [] := by rw [List.takeWhile_cons]; simp [hw]
          unfold peekS
          simp only
          rw [if_neg hp, if_pos he]
end Go.Proofs.YthpagppipifgeaaGreatDoor
/- Plain: reading by tokens is reading. -/
namespace Go.Proofs.YthpagppipifgeaaGreatDoor
open Go.RowKit

abbrev LRes : Type := Option (Po × List Tok)
def opW (b : List UInt8) : Option Int := if b = sIs then some 4 else if b = sBegins then some 5 else if b = sHas then some 6 else none
def testL (ts : List Tok) : LRes :=
  match ts with
  | (a, false) :: (b, false) :: (t, true) :: r => match lookS a with
    | none => none
    | some (o, n) => match opW b with
      | none => none
      | some k => some (⟨k, o, bs n, bs t, .nil⟩, r)
  | _ => none
def isT (w : List UInt8) (ts : List Tok) : Bool := decide (ts.head? = some (w, false))
def oneL (p : Nat → List Tok → LRes) (ts : List Tok) : LRes :=
  if isT [40] ts = true then (match p 2 ts.tail with
    | none => none
    | some (q, r) => if isT [41] r = true then some (q, r.tail) else none)
  else if isT sAlways ts = true then some (⟨0, 0, e0, e0, .nil⟩, ts.tail)
  else if isT sNot ts = true then (match p 0 ts.tail with
    | none => none
    | some (q, r) => some (⟨1, 0, e0, e0, .cons q.k q.o q.n q.t q.kids .nil⟩, r))
  else testL ts
def pL : Nat → (Nat → List Tok → LRes) × (Nat → Fo → Po → List Tok → LRes)
  | 0 => (fun _ _ => none, fun _ _ _ _ => none)
  | f + 1 =>
    (fun lv s => match lv with
      | 0 => oneL (pL f).1 s
      | l + 1 => match (pL f).1 l s with
        | none => none
        | some (p, r) => (pL f).2 l (.cons p.k p.o p.n p.t p.kids .nil) p r,
     fun lv acc q s => if isT (wOf lv) s = true then (match (pL f).1 lv s.tail with
        | none => none
        | some (p, r') => (pL f).2 lv (acc.snoc p) p r') else some (finP lv acc q, s))
def parseL (f lv : Nat) (s : List Tok) : LRes := (pL f).1 lv s
def loopL (f lv : Nat) (acc : Fo) (q : Po) (s : List Tok) : LRes := (pL f).2 lv acc q s
theorem parseL_one (f : Nat) (s : List Tok) : parseL (f + 1) 0 s = oneL (parseL f) s := rfl
theorem parseL_list (f lv : Nat) (s : List Tok) : parseL (f + 1) (lv + 1) s = (match parseL f lv s with
    | none => none
    | some (p, r) => loopL f lv (.cons p.k p.o p.n p.t p.kids .nil) p r) := rfl
theorem loopL_succ (f lv : Nat) (acc : Fo) (q : Po) (s : List Tok) : loopL (f + 1) lv acc q s = (if isT (wOf lv) s = true then (match parseL f lv s.tail with
        | none => none
        | some (p, r') => loopL f lv (acc.snoc p) p r') else some (finP lv acc q, s)) := rfl
/-- A text's reading is that of its tokens. -/
def Agree (s : List UInt8) (a : PRes) (b : LRes) : Prop := a.map (fun x => (x.1, TK x.2)) = b.map (fun y => (y.1, (y.2, (TK s).2)))
theorem Agree.no (s : List UInt8) : Agree s none none := rfl
theorem Agree.yes {s r : List UInt8} {p : Po} {ts : List Tok} (h : TK r = (ts, (TK s).2)) : Agree s (some (p, r)) (some (p, ts)) := by
  unfold Agree; simp [h]
theorem Agree.cases {s : List UInt8} {a : PRes} {b : LRes} (h : Agree s a b) : (a = none ∧ b = none) ∨ ∃ p r ts, a = Option.some (p, r) ∧ b = Option.some (p, ts) ∧ TK r = (ts, (TK s).2) := by
  unfold Agree at h
  cases a with
  | none => cases b with
    | none => exact Or.inl ⟨rfl, rfl⟩
    | some y => cases h
  | some x => cases b with
    | none => cases h
    | some y =>
      obtain ⟨p, r⟩ := x
      obtain ⟨q, ts⟩ := y
      simp only [Option.map_some, Option.some.injEq, Prod.mk.injEq] at h
      obtain ⟨rfl, h⟩ := h
      exact Or.inr ⟨p, r, ts, rfl, rfl, h⟩
/-- A word is next: in the text as among the tokens. -/
theorem word_agree (wd : List UInt8) (hw : wd ≠ [40] ∧ wd ≠ [41] ∧ wd ≠ []) (s : List UInt8) :
    (∃ r, wordS wd (trL s) = some r ∧ isT wd (TK s).1 = true ∧ TK r = ((TK s).1.tail, (TK s).2)) ∨ (wordS wd (trL s) = none ∧ isT wd (TK s).1 = false) := by
  unfold wordS isT
  rcases TK_cases s with ⟨_, h, hp⟩ | ⟨c, r, _, hc, h, hp⟩ | ⟨r, _, h, hp⟩ | ⟨w, hne, _, h, hp⟩ | ⟨h, hp⟩
  · right; rw [hp, h]; simp
  · right
    rw [hp, h]
    have : ([c] : List UInt8) ≠ wd := by rcases hc with rfl | rfl; exact fun e => hw.1 e.symm; exact fun e => hw.2.1 e.symm
    simp [this]
  · right
    rw [hp, h]
    refine ⟨by simp, ?_⟩
    cases hl : lit2 (litS r []) with
    | none => rw [TK_none hl]; simp
    | some q => obtain ⟨b, r'⟩ := q; rw [TK_some hl]; simp
  · rw [hp, h]
    by_cases e : w = wd
    · subst e
      left
      exact ⟨_, by simp, by simp, rfl⟩
    · right
      simp [e]
  · right; rw [hp, h]; simp
theorem opS_agree (s : List UInt8) :
    (∃ k r, opS s = some (k, r) ∧ ∃ b, (TK s).1.head? = some (b, false) ∧ opW b = some k ∧ TK r = ((TK s).1.tail, (TK s).2)) ∨ (opS s = none ∧ ∀ b, (TK s).1.head? = some (b, false) → opW b = none) := by
  unfold opS opW
  rcases word_agree sIs (by decide) s with ⟨r, h1, h2, h3⟩ | ⟨h1, h2⟩
  · left; rw [h1]; exact ⟨4, r, rfl, sIs, of_decide_eq_true h2, by simp, h3⟩
  · rw [h1]
    have n1 := of_decide_eq_false h2
    rcases word_agree sBegins (by decide) s with ⟨r, h1, h2, h3⟩ | ⟨h1, h2⟩
    · left; rw [h1]; exact ⟨5, r, rfl, sBegins, of_decide_eq_true h2, by decide, h3⟩
    · rw [h1]
      have n2 := of_decide_eq_false h2
      rcases word_agree sHas (by decide) s with ⟨r, h1, h2, h3⟩ | ⟨h1, h2⟩
      · left; rw [h1]; exact ⟨6, r, rfl, sHas, of_decide_eq_true h2, by decide, h3⟩
      · right
        rw [h1]
        have n3 := of_decide_eq_false h2
        refine ⟨rfl, fun b hb => ?_⟩
        rw [if_neg (fun e => n1 (by rw [hb, e])), if_neg (fun e => n2 (by rw [hb, e])), if_neg (fun e => n3 (by rw [hb, e]))]
theorem literal_agree (s : List UInt8) :
    (∃ b r, literalS s = some (b, r) ∧ (TK s).1.head? = some (b, true) ∧ TK r = ((TK s).1.tail, (TK s).2)) ∨ (literalS s = none ∧ ∀ b, (TK s).1.head? ≠ some (b, true)) := by
  rcases TK_cases s with ⟨hu, h, _⟩ | ⟨c, r, hu, hc, h, _⟩ | ⟨r, hu, h, _⟩ | ⟨w, hne, hwd, h, hp⟩ | ⟨h, hp⟩
  · right; rw [h]; exact ⟨literalS_other (fun r e => by rw [hu] at e; cases e), by simp⟩
  · right; rw [h]; exact ⟨literalS_other (fun r' e => by rw [hu] at e; cases e; rcases hc with h | h <;> exact absurd h (by decide)), by simp⟩
  · rw [literalS_quote hu, h]
    cases hl : lit2 (litS r []) with
    | none => right; rw [TK_none hl]; simp
    | some q => obtain ⟨b, r'⟩ := q; left; rw [TK_some hl]; exact ⟨b, r', rfl, rfl, rfl⟩
  · right
    rw [h]
    refine ⟨literalS_other (fun r e => ?_), by simp⟩
    rw [e] at hp
    have : peekS (34 :: r) = ([34], 34) := rfl
    rw [this] at hp
    cases hp
  · right
    rw [h]
    refine ⟨literalS_other (fun r e => ?_), by simp⟩
    rw [e] at hp
    have : peekS (34 :: r) = ([34], 34) := rfl
    rw [this] at hp
    cases hp
theorem testL_look {a : List UInt8} (h : lookS a = none) (ts : List Tok) : testL ((a, false) :: ts) = none := by
  unfold testL
  split
  · next e => simp only [List.cons.injEq, Prod.mk.injEq, and_true] at e; rw [← e.1, h]
  · rfl
theorem testL_op {a : List UInt8} {ts : List Tok} (h : ∀ b, ts.head? = some (b, false) → opW b = none) : testL ((a, false) :: ts) = none := by
  unfold testL
  split
  · next e =>
    simp only [List.cons.injEq, Prod.mk.injEq, and_true] at e
    obtain ⟨rfl, e⟩ := e
    split
    · rfl
    · rw [h _ (by rw [e]; rfl)]
  · rfl
theorem testL_lit {a b : List UInt8} {ts : List Tok} (h : ∀ t, ts.head? ≠ some (t, true)) : testL ((a, false) :: (b, false) :: ts) = none := by
  unfold testL
  split
  · next e =>
    simp only [List.cons.injEq, Prod.mk.injEq, and_true] at e
    exact absurd (by rw [e.2.2]; rfl) (h _)
  · rfl
theorem test_agree (s u w : List UInt8) (h : TK s = ((w, false) :: (TK u).1, (TK u).2)) : Agree s (testS w u) (testL (TK s).1) := by
  rw [h]
  unfold testS
  cases hl : lookS w with
  | none => rw [testL_look hl]; exact Agree.no s
  | some q =>
    obtain ⟨o, n⟩ := q
    simp only
    rcases opS_agree u with ⟨k, r, h1, b, hb, hk, hr⟩ | ⟨h1, h2⟩
    · rw [h1]
      simp only
      obtain ⟨ts, hts⟩ : ∃ ts, (TK u).1 = (b, false) :: ts := by
        cases hu : (TK u).1 with
        | nil => rw [hu] at hb; cases hb
        | cons x ts => rw [hu] at hb; cases hb; exact ⟨ts, rfl⟩
      rw [hts] at hr ⊢
      simp only [List.tail_cons] at hr
      rcases literal_agree r with ⟨t, r', h3, h4, h5⟩ | ⟨h3, h4⟩
      · rw [h3]
        simp only
        rw [hr] at h4 h5
        obtain ⟨ts', rfl⟩ : ∃ ts', ts = (t, true) :: ts' := by
          cases ts with
          | nil => cases h4
          | cons x ts => cases h4; exact ⟨ts, rfl⟩
        have e : testL ((w, false) :: (b, false) :: (t, true) :: ts') = some (⟨k, o, bs n, bs t, .nil⟩, ts') := by
          unfold testL; simp only [hl, hk]
        rw [e]
        refine Agree.yes ?_
        rw [h5, h]; rfl
      · rw [h3]
        rw [hr] at h4
        rw [testL_lit h4]
        exact Agree.no s
    · rw [h1, testL_op h2]
      exact Agree.no s
theorem isT_ne {w a : List UInt8} {q : Bool} {ts : List Tok} (h : ¬ (a = w ∧ q = false)) : isT w ((a, q) :: ts) = false := by
  unfold isT
  exact decide_eq_false (fun e => h (by simp only [List.head?_cons, Option.some.injEq, Prod.mk.injEq] at e; exact e))
theorem close_agree (s : List UInt8) : ((peekS (trL s)).2 = 41 ∧ isT [41] (TK s).1 = true ∧ TK ((trL s).drop 1) = ((TK s).1.tail, (TK s).2)) ∨ ((peekS (trL s)).2 ≠ 41 ∧ isT [41] (TK s).1 = false) := by
  rcases TK_cases s with ⟨hu, h, hp⟩ | ⟨c, r, hu, hc, h, hp⟩ | ⟨r, hu, h, hp⟩ | ⟨w, hne, hwd, h, hp⟩ | ⟨h, hp⟩
  · right; rw [hp, h]; exact ⟨by decide, rfl⟩
  · rcases hc with rfl | rfl
    · right; rw [hp, h]; exact ⟨by decide, isT_ne (by decide)⟩
    · left; rw [hp, h, hu]; exact ⟨rfl, by unfold isT; simp, rfl⟩
  · right
    rw [hp, h]
    refine ⟨by decide, ?_⟩
    cases hl : lit2 (litS r []) with
    | none => rw [TK_none hl]; rfl
    | some q => obtain ⟨b, r'⟩ := q; rw [TK_some hl]; exact isT_ne (by simp)
  · right
    rw [hp, h]
    refine ⟨(show (119 : Nat) ≠ 41 by decide), isT_ne (fun e => ?_)⟩
    have := hwd 41 (by rw [e.1]; simp)
    revert this; decide
  · right; rw [hp, h]; exact ⟨by decide, rfl⟩
theorem one_agree (p : Nat → List UInt8 → PRes) (pl : Nat → List Tok → LRes) (hp : ∀ lv s, Agree s (p lv s) (pl lv (TK s).1)) (s : List UInt8) : Agree s (oneS p s) (oneL pl (TK s).1) := by
  have none_of : ∀ (hk : (peekS (trL s)).2 ≠ 40) (hk2 : (peekS (trL s)).2 ≠ 119) (ha : isT sAlways (TK s).1 = false) (hn : isT sNot (TK s).1 = false) (hb : isT [40] (TK s).1 = false) (ht : testL (TK s).1 = none), Agree s (oneS p s) (oneL pl (TK s).1) := by
    intro hk hk2 ha hn hb ht
    have wa : wordS sAlways (trL s) = none := by rcases word_agree sAlways (by decide) s with ⟨r, _, h2, _⟩ | ⟨h1, _⟩; rw [ha] at h2; cases h2; exact h1
    have wn : wordS sNot (trL s) = none := by rcases word_agree sNot (by decide) s with ⟨r, _, h2, _⟩ | ⟨h1, _⟩; rw [hn] at h2; cases h2; exact h1
    unfold oneS oneL
    rw [if_neg hk, wa, wn, hb, ha, hn, ht]
    simp only
    rw [if_neg hk2]
    exact Agree.no s
  rcases TK_cases s with ⟨hu, h, hpk⟩ | ⟨c, r, hu, hc, h, hpk⟩ | ⟨r, hu, h, hpk⟩ | ⟨w, hne, hwd, h, hpk⟩ | ⟨h, hpk⟩
  · refine none_of (by rw [hpk]; decide) (by rw [hpk]; decide) ?_ ?_ ?_ ?_ <;> rw [h] <;> rfl
  · rcases hc with rfl | rfl
    · have e : (TK s).1 = ([40], false) :: (TK r).1 := by rw [h]
      have e2 : (TK s).2 = (TK r).2 := by rw [h]
      unfold oneS oneL
      rw [if_pos (by rw [hpk]; rfl), e, if_pos (by unfold isT; simp), hu]
      simp only [List.drop_succ_cons, List.drop_zero, List.tail_cons]
      rcases (hp 2 r).cases with ⟨h1, h2⟩ | ⟨q, r2, ts, h1, h2, h3⟩
      · rw [h1, h2]; exact Agree.no s
      · rw [h1, h2]
        simp only
        have h31 : (TK r2).1 = ts := by rw [h3]
        rcases close_agree r2 with ⟨k1, k2, k3⟩ | ⟨k1, k2⟩
        · rw [if_pos k1, if_pos (by rw [← h31]; exact k2)]
          refine Agree.yes ?_
          rw [k3, h3, e2]
        · rw [if_neg k1, if_neg (by rw [← h31, k2]; decide)]
          exact Agree.no s
    · refine none_of (by rw [hpk]; decide) (by rw [hpk]; decide) ?_ ?_ ?_ ?_ <;> rw [h]
      · exact isT_ne (by decide)
      · exact isT_ne (by decide)
      · exact isT_ne (by decide)
      · exact testL_look (by decide) _
  · cases hl : lit2 (litS r []) with
    | none => refine none_of (by rw [hpk]; decide) (by rw [hpk]; decide) ?_ ?_ ?_ ?_ <;> rw [h, TK_none hl] <;> rfl
    | some q =>
      obtain ⟨b, r'⟩ := q
      refine none_of (by rw [hpk]; decide) (by rw [hpk]; decide) ?_ ?_ ?_ ?_ <;> rw [h, TK_some hl]
      · exact isT_ne (by simp)
      · exact isT_ne (by simp)
      · exact isT_ne (by simp)
      · rfl
  · have hb : isT [40] (TK s).1 = false := by
      rw [h]
      refine isT_ne (fun e => ?_)
      have := hwd 40 (by rw [e.1]; simp)
      revert this; decide
    have hk40 : ¬ (peekS (trL s)).2 = 40 := by rw [hpk]; exact (show ¬ (119 : Nat) = 40 by decide)
    have hk119 : (peekS (trL s)).2 = 119 := by rw [hpk]
    have e1 : (peekS (trL s)).1 = w := by rw [hpk]
    unfold oneS oneL
    rcases word_agree sAlways (by decide) s with ⟨r, h1, h2, h3⟩ | ⟨h1, h2⟩
    · simp only [if_neg hk40, hb, h1, h2, Bool.false_eq_true, if_false, if_true]
      exact Agree.yes (by rw [h3])
    · rcases word_agree sNot (by decide) s with ⟨r, h4, h5, h6⟩ | ⟨h4, h5⟩
      · simp only [if_neg hk40, hb, h1, h2, h4, h5, Bool.false_eq_true, if_false, if_true]
        have h61 : (TK r).1 = (TK s).1.tail := by rw [h6]
        rw [← h61]
        rcases (hp 0 r).cases with ⟨k1, k2⟩ | ⟨q, r2, ts, k1, k2, k3⟩
        · rw [k1, k2]; exact Agree.no s
        · rw [k1, k2]
          exact Agree.yes (by rw [k3, h6])
      · simp only [if_neg hk40, if_pos hk119, hb, h1, h2, h4, h5, Bool.false_eq_true, if_false, e1]
        exact test_agree s _ w h
  · refine none_of (by rw [hpk]; decide) (by rw [hpk]; decide) ?_ ?_ ?_ ?_ <;> rw [h] <;> rfl
theorem wOf_word (lv : Nat) : wOf lv ≠ [40] ∧ wOf lv ≠ [41] ∧ wOf lv ≠ [] := by unfold wOf; split <;> decide
theorem both_agree : ∀ f, (∀ lv s, Agree s (parseS f lv s) (parseL f lv (TK s).1)) ∧ (∀ lv acc q s, Agree s (loopS f lv acc q s) (loopL f lv acc q (TK s).1)) := by
  intro f
  induction f with
  | zero => exact ⟨fun _ s => Agree.no s, fun _ _ _ s => Agree.no s⟩
  | succ f ih =>
    constructor
    · intro lv s
      cases lv with
      | zero => rw [parseS_one, parseL_one]; exact one_agree _ _ ih.1 s
      | succ lv =>
        rw [parseS_list, parseL_list]
        rcases (ih.1 lv s).cases with ⟨h1, h2⟩ | ⟨p, r, ts, h1, h2, h3⟩
        · rw [h1, h2]; exact Agree.no s
        · rw [h1, h2]
          simp only
          have h := ih.2 lv (.cons p.k p.o p.n p.t p.kids .nil) p r
          rw [h3] at h
          unfold Agree at h ⊢
          rw [h, h3]
    · intro lv acc q s
      rw [loopS_succ, loopL_succ]
      rcases word_agree (wOf lv) (wOf_word lv) s with ⟨r, h1, h2, h3⟩ | ⟨h1, h2⟩
      · rw [h1, if_pos h2]
        simp only
        have h31 : (TK r).1 = (TK s).1.tail := by rw [h3]
        rw [← h31]
        rcases (ih.1 lv r).cases with ⟨k1, k2⟩ | ⟨p, r2, ts, k1, k2, k3⟩
        · rw [k1, k2]; exact Agree.no s
        · rw [k1, k2]
          simp only
          have h := ih.2 lv (acc.snoc p) p r2
          rw [k3] at h
          unfold Agree at h ⊢
          rw [h, k3, h3]
      · rw [h1, if_neg (by rw [h2]; decide)]
        exact Agree.yes (by rw [TK_trL])
/-- Reading by tokens. -/
def parseK (s : List UInt8) : Option Po := if (TK s).2 = true then (match parseL (4 * s.length + 3) 2 (TK s).1 with
    | none => none
    | some (p, r) => if r = [] then some p else none) else none
theorem peek_end (s : List UInt8) : (peekS (trL s)).2 = 0 ↔ TK s = ([], true) := by
  rcases TK_cases s with ⟨hu, h, hp⟩ | ⟨c, r, hu, hc, h, hp⟩ | ⟨r, hu, h, hp⟩ | ⟨w, hne, hwd, h, hp⟩ | ⟨h, hp⟩
  · rw [hp, h]; simp
  · rw [hp, h]; rcases hc with rfl | rfl <;> simp
  · rw [hp, h]
    cases hl : lit2 (litS r []) with
    | none => rw [TK_none hl]; simp
    | some q => obtain ⟨b, r'⟩ := q; rw [TK_some hl]; simp
  · rw [hp, h]; simp
  · rw [hp, h]; simp
theorem parseT_K (s : List UInt8) : parseT s = parseK s := by
  unfold parseT parseK
  rcases ((both_agree (4 * s.length + 3)).1 2 s).cases with ⟨h1, h2⟩ | ⟨p, r, ts, h1, h2, h3⟩
  · rw [h1, h2]
    by_cases hk : (TK s).2 = true
    · rw [if_pos hk]
    · rw [if_neg hk]
  · rw [h1, h2]
    simp only
    have he := peek_end r
    rw [h3] at he
    by_cases hk : (peekS (trL r)).2 = 0
    · have := he.1 hk
      simp only [Prod.mk.injEq] at this
      rw [if_pos hk, if_pos this.2, if_pos this.1]
    · rw [if_neg hk]
      split
      · next h4 =>
        rw [if_neg (fun e => hk (he.2 (by rw [e, h4])))]
      · rfl
end Go.Proofs.YthpagppipifgeaaGreatDoor
/- Plain: what is read may be, and is not greater than its text. -/
namespace Go.Proofs.YthpagppipifgeaaGreatDoor
open Go.RowKit

def mayQ (p : Po) : Bool := mayP p.k p.o p.n p.t p.kids
def LitsOk (ts : List Tok) : Prop := ∀ t, (t, true) ∈ ts → litB (bs t) = true
theorem tk_snoc_may (F : Fo) (p : Po) : (F.snoc p).may = (F.may && mayQ p) := by
  induction F with
  | nil => simp [Fo.snoc, Fo.may, mayQ, mayP]
  | cons k o n t kids nx _ ih => simp only [Fo.snoc, Fo.may, ih, Bool.and_assoc]
theorem tk_snoc_cnt (F : Fo) (p : Po) : (F.snoc p).cnt = F.cnt + p.kids.cnt + 1 := by
  induction F with
  | nil => simp [Fo.snoc, Fo.cnt]
  | cons k o n t kids nx _ ih => simp only [Fo.snoc, Fo.cnt, ih]; omega
theorem look_may {sub n : List UInt8} {o : Int} (h : lookS sub = some (o, n)) : 0 ≤ o ∧ o < 4 ∧ (if o = 2 ∨ o = 3 then nameB (bs n) else decide ((bs n).toList = [])) = true := by
  unfold lookS at h
  split at h
  · cases h; exact ⟨by decide, by decide, by decide +kernel⟩
  · split at h
    · cases h; exact ⟨by decide, by decide, by decide +kernel⟩
    · split at h
      · next h2 => cases h; exact ⟨by decide, by decide, by rw [if_pos (Or.inl rfl)]; exact h2.2.2⟩
      · split at h
        · next h2 => cases h; exact ⟨by decide, by decide, by rw [if_pos (Or.inr rfl)]; exact h2.2.2⟩
        · cases h
theorem opW_may {b : List UInt8} {k : Int} (h : opW b = some k) : k = 4 ∨ k = 5 ∨ k = 6 := by
  unfold opW at h
  split at h
  · cases h; exact Or.inl rfl
  · split at h
    · cases h; exact Or.inr (Or.inl rfl)
    · split at h
      · cases h; exact Or.inr (Or.inr rfl)
      · cases h
theorem testM_ok {k o : Int} {n t : ByteArray} {l : Nat} {m : Bool} (hk : k = 4 ∨ k = 5 ∨ k = 6) (hl : l = 0) (h0 : 0 ≤ o) (h1 : o < 4) (hn : (if o = 2 ∨ o = 3 then nameB n else decide (n.toList = [])) = true) (ht : litB t = true) : nodeB k o n t l m = true := by
  unfold nodeB
  rw [if_neg (by omega), if_neg (by omega), if_neg (by omega), if_pos hk, hn, ht]
  simp [hl, h0, h1]
theorem testL_may {ts r : List Tok} {p : Po} (hl : LitsOk ts) (h : testL ts = some (p, r)) : mayQ p = true ∧ p.kids.cnt + 1 + r.length ≤ ts.length ∧ LitsOk r := by
  unfold testL at h
  split at h
  · next a b t r' =>
    split at h
    · cases h
    · next o n e1 =>
      split at h
      · cases h
      · next k e2 =>
        cases h
        obtain ⟨h0, h1, h2⟩ := look_may e1
        exact ⟨testM_ok (opW_may e2) rfl h0 h1 h2 (hl t (by simp)), by simp only [Fo.cnt, List.length_cons]; omega, fun u hu => hl u (by simp [hu])⟩
  · cases h
theorem LitsOk.tail {ts : List Tok} (h : LitsOk ts) : LitsOk ts.tail := fun t ht => h t (List.mem_of_mem_tail ht)
theorem isT_len {w : List UInt8} {ts : List Tok} (h : isT w ts = true) : ts.tail.length + 1 = ts.length := by
  cases ts with
  | nil => exact absurd h (by unfold isT; simp)
  | cons x r => rfl
theorem plain00 : plainB 0 e0 e0 = true := by decide +kernel
def ReadOk (ts : List Tok) (o : LRes) : Prop := ∀ p r, o = some (p, r) → mayQ p = true ∧ p.kids.cnt + 1 + r.length ≤ ts.length ∧ LitsOk r
theorem oneL_may {pl : Nat → List Tok → LRes} (hp : ∀ lv ts, LitsOk ts → ReadOk ts (pl lv ts)) {ts : List Tok} (hl : LitsOk ts) : ReadOk ts (oneL pl ts) := by
  intro p r h
  unfold oneL at h
  split at h
  · next hi =>
    have hil := isT_len hi
    split at h
    · cases h
    · next q r2 e =>
      obtain ⟨h1, h2, h3⟩ := hp _ _ hl.tail _ _ e
      split at h
      · next hi2 => cases h; have := isT_len hi2; exact ⟨h1, by omega, h3.tail⟩
      · cases h
  · split at h
    · next hi =>
      have hil := isT_len hi
      cases h
      exact ⟨by decide +kernel, by simp only [Fo.cnt]; omega, hl.tail⟩
    · split at h
      · next hi =>
        have hil := isT_len hi
        split at h
        · cases h
        · next q r2 e =>
          obtain ⟨h1, h2, h3⟩ := hp _ _ hl.tail _ _ e
          cases h
          refine ⟨?_, by simp only [Fo.cnt]; omega, h3⟩
          show nodeB 1 0 e0 e0 1 (nodeB q.k q.o q.n q.t q.kids.len q.kids.may && true) = true
          have : nodeB q.k q.o q.n q.t q.kids.len q.kids.may = true := h1
          rw [this]
          unfold nodeB
          rw [plain00]; rfl
      · exact testL_may hl h
theorem both_may : ∀ f, (∀ lv ts, LitsOk ts → ReadOk ts (parseL f lv ts)) ∧
    (∀ lv acc q ts, LitsOk ts → acc.may = true → mayQ q = true → 1 ≤ acc.len → (acc.len = 1 → acc = .cons q.k q.o q.n q.t q.kids .nil) → ∀ p r, loopL f lv acc q ts = some (p, r) →
      mayQ p = true ∧ p.kids.cnt + 1 + r.length ≤ acc.cnt + (if acc.len = 1 then 0 else 1) + ts.length ∧ LitsOk r) := by
  intro f
  induction f with
  | zero =>
    constructor
    · intro lv ts _ p r h
      cases h
    · intro lv acc q ts _ _ _ _ _ p r h
      cases h
  | succ f ih =>
    constructor
    · intro lv ts hl
      cases lv with
      | zero => rw [parseL_one]; exact oneL_may ih.1 hl
      | succ lv =>
        intro p r h
        rw [parseL_list] at h
        split at h
        · cases h
        · next p1 r1 e =>
          obtain ⟨k1, k2, k3⟩ := ih.1 _ _ hl _ _ e
          obtain ⟨m1, m2, m3⟩ := ih.2 lv (.cons p1.k p1.o p1.n p1.t p1.kids .nil) p1 r1 k3 (by simp only [Fo.may, Bool.and_true]; exact k1) k1 (Nat.le_refl _) (fun _ => rfl) p r h
          rw [show (Fo.cons p1.k p1.o p1.n p1.t p1.kids Fo.nil).len = 1 from rfl, if_pos rfl] at m2
          simp only [Fo.cnt] at m2
          exact ⟨m1, by omega, m3⟩
    · intro lv acc q ts hl ha hq h1 hone p r h
      rw [loopL_succ] at h
      split at h
      · next hi =>
        have hil := isT_len hi
        split at h
        · cases h
        · next p2 r2 e =>
          obtain ⟨k1, k2, k3⟩ := ih.1 _ _ hl.tail _ _ e
          have hsl := Fo.snoc_len acc p2
          have hsc := tk_snoc_cnt acc p2
          obtain ⟨m1, m2, m3⟩ := ih.2 lv (acc.snoc p2) p2 r2 k3 (by rw [tk_snoc_may, ha, k1]; rfl) k1 (by omega) (fun e => by omega) p r h
          rw [if_neg (by omega)] at m2
          exact ⟨m1, by omega, m3⟩
      · cases h
        unfold finP
        by_cases ho : acc.len = 1
        · rw [if_pos ho, if_pos ho]
          have := hone ho
          refine ⟨hq, ?_, hl⟩
          rw [this]; simp only [Fo.cnt]; omega
        · rw [if_neg ho, if_neg ho]
          refine ⟨?_, by simp only; omega, hl⟩
          show nodeB (kOf lv) 0 e0 e0 acc.len acc.may = true
          rw [ha]
          have hk : kOf lv = 2 ∨ kOf lv = 3 := by unfold kOf; split; exact Or.inl rfl; exact Or.inr rfl
          unfold nodeB
          rw [if_neg (by omega), if_neg (by omega), if_pos hk, plain00]
          simp; omega
theorem TK_len : ∀ (n : Nat) (s : List UInt8), s.length ≤ n → (TK s).1.length ≤ s.length ∧ LitsOk (TK s).1 := by
  intro n
  induction n with
  | zero => intro s hs; have : s = [] := List.eq_nil_of_length_eq_zero (by omega); subst this; rw [TK_nil]; exact ⟨Nat.le_refl _, fun t ht => by simp at ht⟩
  | succ n ih =>
    intro s hs
    cases s with
    | nil => rw [TK_nil]; exact ⟨Nat.le_refl _, fun t ht => by simp at ht⟩
    | cons c r =>
      simp only [List.length_cons] at hs
      by_cases h32 : c = 32
      · subst h32
        rw [TK_blank]
        obtain ⟨h1, h2⟩ := ih r (by omega)
        exact ⟨by simp only [List.length_cons]; omega, h2⟩
      by_cases hb : c = 40 ∨ c = 41
      · rw [TK_br r hb]
        obtain ⟨h1, h2⟩ := ih r (by omega)
        refine ⟨by simp only [List.length_cons]; omega, fun t ht => ?_⟩
        simp at ht; exact h2 t ht
      by_cases hq : c = 34
      · subst hq
        cases hl : lit2 (litS r []) with
        | none => rw [TK_none hl]; exact ⟨Nat.zero_le _, fun t ht => by simp at ht⟩
        | some q =>
          obtain ⟨b, r'⟩ := q
          rw [TK_some hl]
          have hle := lit2_le hl
          obtain ⟨h1, h2⟩ := ih r' (by omega)
          refine ⟨by simp only [List.length_cons]; omega, fun t ht => ?_⟩
          simp only [List.mem_cons, Prod.mk.injEq, and_true] at ht
          rcases ht with rfl | ht
          · unfold lit2 at hl
            cases hx : litS r [] with
            | none => rw [hx] at hl; cases hl
            | some y =>
              rw [hx] at hl
              simp only at hl
              split at hl
              · next hg => cases hl; exact hg
              · cases hl
          · exact h2 t ht
      by_cases hw : wdC c = true
      · rw [TK_word r hw]
        have hd := drop_word (r := r) hw
        simp only [List.length_cons] at hd
        obtain ⟨h1, h2⟩ := ih ((c :: r).dropWhile wdC) (by omega)
        refine ⟨by simp only [List.length_cons]; omega, fun t ht => ?_⟩
        simp at ht; exact h2 t ht
      · rw [TK_bad r h32 hb hq hw]; exact ⟨Nat.zero_le _, fun t ht => by simp at ht⟩
end Go.Proofs.YthpagppipifgeaaGreatDoor
/- Plain: no token is longer than the text may be. -/
namespace Go.Proofs.YthpagppipifgeaaGreatDoor
open Go.RowKit

theorem TK_ln : ∀ (n : Nat) (s : List UInt8), s.length ≤ n → n ≤ 1024 → ∀ t, t ∈ (TK s).1 → t.1.length ≤ 1024 := by
  intro n
  induction n with
  | zero => intro s hs; have : s = [] := List.eq_nil_of_length_eq_zero (by omega); subst this; rw [TK_nil]; exact fun _ t ht => by simp at ht
  | succ n ih =>
    intro s hs hn
    cases s with
    | nil => rw [TK_nil]; exact fun t ht => by simp at ht
    | cons c r =>
      simp only [List.length_cons] at hs
      by_cases h32 : c = 32
      · subst h32
        rw [TK_blank]
        exact ih r (by omega) (by omega)
      by_cases hb : c = 40 ∨ c = 41
      · rw [TK_br r hb]
        intro t ht
        simp only [List.mem_cons] at ht
        rcases ht with rfl | ht
        · simp
        · exact ih r (by omega) (by omega) t ht
      by_cases hq : c = 34
      · subst hq
        cases hl : lit2 (litS r []) with
        | none => rw [TK_none hl]; exact fun t ht => by simp at ht
        | some q =>
          obtain ⟨b, r'⟩ := q
          rw [TK_some hl]
          have hle := lit2_le hl
          intro t ht
          simp only [List.mem_cons] at ht
          rcases ht with rfl | ht
          · unfold lit2 at hl
            cases hx : litS r [] with
            | none => rw [hx] at hl; cases hl
            | some y =>
              rw [hx] at hl
              simp only at hl
              split at hl
              · next hg =>
                cases hl
                unfold litB at hg
                rw [bs_size] at hg
                simp only [Bool.and_eq_true, decide_eq_true_eq] at hg
                exact Nat.le_trans hg.1 (by decide)
              · cases hl
          · exact ih r' (by omega) (by omega) t ht
      by_cases hw : wdC c = true
      · rw [TK_word r hw]
        have hd := drop_word (r := r) hw
        simp only [List.length_cons] at hd
        intro t ht
        simp only [List.mem_cons] at ht
        rcases ht with rfl | ht
        · have := (List.takeWhile_prefix (l := c :: r) wdC).length_le
          simp only [List.length_cons] at this
          exact Nat.le_trans this (by omega)
        · exact ih ((c :: r).dropWhile wdC) (by omega) (by omega) t ht
      · rw [TK_bad r h32 hb hq hw]; exact fun t ht => by simp at ht
end Go.Proofs.YthpagppipifgeaaGreatDoor
/- Plain: what reading leaves is shorter. -/
namespace Go.Proofs.YthpagppipifgeaaGreatDoor
open Go.RowKit

theorem testL_len {ts r : List Tok} {p : Po} (h : testL ts = some (p, r)) : r.length + 1 ≤ ts.length := by
  unfold testL at h
  split at h
  · split at h
    · cases h
    · split at h
      · cases h
      · cases h
        simp only [List.length_cons]; omega
  · cases h
theorem oneL_len {pl : Nat → List Tok → LRes} (hp : ∀ lv ts p r, pl lv ts = some (p, r) → r.length + 1 ≤ ts.length) {ts r : List Tok} {p : Po} (h : oneL pl ts = some (p, r)) : r.length + 1 ≤ ts.length := by
  unfold oneL at h
  split at h
  · next hi =>
    have hl := isT_len hi
    split at h
    · cases h
    · next q r2 e =>
      have h1 := hp _ _ _ _ e
      split at h
      · cases h
        simp only [List.length_tail]; omega
      · cases h
  · split at h
    · next hi =>
      have hl := isT_len hi
      cases h; omega
    · split at h
      · next hi =>
        have hl := isT_len hi
        split at h
        · cases h
        · next q r2 e =>
          have h1 := hp _ _ _ _ e
          cases h; omega
      · exact testL_len h
theorem both_len : ∀ f, (∀ lv ts p r, parseL f lv ts = some (p, r) → r.length + 1 ≤ ts.length) ∧ (∀ lv acc q ts p r, loopL f lv acc q ts = some (p, r) → r.length ≤ ts.length) := by
  intro f
  induction f with
  | zero =>
    constructor
    · intro lv ts p r h
      cases h
    · intro lv acc q ts p r h
      cases h
  | succ f ih =>
    constructor
    · intro lv ts p r h
      cases lv with
      | zero => rw [parseL_one] at h; exact oneL_len ih.1 h
      | succ lv =>
        rw [parseL_list] at h
        split at h
        · cases h
        · next p1 r1 e =>
          have h1 := ih.1 _ _ _ _ e
          have h2 := ih.2 _ _ _ _ _ _ h
          omega
    · intro lv acc q ts p r h
      rw [loopL_succ] at h
      split at h
      · next hi =>
        have hl := isT_len hi
        split at h
        · cases h
        · next p1 r1 e =>
          have h1 := ih.1 _ _ _ _ e
          have h2 := ih.2 _ _ _ _ _ _ h
          omega
      · cases h; exact Nat.le_refl _
theorem parseL_len {f lv : Nat} {ts r : List Tok} {p : Po} (h : parseL f lv ts = some (p, r)) : r.length + 1 ≤ ts.length := (both_len f).1 _ _ _ _ h
/-- A list's reading from here on. -/
def manyR (f lv : Nat) (acc : Fo) (s : List Tok) : LRes :=
  match parseL f lv s with
  | none => none
  | some (p, r) => loopL f lv (acc.snoc p) p r
theorem parseL_many (f lv : Nat) (s : List Tok) : parseL (f + 1) (lv + 1) s = manyR f lv .nil s := rfl
theorem manyR_none {f lv : Nat} {acc : Fo} {s : List Tok} (h : parseL f lv s = none) : manyR f lv acc s = none := by unfold manyR; rw [h]
theorem manyR_more {f lv : Nat} {acc : Fo} {s r : List Tok} {p : Po} (h : parseL (f + 1) lv s = some (p, r)) (hi : isT (wOf lv) r = true) : manyR (f + 1) lv acc s = manyR f lv (acc.snoc p) r.tail := by
  have e := loopL_succ f lv (acc.snoc p) p r
  rw [if_pos hi] at e
  unfold manyR
  rw [h]
  refine e.trans ?_
  rcases parseL f lv r.tail with _ | ⟨p1, r1⟩ <;> rfl
theorem manyR_end {f lv : Nat} {acc : Fo} {s r : List Tok} {p : Po} (h : parseL (f + 1) lv s = some (p, r)) (hi : isT (wOf lv) r = false) : manyR (f + 1) lv acc s = some (finP lv (acc.snoc p) p, r) := by
  unfold manyR; rw [h]; simp only; rw [loopL_succ, if_neg (by rw [hi]; decide)]
end Go.Proofs.YthpagppipifgeaaGreatDoor
/- Plain: a policy's tokens are read as it. -/
namespace Go.Proofs.YthpagppipifgeaaGreatDoor
open Go.RowKit

def joinK (sep : List UInt8) : List (List Tok) → List Tok
  | [] => []
  | x :: r => x ++ r.flatMap fun y => (sep, false) :: y
def restK (sep : List UInt8) (L : List (List Tok)) : List Tok := L.flatMap fun y => (sep, false) :: y
def wrapK (pk k : Int) (l : List Tok) : List Tok := if k = 3 ∨ (k = 2 ∧ pk ≠ 3) then ([40], false) :: (l ++ [([41], false)]) else l
def tokN (k o : Int) (n t : ByteArray) (L : List (List Tok)) : List Tok :=
  if k = 0 then [(sAlways, false)] else if k = 1 then (sNot, false) :: L.headD [] else if k = 2 then joinK sAnd L else if k = 3 then joinK sOr L
  else [(looksL o n.data.toList, false), (opL k, false), (t.data.toList, true)]
def Fo.tks (pk : Int) : Fo → List (List Tok)
  | .nil => []
  | .cons k o n t kids nx => wrapK pk k (tokN k o n t (kids.tks k)) :: nx.tks pk
def tokP (k o : Int) (n t : ByteArray) (F : Fo) : List Tok := tokN k o n t (F.tks k)
def Fo.app : Fo → Fo → Fo
  | .nil, G => G
  | .cons k o n t kids nx, G => .cons k o n t kids (nx.app G)
theorem app_nil (F : Fo) : F.app .nil = F := by
  induction F with
  | nil => rfl
  | cons k o n t kids nx _ ih => simp only [Fo.app, ih]
theorem snoc_app (F : Fo) (p : Po) (G : Fo) : (F.snoc p).app G = F.app (.cons p.k p.o p.n p.t p.kids G) := by
  induction F with
  | nil => rfl
  | cons k o n t kids nx _ ih => simp only [Fo.snoc, Fo.app, ih]
/-- A node is read from its tokens, at each level. -/
def RT (F : Fo) : Prop := ∀ (k o : Int) (n t : ByteArray), mayP k o n t F = true →
  (∀ pk rest f, pk ≠ 3 → 4 * (wrapK pk k (tokP k o n t F) ++ rest).length + 1 ≤ f → parseL f 0 (wrapK pk k (tokP k o n t F) ++ rest) = some (⟨k, o, n, t, F⟩, rest))
  ∧ (∀ rest f, isT sAnd rest = false → 4 * (wrapK 3 k (tokP k o n t F) ++ rest).length + 2 ≤ f → parseL f 1 (wrapK 3 k (tokP k o n t F) ++ rest) = some (⟨k, o, n, t, F⟩, rest))
  ∧ (∀ rest f, isT sAnd rest = false → isT sOr rest = false → 4 * (tokP k o n t F ++ rest).length + 3 ≤ f → parseL f 2 (tokP k o n t F ++ rest) = some (⟨k, o, n, t, F⟩, rest))
theorem up_one {f lv : Nat} {ts rest : List Tok} {p : Po} (h : parseL f lv ts = some (p, rest)) (hw : isT (wOf lv) rest = false) (hf : 1 ≤ f) : parseL (f + 1) (lv + 1) ts = some (p, rest) := by
  rw [parseL_list, h]
  obtain ⟨g, rfl⟩ : ∃ g, f = g + 1 := ⟨f - 1, by omega⟩
  simp only
  rw [loopL_succ, if_neg (by rw [hw]; decide)]
  rfl
theorem isT_cons (w : List UInt8) (r : List Tok) : isT w ((w, false) :: r) = true := by unfold isT; simp
theorem open_one {f : Nat} {ts rest : List Tok} {p : Po} (h : parseL f 2 (ts ++ ([41], false) :: rest) = some (p, ([41], false) :: rest)) : parseL (f + 1) 0 (([40], false) :: (ts ++ [([41], false)]) ++ rest) = some (p, rest) := by
  rw [parseL_one]
  unfold oneL
  rw [List.cons_append, if_pos (isT_cons _ _)]
  simp only [List.tail_cons, List.append_assoc, List.singleton_append]
  rw [h]
  simp only
  rw [if_pos (isT_cons _ _), List.tail_cons]
theorem loop_read (lv : Nat) (pk : Int) (hpk : (lv = 0 ∧ pk = 2) ∨ (lv = 1 ∧ pk = 3)) (G : Fo) (hG : G.All RT) (hm : G.may = true) : ∀ (acc : Fo) (q : Po) (rest : List Tok) (f : Nat), 1 ≤ acc.len → 2 ≤ acc.len + G.len → isT sAnd rest = false → isT (wOf lv) rest = false →
    4 * (restK (wOf lv) (G.tks pk) ++ rest).length + lv + 2 ≤ f → loopL f lv acc q (restK (wOf lv) (G.tks pk) ++ rest) = some (⟨kOf lv, 0, e0, e0, acc.app G⟩, rest) := by
  induction G with
  | nil =>
    intro acc q rest f h1 h2 hra hrw hf
    obtain ⟨g, rfl⟩ : ∃ g, f = g + 1 := ⟨f - 1, by omega⟩
    show loopL (g + 1) lv acc q rest = _
    rw [loopL_succ, if_neg (by rw [hrw]; decide), app_nil]
    unfold finP
    rw [if_neg (by simp only [Fo.len] at h2; omega)]
  | cons k o n t kids nx _ ih =>
    intro acc q rest f h1 h2 hra hrw hf
    obtain ⟨g, rfl⟩ : ∃ g, f = g + 1 := ⟨f - 1, by omega⟩
    have hmm : mayP k o n t kids = true ∧ nx.may = true := by simp only [Fo.may, Bool.and_eq_true] at hm; exact hm
    have e : restK (wOf lv) ((Fo.cons k o n t kids nx).tks pk) ++ rest = (wOf lv, false) :: (wrapK pk k (tokP k o n t kids) ++ (restK (wOf lv) (nx.tks pk) ++ rest)) := by
      simp only [Fo.tks, restK, List.flatMap_cons, tokP]
      simp
    rw [e] at hf ⊢
    rw [loopL_succ, if_pos (isT_cons _ _), List.tail_cons]
    obtain ⟨hA, hB, _⟩ := hG.1 k o n t hmm.1
    simp only [List.length_cons, List.length_append] at hf
    have hp : parseL g lv (wrapK pk k (tokP k o n t kids) ++ (restK (wOf lv) (nx.tks pk) ++ rest)) = some (⟨k, o, n, t, kids⟩, restK (wOf lv) (nx.tks pk) ++ rest) := by
      rcases hpk with ⟨rfl, rfl⟩ | ⟨rfl, rfl⟩
      · exact hA 2 _ g (by decide) (by simp only [List.length_append]; omega)
      · refine hB _ g ?_ (by simp only [List.length_append]; omega)
        cases nx with
        | nil => exact hra
        | cons k2 o2 n2 t2 kids2 nx2 =>
          simp only [Fo.tks, restK, List.flatMap_cons]
          exact isT_ne (by decide)
    rw [hp]
    simp only
    have hsn := Fo.snoc_len acc ⟨k, o, n, t, kids⟩
    rw [ih hG.2 hmm.2 (acc.snoc ⟨k, o, n, t, kids⟩) ⟨k, o, n, t, kids⟩ rest g (by omega) (by simp only [Fo.len] at h2; omega) hra hrw (by simp only [List.length_append]; omega), snoc_app]
theorem node_eq {n t : ByteArray} {o : Int} (h : plainB o n t = true) : o = 0 ∧ n = e0 ∧ t = e0 := by
  unfold plainB at h
  simp only [Bool.and_eq_true, decide_eq_true_eq] at h
  obtain ⟨⟨h1, h2⟩, h3⟩ := h
  have he : ∀ x : ByteArray, x.toList = [] → x = e0 := fun x hx => by
    rw [dl] at hx
    cases x with | mk d => simp at hx; subst hx; rfl
  exact ⟨h1, he n h2, he t h3⟩
/-- Out of what is read at level 0, without brackets. -/
theorem rt_base {k o : Int} {n t : ByteArray} {F : Fo} (h2 : ¬ k = 2) (h3 : ¬ k = 3) (h : ∀ rest f, 4 * (tokP k o n t F ++ rest).length + 1 ≤ f → parseL f 0 (tokP k o n t F ++ rest) = some (⟨k, o, n, t, F⟩, rest)) :
    (∀ pk rest f, pk ≠ 3 → 4 * (wrapK pk k (tokP k o n t F) ++ rest).length + 1 ≤ f → parseL f 0 (wrapK pk k (tokP k o n t F) ++ rest) = some (⟨k, o, n, t, F⟩, rest))
  ∧ (∀ rest f, isT sAnd rest = false → 4 * (wrapK 3 k (tokP k o n t F) ++ rest).length + 2 ≤ f → parseL f 1 (wrapK 3 k (tokP k o n t F) ++ rest) = some (⟨k, o, n, t, F⟩, rest))
  ∧ (∀ rest f, isT sAnd rest = false → isT sOr rest = false → 4 * (tokP k o n t F ++ rest).length + 3 ≤ f → parseL f 2 (tokP k o n t F ++ rest) = some (⟨k, o, n, t, F⟩, rest)) := by
  have hw : ∀ pk l, wrapK pk k l = l := fun pk l => by unfold wrapK; rw [if_neg (by rintro (h | ⟨h, _⟩); exact h3 h; exact h2 h)]
  refine ⟨fun pk rest f _ hf => by rw [hw] at hf ⊢; exact h rest f hf, fun rest f ha hf => ?_, fun rest f ha ho hf => ?_⟩
  · rw [hw] at hf ⊢
    obtain ⟨g, rfl⟩ : ∃ g, f = g + 1 := ⟨f - 1, by omega⟩
    exact up_one (h rest g (by omega)) ha (by omega)
  · obtain ⟨g, rfl⟩ : ∃ g, f = g + 2 := ⟨f - 2, by omega⟩
    exact up_one (up_one (h rest g (by omega)) ha (by omega)) ho (by omega)
theorem dot_claim (n : List UInt8) : dotS (99 :: 108 :: 97 :: 105 :: 109 :: 46 :: n) = (sClaim, n, true) := by
  have e : Lib.indexByte (99 :: 108 :: 97 :: 105 :: 109 :: 46 :: n) 46 = 5 := rfl
  unfold dotS
  rw [e]; rfl
theorem dot_cert (n : List UInt8) : dotS (99 :: 101 :: 114 :: 116 :: 46 :: n) = (sCert, n, true) := by
  have e : Lib.indexByte (99 :: 101 :: 114 :: 116 :: 46 :: n) 46 = 4 := rfl
  unfold dotS
  rw [e]; rfl
theorem look_claim {n : List UInt8} (h : nameB (bs n) = true) : lookS (99 :: 108 :: 97 :: 105 :: 109 :: 46 :: n) = some (2, n) := by
  unfold lookS
  rw [dot_claim, if_neg (by simp [sMethod]), if_neg (by simp [sPath]), if_pos ⟨rfl, rfl, h⟩]
theorem look_cert {n : List UInt8} (h : nameB (bs n) = true) : lookS (99 :: 101 :: 114 :: 116 :: 46 :: n) = some (3, n) := by
  unfold lookS
  rw [dot_cert, if_neg (by simp [sMethod]), if_neg (by simp [sPath]), if_neg (by rintro ⟨_, h, _⟩; exact absurd (show sCert = sClaim from h) (by decide)), if_pos ⟨rfl, rfl, h⟩]
/-- What a test that may be looks at. -/
theorem looks_cases {o : Int} {n : ByteArray} (h0 : 0 ≤ o) (h1 : o < 4) (hn : (if o = 2 ∨ o = 3 then nameB n else decide (n.toList = [])) = true) :
    lookS (looksL o n.data.toList) = some (o, n.data.toList) ∧ (∀ r, isT [40] ((looksL o n.data.toList, false) :: r) = false) ∧ (∀ r, isT sAlways ((looksL o n.data.toList, false) :: r) = false) ∧ (∀ r, isT sNot ((looksL o n.data.toList, false) :: r) = false)
    ∧ looksL o n.data.toList ≠ [] ∧ (∀ x ∈ looksL o n.data.toList, wdC x = true) := by
  have hcase : o = 0 ∨ o = 1 ∨ o = 2 ∨ o = 3 := by omega
  have hbs : bs n.data.toList = n := by cases n; simp [bs]
  have hnm : nameB n = true → ∀ x ∈ n.data.toList, wdC x = true := fun h x hx => by
    unfold nameB at h
    simp only [Bool.and_eq_true] at h
    unfold wdC
    rw [List.all_eq_true.1 h.2 x hx]; rfl
  rcases hcase with rfl | rfl | rfl | rfl
  · have hz : n.data.toList = [] := by rw [← dl]; exact of_decide_eq_true hn
    rw [hz]
    exact ⟨by decide, fun r => isT_ne (by decide), fun r => isT_ne (by decide), fun r => isT_ne (by decide), by decide, by decide⟩
  · have hz : n.data.toList = [] := by rw [← dl]; exact of_decide_eq_true hn
    rw [hz]
    exact ⟨by decide, fun r => isT_ne (by decide), fun r => isT_ne (by decide), fun r => isT_ne (by decide), by decide, by decide⟩
  · have hz : nameB n = true := hn
    have e : looksL 2 n.data.toList = 99 :: 108 :: 97 :: 105 :: 109 :: 46 :: n.data.toList := rfl
    rw [e]
    refine ⟨look_claim (by rw [hbs]; exact hz), fun r => isT_ne (by simp), fun r => isT_ne (by simp [sAlways]), fun r => isT_ne (by simp [sNot]), by simp, fun x hx => ?_⟩
    simp only [List.mem_cons] at hx
    rcases hx with rfl | rfl | rfl | rfl | rfl | rfl | hx
    all_goals first | exact hnm hz x hx | decide
  · have hz : nameB n = true := hn
    have e : looksL 3 n.data.toList = 99 :: 101 :: 114 :: 116 :: 46 :: n.data.toList := rfl
    rw [e]
    refine ⟨look_cert (by rw [hbs]; exact hz), fun r => isT_ne (by simp), fun r => isT_ne (by simp [sAlways]), fun r => isT_ne (by simp [sNot]), by simp, fun x hx => ?_⟩
    simp only [List.mem_cons] at hx
    rcases hx with rfl | rfl | rfl | rfl | rfl | hx
    all_goals first | exact hnm hz x hx | decide
theorem test_parts {k o : Int} {n t : ByteArray} {F : Fo} (k0 : ¬ k = 0) (k1 : ¬ k = 1) (k23 : ¬ (k = 2 ∨ k = 3)) (h : mayP k o n t F = true) : (k = 4 ∨ k = 5 ∨ k = 6) ∧ 0 ≤ o ∧ o < 4 ∧ F = .nil ∧ (if o = 2 ∨ o = 3 then nameB n else decide (n.toList = [])) = true ∧ litB t = true := by
  unfold mayP nodeB at h
  rw [if_neg k0, if_neg k1, if_neg k23] at h
  split at h
  · next h4 =>
    simp only [Bool.and_eq_true] at h
    obtain ⟨⟨⟨⟨hl, h0⟩, h1⟩, hn⟩, ht⟩ := h
    refine ⟨h4, of_decide_eq_true h0, of_decide_eq_true h1, ?_, hn, ht⟩
    have hl := of_decide_eq_true hl
    cases F with | nil => rfl | cons => simp [Fo.len] at hl
  · cases h
theorem opW_opL {k : Int} (h : k = 4 ∨ k = 5 ∨ k = 6) : opW (opL k) = some k := by rcases h with rfl | rfl | rfl <;> decide
theorem tokN_test {k o : Int} {n t : ByteArray} {L : List (List Tok)} (h : k = 4 ∨ k = 5 ∨ k = 6) : tokN k o n t L = [(looksL o n.data.toList, false), (opL k, false), (t.data.toList, true)] := by
  unfold tokN
  rw [if_neg (by omega), if_neg (by omega), if_neg (by omega), if_neg (by omega)]
theorem wrap_pos {pk k : Int} {l : List Tok} (h : 1 ≤ l.length) : 1 ≤ (wrapK pk k l).length := by
  unfold wrapK
  split
  · simp
  · exact h
theorem tok_pos {k o : Int} {n t : ByteArray} {L : List (List Tok)} (hL : k = 2 ∨ k = 3 → 1 ≤ L.length) (h : ∀ x ∈ L, 1 ≤ x.length) : 1 ≤ (tokN k o n t L).length := by
  have hj : ∀ sep, 1 ≤ L.length → 1 ≤ (joinK sep L).length := fun sep hl => by
    cases L with
    | nil => simp at hl
    | cons x r =>
      have := h x (List.mem_cons_self ..)
      simp only [joinK, List.length_append]; omega
  unfold tokN
  split
  · exact Nat.le_refl _
  · split
    · simp
    · split
      · next h2 => exact hj _ (hL (Or.inl h2))
      · split
        · next h3 => exact hj _ (hL (Or.inr h3))
        · simp
theorem tks_len (pk : Int) (F : Fo) : (F.tks pk).length = F.len := by
  induction F with
  | nil => rfl
  | cons k o n t kids nx _ ih => simp only [Fo.tks, Fo.len, List.length_cons, ih]
theorem list_len {k o : Int} {n t : ByteArray} {l : Nat} {m : Bool} (h : nodeB k o n t l m = true) (hk : k = 2 ∨ k = 3) : 1 ≤ l := by
  unfold nodeB at h
  rw [if_neg (by omega), if_neg (by omega), if_pos hk] at h
  simp only [Bool.and_eq_true, decide_eq_true_eq] at h
  omega
theorem tks_pos (F : Fo) : ∀ pk, F.may = true → ∀ x ∈ F.tks pk, 1 ≤ x.length := by
  induction F with
  | nil => intro pk _ x hx; simp [Fo.tks] at hx
  | cons k o n t kids nx ih1 ih2 =>
    intro pk hm x hx
    have hmm : nodeB k o n t kids.len kids.may = true ∧ nx.may = true := by simp only [Fo.may, Bool.and_eq_true] at hm; exact hm
    have hk : kids.may = true := by
      rcases may_nil (F := kids) hmm.1 with h | h
      · exact h
      · rw [h]; rfl
    simp only [Fo.tks, List.mem_cons] at hx
    rcases hx with rfl | hx
    · exact wrap_pos (tok_pos (fun h => by rw [tks_len]; exact list_len hmm.1 h) (ih1 k hk))
    · exact ih2 pk hmm.2 x hx
theorem tokP_pos {k o : Int} {n t : ByteArray} {F : Fo} (hm : mayP k o n t F = true) : 1 ≤ (tokP k o n t F).length := by
  have hk : F.may = true := by
    rcases may_nil hm with h | h
    · exact h
    · rw [h]; rfl
  exact tok_pos (fun h => by rw [tks_len]; exact list_len hm h) (tks_pos F k hk)
theorem rt_step (F : Fo) (hF : F.All RT) : RT F := by
  intro k o n t hm
  by_cases k0 : k = 0
  · subst k0
    have hp := hm
    unfold mayP nodeB at hp
    simp only [if_true, Bool.and_eq_true, decide_eq_true_eq] at hp
    obtain ⟨rfl, rfl, rfl⟩ := node_eq hp.1
    have hn : F = .nil := by cases F with | nil => rfl | cons => simp [Fo.len] at hp
    subst hn
    refine rt_base (by decide) (by decide) fun rest f hf => ?_
    obtain ⟨g, rfl⟩ : ∃ g, f = g + 1 := ⟨f - 1, by omega⟩
    show parseL (g + 1) 0 ((sAlways, false) :: rest) = _
    rw [parseL_one]
    unfold oneL
    rw [if_neg (by rw [isT_ne (by decide)]; decide), if_pos (isT_cons _ _)]
    rfl
  by_cases hk1 : k = 1
  · subst hk1
    have hp := hm
    unfold mayP nodeB at hp
    simp only [if_true, show ¬ (1 : Int) = 0 by decide, if_false, Bool.and_eq_true, decide_eq_true_eq] at hp
    obtain ⟨rfl, rfl, rfl⟩ := node_eq hp.1.1
    obtain ⟨k1, o1, n1, t1, kids, rfl⟩ : ∃ k1 o1 n1 t1 kids, F = .cons k1 o1 n1 t1 kids .nil := by
      cases F with
      | nil => simp [Fo.len] at hp
      | cons k1 o1 n1 t1 kids nx => cases nx with
        | nil => exact ⟨k1, o1, n1, t1, kids, rfl⟩
        | cons => simp [Fo.len] at hp
    have hm1 : mayP k1 o1 n1 t1 kids = true := by have := hp.2; simp only [Fo.may, Bool.and_true] at this; exact this
    refine rt_base (by decide) (by decide) fun rest f hf => ?_
    obtain ⟨g, rfl⟩ : ∃ g, f = g + 1 := ⟨f - 1, by omega⟩
    have e : tokP 1 0 e0 e0 (.cons k1 o1 n1 t1 kids .nil) ++ rest = (sNot, false) :: (wrapK 1 k1 (tokP k1 o1 n1 t1 kids) ++ rest) := rfl
    rw [e] at hf ⊢
    simp only [List.length_cons] at hf
    rw [parseL_one]
    unfold oneL
    rw [if_neg (by rw [isT_ne (by decide)]; decide), if_neg (by rw [isT_ne (by decide)]; decide), if_pos (isT_cons _ _), List.tail_cons, (hF.1 k1 o1 n1 t1 hm1).1 1 rest g (by decide) (by omega)]
  by_cases k23 : k = 2 ∨ k = 3
  · obtain ⟨hl2, hfm⟩ : 2 ≤ F.len ∧ F.may = true := by
      have h := hm
      unfold mayP nodeB at h
      rcases k23 with rfl | rfl
      · simp at h; exact ⟨h.1.2, h.2⟩
      · simp at h; exact ⟨h.1.2, h.2⟩
    obtain ⟨rfl, rfl, rfl⟩ : o = 0 ∧ n = e0 ∧ t = e0 := by
      refine node_eq ?_
      have h := hm
      unfold mayP nodeB at h
      rcases k23 with rfl | rfl
      · simp at h; exact h.1.1
      · simp at h; exact h.1.1
    obtain ⟨k1, o1, n1, t1, kids, nx, rfl⟩ : ∃ k1 o1 n1 t1 kids nx, F = .cons k1 o1 n1 t1 kids nx := by
      cases F with
      | nil => exact absurd hl2 (by decide)
      | cons k1 o1 n1 t1 kids nx => exact ⟨k1, o1, n1, t1, kids, nx, rfl⟩
    have hmm : mayP k1 o1 n1 t1 kids = true ∧ nx.may = true := by simp only [Fo.may, Bool.and_eq_true] at hfm; exact hfm
    obtain ⟨hA, hB, _⟩ := hF.1 k1 o1 n1 t1 hmm.1
    rcases k23 with rfl | rfl
    · -- and
      have e : ∀ rest, tokP 2 0 e0 e0 (.cons k1 o1 n1 t1 kids nx) ++ rest = wrapK 2 k1 (tokP k1 o1 n1 t1 kids) ++ (restK sAnd (nx.tks 2) ++ rest) := fun rest => by
        show joinK sAnd ((Fo.cons k1 o1 n1 t1 kids nx).tks 2) ++ rest = _
        simp only [Fo.tks, joinK, restK, tokP, List.append_assoc]
      have hlv1 : ∀ rest f, isT sAnd rest = false → 4 * (tokP 2 0 e0 e0 (.cons k1 o1 n1 t1 kids nx) ++ rest).length + 2 ≤ f → parseL f 1 (tokP 2 0 e0 e0 (.cons k1 o1 n1 t1 kids nx) ++ rest) = some (⟨2, 0, e0, e0, .cons k1 o1 n1 t1 kids nx⟩, rest) := by
        intro rest f ha hf
        obtain ⟨g, rfl⟩ : ∃ g, f = g + 1 := ⟨f - 1, by omega⟩
        rw [e] at hf ⊢
        have hpos : 1 ≤ (wrapK 2 k1 (tokP k1 o1 n1 t1 kids)).length := wrap_pos (tokP_pos hmm.1)
        rw [parseL_list, hA 2 _ g (by decide) (by omega)]
        simp only
        simp only [List.length_append] at hf
        exact loop_read 0 2 (Or.inl ⟨rfl, rfl⟩) nx hF.2 hmm.2 (.cons k1 o1 n1 t1 kids .nil) ⟨k1, o1, n1, t1, kids⟩ rest g (Nat.le_refl _) (by simp only [Fo.len] at hl2 ⊢; omega) ha ha (by simp only [List.length_append, show wOf 0 = sAnd from rfl]; omega)
      have hlv2 : ∀ rest f, isT sAnd rest = false → isT sOr rest = false → 4 * (tokP 2 0 e0 e0 (.cons k1 o1 n1 t1 kids nx) ++ rest).length + 3 ≤ f → parseL f 2 (tokP 2 0 e0 e0 (.cons k1 o1 n1 t1 kids nx) ++ rest) = some (⟨2, 0, e0, e0, .cons k1 o1 n1 t1 kids nx⟩, rest) := by
        intro rest f ha ho hf
        obtain ⟨g, rfl⟩ : ∃ g, f = g + 1 := ⟨f - 1, by omega⟩
        exact up_one (hlv1 rest g ha (by omega)) ho (by omega)
      refine ⟨fun pk rest f hpk hf => ?_, fun rest f ha hf => ?_, hlv2⟩
      · have hw : wrapK pk 2 (tokP 2 0 e0 e0 (.cons k1 o1 n1 t1 kids nx)) = ([40], false) :: (tokP 2 0 e0 e0 (.cons k1 o1 n1 t1 kids nx) ++ [([41], false)]) := by unfold wrapK; rw [if_pos (Or.inr ⟨rfl, hpk⟩)]
        rw [hw] at hf ⊢
        obtain ⟨g, rfl⟩ : ∃ g, f = g + 1 := ⟨f - 1, by omega⟩
        refine open_one (hlv2 _ g (isT_ne (by decide)) (isT_ne (by decide)) ?_)
        simp only [List.length_append, List.length_cons, List.length_nil, List.cons_append] at hf ⊢
        omega
      · have hw : wrapK 3 2 (tokP 2 0 e0 e0 (.cons k1 o1 n1 t1 kids nx)) = tokP 2 0 e0 e0 (.cons k1 o1 n1 t1 kids nx) := by unfold wrapK; rw [if_neg (by decide)]
        rw [hw] at hf ⊢
        exact hlv1 rest f ha hf
    · -- or
      have e : ∀ rest, tokP 3 0 e0 e0 (.cons k1 o1 n1 t1 kids nx) ++ rest = wrapK 3 k1 (tokP k1 o1 n1 t1 kids) ++ (restK sOr (nx.tks 3) ++ rest) := fun rest => by
        show joinK sOr ((Fo.cons k1 o1 n1 t1 kids nx).tks 3) ++ rest = _
        simp only [Fo.tks, joinK, restK, tokP, List.append_assoc]
      have hlv2 : ∀ rest f, isT sAnd rest = false → isT sOr rest = false → 4 * (tokP 3 0 e0 e0 (.cons k1 o1 n1 t1 kids nx) ++ rest).length + 3 ≤ f → parseL f 2 (tokP 3 0 e0 e0 (.cons k1 o1 n1 t1 kids nx) ++ rest) = some (⟨3, 0, e0, e0, .cons k1 o1 n1 t1 kids nx⟩, rest) := by
        intro rest f ha ho hf
        obtain ⟨g, rfl⟩ : ∃ g, f = g + 1 := ⟨f - 1, by omega⟩
        rw [e] at hf ⊢
        have hfol : isT sAnd (restK sOr (nx.tks 3) ++ rest) = false := by
          cases nx with
          | nil => exact ha
          | cons k2 o2 n2 t2 kids2 nx2 =>
            simp only [Fo.tks, restK, List.flatMap_cons]
            exact isT_ne (by decide)
        have hpos : 1 ≤ (wrapK 3 k1 (tokP k1 o1 n1 t1 kids)).length := wrap_pos (tokP_pos hmm.1)
        rw [parseL_list, hB _ g hfol (by omega)]
        simp only
        simp only [List.length_append] at hf
        exact loop_read 1 3 (Or.inr ⟨rfl, rfl⟩) nx hF.2 hmm.2 (.cons k1 o1 n1 t1 kids .nil) ⟨k1, o1, n1, t1, kids⟩ rest g (Nat.le_refl _) (by simp only [Fo.len] at hl2 ⊢; omega) ha ho (by simp only [List.length_append, show wOf 1 = sOr from rfl]; omega)
      have hw : ∀ pk, wrapK pk 3 (tokP 3 0 e0 e0 (.cons k1 o1 n1 t1 kids nx)) = ([40], false) :: (tokP 3 0 e0 e0 (.cons k1 o1 n1 t1 kids nx) ++ [([41], false)]) := fun pk => by unfold wrapK; rw [if_pos (Or.inl rfl)]
      have hlv0 : ∀ rest f, 4 * (([40], false) :: (tokP 3 0 e0 e0 (.cons k1 o1 n1 t1 kids nx) ++ [([41], false)]) ++ rest : List Tok).length + 1 ≤ f → parseL f 0 (([40], false) :: (tokP 3 0 e0 e0 (.cons k1 o1 n1 t1 kids nx) ++ [([41], false)]) ++ rest) = some (⟨3, 0, e0, e0, .cons k1 o1 n1 t1 kids nx⟩, rest) := by
        intro rest f hf
        obtain ⟨g, rfl⟩ : ∃ g, f = g + 1 := ⟨f - 1, by omega⟩
        refine open_one (hlv2 _ g (isT_ne (by decide)) (isT_ne (by decide)) ?_)
        simp only [List.length_append, List.length_cons, List.length_nil, List.cons_append] at hf ⊢
        omega
      refine ⟨fun pk rest f hpk hf => by rw [hw] at hf ⊢; exact hlv0 rest f hf, fun rest f ha hf => ?_, hlv2⟩
      rw [hw] at hf ⊢
      obtain ⟨g, rfl⟩ : ∃ g, f = g + 1 := ⟨f - 1, by omega⟩
      exact up_one (hlv0 rest g (by omega)) ha (by omega)
  · obtain ⟨h4, h0, h1, rfl, hn, _⟩ := test_parts k0 hk1 k23 hm
    obtain ⟨l1, l2, l3, l4, _, _⟩ := looks_cases h0 h1 hn
    have hbs : ∀ x : ByteArray, bs x.data.toList = x := fun x => by cases x; simp [bs]
    refine rt_base (by omega) (by omega) fun rest f hf => ?_
    obtain ⟨g, rfl⟩ : ∃ g, f = g + 1 := ⟨f - 1, by omega⟩
    unfold tokP
    rw [tokN_test h4, parseL_one]
    unfold oneL
    simp only [List.cons_append, List.nil_append, l2, l3, l4, Bool.false_eq_true, if_false]
    unfold testL
    simp only [l1, opW_opL h4, hbs]
theorem rt_any (F : Fo) : RT F := Fo.rec_all rt_step F
end Go.Proofs.YthpagppipifgeaaGreatDoor
/- Plain: what a test looks at, as the document's answer reads it. -/
namespace Go.Proofs.YthpagppipifgeaaGreatDoor
open Go.RowKit

theorem dot_spec {l : List UInt8} (h : (dotS l).2.2 = true) : l = (dotS l).1 ++ 46 :: (dotS l).2.1 := by
  unfold dotS at h ⊢
  split
  · next h0 =>
    obtain ⟨i, hi⟩ : ∃ i : Nat, Lib.indexByte l 46 = (i : Int) := ⟨(Lib.indexByte l 46).toNat, by omega⟩
    have h1 := (Lib.indexByte_some hi).1
    rw [hi]
    simp only [Int.toNat_natCast]
    obtain ⟨hlt, he⟩ := List.getElem?_eq_some_iff.1 h1
    conv => lhs; rw [← List.take_append_drop i l, List.drop_eq_getElem_cons hlt, he]
  · next h0 => rw [if_neg h0] at h; cases h
def refLook (a : List UInt8) : Option (Int × List UInt8) :=
  if a = sMethod then some (0, []) else if a = sPath then some (1, [])
  else if a.take 6 = sClaim ++ [46] ∧ nameB (bs (a.drop 6)) = true then some (2, a.drop 6)
  else if a.take 5 = sCert ++ [46] ∧ nameB (bs (a.drop 5)) = true then some (3, a.drop 5) else none
theorem take_claim {a : List UInt8} (h : a.take 6 = sClaim ++ [46]) : a = 99 :: 108 :: 97 :: 105 :: 109 :: 46 :: a.drop 6 := by
  conv => lhs; rw [← List.take_append_drop 6 a, h]
  rfl
theorem take_cert {a : List UInt8} (h : a.take 5 = sCert ++ [46]) : a = 99 :: 101 :: 114 :: 116 :: 46 :: a.drop 5 := by
  conv => lhs; rw [← List.take_append_drop 5 a, h]
  rfl
theorem look_ref (a : List UInt8) : lookS a = refLook a := by
  unfold lookS refLook
  by_cases hm : a = sMethod
  · rw [if_pos hm, if_pos hm]
  by_cases hp : a = sPath
  · rw [if_neg hm, if_neg hm, if_pos hp, if_pos hp]
  rw [if_neg hm, if_neg hm, if_neg hp, if_neg hp]
  by_cases hc : a.take 6 = sClaim ++ [46]
  · have hd : dotS a = (sClaim, a.drop 6, true) := by
      have := dot_claim (a.drop 6)
      rw [← take_claim hc] at this
      exact this
    have hce : ¬ a.take 5 = sCert ++ [46] := by
      intro e
      rw [take_claim hc] at e
      simp [sCert] at e
    rw [hd]
    by_cases hn : nameB (bs (a.drop 6)) = true
    · rw [if_pos ⟨rfl, rfl, hn⟩, if_pos ⟨hc, hn⟩]
    · rw [if_neg (fun h => hn h.2.2), if_neg (fun h => absurd (show sClaim = sCert from h.2.1) (by decide)), if_neg (fun h => hn h.2), if_neg (fun h => hce h.1)]
  · have h1 : ¬ ((dotS a).2.2 = true ∧ (dotS a).1 = sClaim ∧ nameB (bs (dotS a).2.1) = true) := by
      rintro ⟨e1, e2, _⟩
      have := dot_spec e1
      rw [e2] at this
      exact hc (by rw [this]; rfl)
    have h3 : ¬ (a.take 6 = sClaim ++ [46] ∧ nameB (bs (a.drop 6)) = true) := fun h => hc h.1
    rw [if_neg h1, if_neg h3]
    by_cases ht : a.take 5 = sCert ++ [46]
    · have hd : dotS a = (sCert, a.drop 5, true) := by
        have := dot_cert (a.drop 5)
        rw [← take_cert ht] at this
        exact this
      rw [hd]
      by_cases hn : nameB (bs (a.drop 5)) = true
      · rw [if_pos ⟨rfl, rfl, hn⟩, if_pos ⟨ht, hn⟩]
      · rw [if_neg (fun h => hn h.2.2), if_neg (fun h => hn h.2)]
    · have h2 : ¬ ((dotS a).2.2 = true ∧ (dotS a).1 = sCert ∧ nameB (bs (dotS a).2.1) = true) := by
        rintro ⟨e1, e2, _⟩
        have := dot_spec e1
        rw [e2] at this
        exact ht (by rw [this]; rfl)
      rw [if_neg h2, if_neg (fun h => ht h.1)]
end Go.Proofs.YthpagppipifgeaaGreatDoor
