/- Plain: a policy's tokens are read as it. -/
import Derived.Test.YthpagppipifgeaaGreatDoorZLTokM
namespace Go.Proofs.YthpagppipifgeaaGreatDoor
open Go.RowKit

def joinK (sep : List UInt8) : List (List Tok) → List Tok
  | [] => []
  | x :: r => x ++ r.flatMap fun y => (sep, false) :: y
def restK (sep : List UInt8) (L : List (List Tok)) : List Tok := L.flatMap fun y => (sep, false) :: y
def wrapK (pk k : Int) (l : List Tok) : List Tok := if k = 3 ∨ (k = 2 ∧ pk ≠ 3) then ([40], false) :: (l ++ [([41], false)]) else l
def tokN (k o : Int) (n t : ByteArray) (L : List (List Tok)) : List Tok :=
  if k = 0 then [(sAlways, false)] else if k = 1 then (sNot, false) :: L.headD [] else if k = 2 then joinK sAnd L else if k = 3 then joinK sOr L
  else [(looksL o n.data.toList, false), (opL k, false), (t.data.toList, true)]
def Fo.tks (pk : Int) : Fo → List (List Tok)
  | .nil => []
  | .cons k o n t kids nx => wrapK pk k (tokN k o n t (kids.tks k)) :: nx.tks pk
def tokP (k o : Int) (n t : ByteArray) (F : Fo) : List Tok := tokN k o n t (F.tks k)
def Fo.app : Fo → Fo → Fo
  | .nil, G => G
  | .cons k o n t kids nx, G => .cons k o n t kids (nx.app G)
theorem app_nil (F : Fo) : F.app .nil = F := by
  induction F with
  | nil => rfl
  | cons k o n t kids nx _ ih => simp only [Fo.app, ih]
theorem snoc_app (F : Fo) (p : Po) (G : Fo) : (F.snoc p).app G = F.app (.cons p.k p.o p.n p.t p.kids G) := by
  induction F with
  | nil => rfl
  | cons k o n t kids nx _ ih => simp only [Fo.snoc, Fo.app, ih]
/-- A node is read from its tokens, at each level. -/
def RT (F : Fo) : Prop := ∀ (k o : Int) (n t : ByteArray), mayP k o n t F = true →
  (∀ pk rest f, pk ≠ 3 → 4 * (wrapK pk k (tokP k o n t F) ++ rest).length + 1 ≤ f → parseL f 0 (wrapK pk k (tokP k o n t F) ++ rest) = some (⟨k, o, n, t, F⟩, rest))
  ∧ (∀ rest f, isT sAnd rest = false → 4 * (wrapK 3 k (tokP k o n t F) ++ rest).length + 2 ≤ f → parseL f 1 (wrapK 3 k (tokP k o n t F) ++ rest) = some (⟨k, o, n, t, F⟩, rest))
  ∧ (∀ rest f, isT sAnd rest = false → isT sOr rest = false → 4 * (tokP k o n t F ++ rest).length + 3 ≤ f → parseL f 2 (tokP k o n t F ++ rest) = some (⟨k, o, n, t, F⟩, rest))
theorem up_one {f lv : Nat} {ts rest : List Tok} {p : Po} (h : parseL f lv ts = some (p, rest)) (hw : isT (wOf lv) rest = false) (hf : 1 ≤ f) : parseL (f + 1) (lv + 1) ts = some (p, rest) := by
  rw [parseL_list, h]
  obtain ⟨g, rfl⟩ : ∃ g, f = g + 1 := ⟨f - 1, by omega⟩
  simp only
  rw [loopL_succ, if_neg (by rw [hw]; decide)]
  rfl
theorem isT_cons (w : List UInt8) (r : List Tok) : isT w ((w, false) :: r) = true := by unfold isT; simp
theorem open_one {f : Nat} {ts rest : List Tok} {p : Po} (h : parseL f 2 (ts ++ ([41], false) :: rest) = some (p, ([41], false) :: rest)) : parseL (f + 1) 0 (([40], false) :: (ts ++ [([41], false)]) ++ rest) = some (p, rest) := by
  rw [parseL_one]
  unfold oneL
  rw [List.cons_append, if_pos (isT_cons _ _)]
  simp only [List.tail_cons, List.append_assoc, List.singleton_append]
  rw [h]
  simp only
  rw [if_pos (isT_cons _ _), List.tail_cons]
theorem loop_read (lv : Nat) (pk : Int) (hpk : (lv = 0 ∧ pk = 2) ∨ (lv = 1 ∧ pk = 3)) (G : Fo) (hG : G.All RT) (hm : G.may = true) : ∀ (acc : Fo) (q : Po) (rest : List Tok) (f : Nat), 1 ≤ acc.len → 2 ≤ acc.len + G.len → isT sAnd rest = false → isT (wOf lv) rest = false →
    4 * (restK (wOf lv) (G.tks pk) ++ rest).length + lv + 2 ≤ f → loopL f lv acc q (restK (wOf lv) (G.tks pk) ++ rest) = some (⟨kOf lv, 0, e0, e0, acc.app G⟩, rest) := by
  induction G with
  | nil =>
    intro acc q rest f h1 h2 hra hrw hf
    obtain ⟨g, rfl⟩ : ∃ g, f = g + 1 := ⟨f - 1, by omega⟩
    show loopL (g + 1) lv acc q rest = _
    rw [loopL_succ, if_neg (by rw [hrw]; decide), app_nil]
    unfold finP
    rw [if_neg (by simp only [Fo.len] at h2; omega)]
  | cons k o n t kids nx _ ih =>
    intro acc q rest f h1 h2 hra hrw hf
    obtain ⟨g, rfl⟩ : ∃ g, f = g + 1 := ⟨f - 1, by omega⟩
    have hmm : mayP k o n t kids = true ∧ nx.may = true := by simp only [Fo.may, Bool.and_eq_true] at hm; exact hm
    have e : restK (wOf lv) ((Fo.cons k o n t kids nx).tks pk) ++ rest = (wOf lv, false) :: (wrapK pk k (tokP k o n t kids) ++ (restK (wOf lv) (nx.tks pk) ++ rest)) := by
      simp only [Fo.tks, restK, List.flatMap_cons, tokP]
      simp
    rw [e] at hf ⊢
    rw [loopL_succ, if_pos (isT_cons _ _), List.tail_cons]
    obtain ⟨hA, hB, _⟩ := hG.1 k o n t hmm.1
    simp only [List.length_cons, List.length_append] at hf
    have hp : parseL g lv (wrapK pk k (tokP k o n t kids) ++ (restK (wOf lv) (nx.tks pk) ++ rest)) = some (⟨k, o, n, t, kids⟩, restK (wOf lv) (nx.tks pk) ++ rest) := by
      rcases hpk with ⟨rfl, rfl⟩ | ⟨rfl, rfl⟩
      · exact hA 2 _ g (by decide) (by simp only [List.length_append]; omega)
      · refine hB _ g ?_ (by simp only [List.length_append]; omega)
        cases nx with
        | nil => exact hra
        | cons k2 o2 n2 t2 kids2 nx2 =>
          simp only [Fo.tks, restK, List.flatMap_cons]
          exact isT_ne (by decide)
    rw [hp]
    simp only
    have hsn := Fo.snoc_len acc ⟨k, o, n, t, kids⟩
    rw [ih hG.2 hmm.2 (acc.snoc ⟨k, o, n, t, kids⟩) ⟨k, o, n, t, kids⟩ rest g (by omega) (by simp only [Fo.len] at h2; omega) hra hrw (by simp only [List.length_append]; omega), snoc_app]
theorem node_eq {n t : ByteArray} {o : Int} (h : plainB o n t = true) : o = 0 ∧ n = e0 ∧ t = e0 := by
  unfold plainB at h
  simp only [Bool.and_eq_true, decide_eq_true_eq] at h
  obtain ⟨⟨h1, h2⟩, h3⟩ := h
  have he : ∀ x : ByteArray, x.toList = [] → x = e0 := fun x hx => by
    rw [dl] at hx
    cases x with | mk d => simp at hx; subst hx; rfl
  exact ⟨h1, he n h2, he t h3⟩
/-- Out of what is read at level 0, without brackets. -/
theorem rt_base {k o : Int} {n t : ByteArray} {F : Fo} (h2 : ¬ k = 2) (h3 : ¬ k = 3) (h : ∀ rest f, 4 * (tokP k o n t F ++ rest).length + 1 ≤ f → parseL f 0 (tokP k o n t F ++ rest) = some (⟨k, o, n, t, F⟩, rest)) :
    (∀ pk rest f, pk ≠ 3 → 4 * (wrapK pk k (tokP k o n t F) ++ rest).length + 1 ≤ f → parseL f 0 (wrapK pk k (tokP k o n t F) ++ rest) = some (⟨k, o, n, t, F⟩, rest))
  ∧ (∀ rest f, isT sAnd rest = false → 4 * (wrapK 3 k (tokP k o n t F) ++ rest).length + 2 ≤ f → parseL f 1 (wrapK 3 k (tokP k o n t F) ++ rest) = some (⟨k, o, n, t, F⟩, rest))
  ∧ (∀ rest f, isT sAnd rest = false → isT sOr rest = false → 4 * (tokP k o n t F ++ rest).length + 3 ≤ f → parseL f 2 (tokP k o n t F ++ rest) = some (⟨k, o, n, t, F⟩, rest)) := by
  have hw : ∀ pk l, wrapK pk k l = l := fun pk l => by unfold wrapK; rw [if_neg (by rintro (h | ⟨h, _⟩); exact h3 h; exact h2 h)]
  refine ⟨fun pk rest f _ hf => by rw [hw] at hf ⊢; exact h rest f hf, fun rest f ha hf => ?_, fun rest f ha ho hf => ?_⟩
  · rw [hw] at hf ⊢
    obtain ⟨g, rfl⟩ : ∃ g, f = g + 1 := ⟨f - 1, by omega⟩
    exact up_one (h rest g (by omega)) ha (by omega)
  · obtain ⟨g, rfl⟩ : ∃ g, f = g + 2 := ⟨f - 2, by omega⟩
    exact up_one (up_one (h rest g (by omega)) ha (by omega)) ho (by omega)
theorem dot_claim (n : List UInt8) : dotS (99 :: 108 :: 97 :: 105 :: 109 :: 46 :: n) = (sClaim, n, true) := by
  have e : Lib.indexByte (99 :: 108 :: 97 :: 105 :: 109 :: 46 :: n) 46 = 5 := rfl
  unfold dotS
  rw [e]; rfl
theorem dot_cert (n : List UInt8) : dotS (99 :: 101 :: 114 :: 116 :: 46 :: n) = (sCert, n, true) := by
  have e : Lib.indexByte (99 :: 101 :: 114 :: 116 :: 46 :: n) 46 = 4 := rfl
  unfold dotS
  rw [e]; rfl
theorem look_claim {n : List UInt8} (h : nameB (bs n) = true) : lookS (99 :: 108 :: 97 :: 105 :: 109 :: 46 :: n) = some (2, n) := by
  unfold lookS
  rw [dot_claim, if_neg (by simp [sMethod]), if_neg (by simp [sPath]), if_pos ⟨rfl, rfl, h⟩]
theorem look_cert {n : List UInt8} (h : nameB (bs n) = true) : lookS (99 :: 101 :: 114 :: 116 :: 46 :: n) = some (3, n) := by
  unfold lookS
  rw [dot_cert, if_neg (by simp [sMethod]), if_neg (by simp [sPath]), if_neg (by rintro ⟨_, h, _⟩; exact absurd (show sCert = sClaim from h) (by decide)), if_pos ⟨rfl, rfl, h⟩]
/-- What a test that may be looks at. -/
theorem looks_cases {o : Int} {n : ByteArray} (h0 : 0 ≤ o) (h1 : o < 4) (hn : (if o = 2 ∨ o = 3 then nameB n else decide (n.toList = [])) = true) :
    lookS (looksL o n.data.toList) = some (o, n.data.toList) ∧ (∀ r, isT [40] ((looksL o n.data.toList, false) :: r) = false) ∧ (∀ r, isT sAlways ((looksL o n.data.toList, false) :: r) = false) ∧ (∀ r, isT sNot ((looksL o n.data.toList, false) :: r) = false)
    ∧ looksL o n.data.toList ≠ [] ∧ (∀ x ∈ looksL o n.data.toList, wdC x = true) := by
  have hcase : o = 0 ∨ o = 1 ∨ o = 2 ∨ o = 3 := by omega
  have hbs : bs n.data.toList = n := by cases n; simp [bs]
  have hnm : nameB n = true → ∀ x ∈ n.data.toList, wdC x = true := fun h x hx => by
    unfold nameB at h
    simp only [Bool.and_eq_true] at h
    unfold wdC
    rw [List.all_eq_true.1 h.2 x hx]; rfl
  rcases hcase with rfl | rfl | rfl | rfl
  · have hz : n.data.toList = [] := by rw [← dl]; exact of_decide_eq_true hn
    rw [hz]
    exact ⟨by decide, fun r => isT_ne (by decide), fun r => isT_ne (by decide), fun r => isT_ne (by decide), by decide, by decide⟩
  · have hz : n.data.toList = [] := by rw [← dl]; exact of_decide_eq_true hn
    rw [hz]
    exact ⟨by decide, fun r => isT_ne (by decide), fun r => isT_ne (by decide), fun r => isT_ne (by decide), by decide, by decide⟩
  · have hz : nameB n = true := hn
    have e : looksL 2 n.data.toList = 99 :: 108 :: 97 :: 105 :: 109 :: 46 :: n.data.toList := rfl
    rw [e]
    refine ⟨look_claim (by rw [hbs]; exact hz), fun r => isT_ne (by simp), fun r => isT_ne (by simp [sAlways]), fun r => isT_ne (by simp [sNot]), by simp, fun x hx => ?_⟩
    simp only [List.mem_cons] at hx
    rcases hx with rfl | rfl | rfl | rfl | rfl | rfl | hx
    all_goals first | exact hnm hz x hx | decide
  · have hz : nameB n = true := hn
    have e : looksL 3 n.data.toList = 99 :: 101 :: 114 :: 116 :: 46 :: n.data.toList := rfl
    rw [e]
    refine ⟨look_cert (by rw [hbs]; exact hz), fun r => isT_ne (by simp), fun r => isT_ne (by simp [sAlways]), fun r => isT_ne (by simp [sNot]), by simp, fun x hx => ?_⟩
    simp only [List.mem_cons] at hx
    rcases hx with rfl | rfl | rfl | rfl | rfl | hx
    all_goals first | exact hnm hz x hx | decide
theorem test_parts {k o : Int} {n t : ByteArray} {F : Fo} (k0 : ¬ k = 0) (k1 : ¬ k = 1) (k23 : ¬ (k = 2 ∨ k = 3)) (h : mayP k o n t F = true) : (k = 4 ∨ k = 5 ∨ k = 6) ∧ 0 ≤ o ∧ o < 4 ∧ F = .nil ∧ (if o = 2 ∨ o = 3 then nameB n else decide (n.toList = [])) = true ∧ litB t = true := by
  unfold mayP nodeB at h
  rw [if_neg k0, if_neg k1, if_neg k23] at h
  split at h
  · next h4 =>
    simp only [Bool.and_eq_true] at h
    obtain ⟨⟨⟨⟨hl, h0⟩, h1⟩, hn⟩, ht⟩ := h
    refine ⟨h4, of_decide_eq_true h0, of_decide_eq_true h1, ?_, hn, ht⟩
    have hl := of_decide_eq_true hl
    cases F with | nil => rfl | cons => simp [Fo.len] at hl
  · cases h
theorem opW_opL {k : Int} (h : k = 4 ∨ k = 5 ∨ k = 6) : opW (opL k) = some k := by rcases h with rfl | rfl | rfl <;> decide
theorem tokN_test {k o : Int} {n t : ByteArray} {L : List (List Tok)} (h : k = 4 ∨ k = 5 ∨ k = 6) : tokN k o n t L = [(looksL o n.data.toList, false), (opL k, false), (t.data.toList, true)] := by
  unfold tokN
  rw [if_neg (by omega), if_neg (by omega), if_neg (by omega), if_neg (by omega)]
theorem wrap_pos {pk k : Int} {l : List Tok} (h : 1 ≤ l.length) : 1 ≤ (wrapK pk k l).length := by
  unfold wrapK
  split
  · simp
  · exact h
theorem tok_pos {k o : Int} {n t : ByteArray} {L : List (List Tok)} (hL : k = 2 ∨ k = 3 → 1 ≤ L.length) (h : ∀ x ∈ L, 1 ≤ x.length) : 1 ≤ (tokN k o n t L).length := by
  have hj : ∀ sep, 1 ≤ L.length → 1 ≤ (joinK sep L).length := fun sep hl => by
    cases L with
    | nil => simp at hl
    | cons x r =>
      have := h x (List.mem_cons_self ..)
      simp only [joinK, List.length_append]; omega
  unfold tokN
  split
  · exact Nat.le_refl _
  · split
    · simp
    · split
      · next h2 => exact hj _ (hL (Or.inl h2))
      · split
        · next h3 => exact hj _ (hL (Or.inr h3))
        · simp
theorem tks_len (pk : Int) (F : Fo) : (F.tks pk).length = F.len := by
  induction F with
  | nil => rfl
  | cons k o n t kids nx _ ih => simp only [Fo.tks, Fo.len, List.length_cons, ih]
theorem list_len {k o : Int} {n t : ByteArray} {l : Nat} {m : Bool} (h : nodeB k o n t l m = true) (hk : k = 2 ∨ k = 3) : 1 ≤ l := by
  unfold nodeB at h
  rw [if_neg (by omega), if_neg (by omega), if_pos hk] at h
  simp only [Bool.and_eq_true, decide_eq_true_eq] at h
  omega
theorem tks_pos (F : Fo) : ∀ pk, F.may = true → ∀ x ∈ F.tks pk, 1 ≤ x.length := by
  induction F with
  | nil => intro pk _ x hx; simp [Fo.tks] at hx
  | cons k o n t kids nx ih1 ih2 =>
    intro pk hm x hx
    have hmm : nodeB k o n t kids.len kids.may = true ∧ nx.may = true := by simp only [Fo.may, Bool.and_eq_true] at hm; exact hm
    have hk : kids.may = true := by
      rcases may_nil (F := kids) hmm.1 with h | h
      · exact h
      · rw [h]; rfl
    simp only [Fo.tks, List.mem_cons] at hx
    rcases hx with rfl | hx
    · exact wrap_pos (tok_pos (fun h => by rw [tks_len]; exact list_len hmm.1 h) (ih1 k hk))
    · exact ih2 pk hmm.2 x hx
theorem tokP_pos {k o : Int} {n t : ByteArray} {F : Fo} (hm : mayP k o n t F = true) : 1 ≤ (tokP k o n t F).length := by
  have hk : F.may = true := by
    rcases may_nil hm with h | h
    · exact h
    · rw [h]; rfl
  exact tok_pos (fun h => by rw [tks_len]; exact list_len hm h) (tks_pos F k hk)
theorem rt_step (F : Fo) (hF : F.All RT) : RT F := by
  intro k o n t hm
  by_cases k0 : k = 0
  · subst k0
    have hp := hm
    unfold mayP nodeB at hp
    simp only [if_true, Bool.and_eq_true, decide_eq_true_eq] at hp
    obtain ⟨rfl, rfl, rfl⟩ := node_eq hp.1
    have hn : F = .nil := by cases F with | nil => rfl | cons => simp [Fo.len] at hp
    subst hn
    refine rt_base (by decide) (by decide) fun rest f hf => ?_
    obtain ⟨g, rfl⟩ : ∃ g, f = g + 1 := ⟨f - 1, by omega⟩
    show parseL (g + 1) 0 ((sAlways, false) :: rest) = _
    rw [parseL_one]
    unfold oneL
    rw [if_neg (by rw [isT_ne (by decide)]; decide), if_pos (isT_cons _ _)]
    rfl
  by_cases hk1 : k = 1
  · subst hk1
    have hp := hm
    unfold mayP nodeB at hp
    simp only [if_true, show ¬ (1 : Int) = 0 by decide, if_false, Bool.and_eq_true, decide_eq_true_eq] at hp
    obtain ⟨rfl, rfl, rfl⟩ := node_eq hp.1.1
    obtain ⟨k1, o1, n1, t1, kids, rfl⟩ : ∃ k1 o1 n1 t1 kids, F = .cons k1 o1 n1 t1 kids .nil := by
      cases F with
      | nil => simp [Fo.len] at hp
      | cons k1 o1 n1 t1 kids nx => cases nx with
        | nil => exact ⟨k1, o1, n1, t1, kids, rfl⟩
        | cons => simp [Fo.len] at hp
    have hm1 : mayP k1 o1 n1 t1 kids = true := by have := hp.2; simp only [Fo.may, Bool.and_true] at this; exact this
    refine rt_base (by decide) (by decide) fun rest f hf => ?_
    obtain ⟨g, rfl⟩ : ∃ g, f = g + 1 := ⟨f - 1, by omega⟩
    have e : tokP 1 0 e0 e0 (.cons k1 o1 n1 t1 kids .nil) ++ rest = (sNot, false) :: (wrapK 1 k1 (tokP k1 o1 n1 t1 kids) ++ rest) := rfl
    rw [e] at hf ⊢
    simp only [List.length_cons] at hf
    rw [parseL_one]
    unfold oneL
    rw [if_neg (by rw [isT_ne (by decide)]; decide), if_neg (by rw [isT_ne (by decide)]; decide), if_pos (isT_cons _ _), List.tail_cons, (hF.1 k1 o1 n1 t1 hm1).1 1 rest g (by decide) (by omega)]
  by_cases k23 : k = 2 ∨ k = 3
  · obtain ⟨hl2, hfm⟩ : 2 ≤ F.len ∧ F.may = true := by
      have h := hm
      unfold mayP nodeB at h
      rcases k23 with rfl | rfl
      · simp at h; exact ⟨h.1.2, h.2⟩
      · simp at h; exact ⟨h.1.2, h.2⟩
    obtain ⟨rfl, rfl, rfl⟩ : o = 0 ∧ n = e0 ∧ t = e0 := by
      refine node_eq ?_
      have h := hm
      unfold mayP nodeB at h
      rcases k23 with rfl | rfl
      · simp at h; exact h.1.1
      · simp at h; exact h.1.1
    obtain ⟨k1, o1, n1, t1, kids, nx, rfl⟩ : ∃ k1 o1 n1 t1 kids nx, F = .cons k1 o1 n1 t1 kids nx := by
      cases F with
      | nil => exact absurd hl2 (by decide)
      | cons k1 o1 n1 t1 kids nx => exact ⟨k1, o1, n1, t1, kids, nx, rfl⟩
    have hmm : mayP k1 o1 n1 t1 kids = true ∧ nx.may = true := by simp only [Fo.may, Bool.and_eq_true] at hfm; exact hfm
    obtain ⟨hA, hB, _⟩ := hF.1 k1 o1 n1 t1 hmm.1
    rcases k23 with rfl | rfl
    · -- and
      have e : ∀ rest, tokP 2 0 e0 e0 (.cons k1 o1 n1 t1 kids nx) ++ rest = wrapK 2 k1 (tokP k1 o1 n1 t1 kids) ++ (restK sAnd (nx.tks 2) ++ rest) := fun rest => by
        show joinK sAnd ((Fo.cons k1 o1 n1 t1 kids nx).tks 2) ++ rest = _
        simp only [Fo.tks, joinK, restK, tokP, List.append_assoc]
      have hlv1 : ∀ rest f, isT sAnd rest = false → 4 * (tokP 2 0 e0 e0 (.cons k1 o1 n1 t1 kids nx) ++ rest).length + 2 ≤ f → parseL f 1 (tokP 2 0 e0 e0 (.cons k1 o1 n1 t1 kids nx) ++ rest) = some (⟨2, 0, e0, e0, .cons k1 o1 n1 t1 kids nx⟩, rest) := by
        intro rest f ha hf
        obtain ⟨g, rfl⟩ : ∃ g, f = g + 1 := ⟨f - 1, by omega⟩
        rw [e] at hf ⊢
        have hpos : 1 ≤ (wrapK 2 k1 (tokP k1 o1 n1 t1 kids)).length := wrap_pos (tokP_pos hmm.1)
        rw [parseL_list, hA 2 _ g (by decide) (by omega)]
        simp only
        simp only [List.length_append] at hf
        exact loop_read 0 2 (Or.inl ⟨rfl, rfl⟩) nx hF.2 hmm.2 (.cons k1 o1 n1 t1 kids .nil) ⟨k1, o1, n1, t1, kids⟩ rest g (Nat.le_refl _) (by simp only [Fo.len] at hl2 ⊢; omega) ha ha (by simp only [List.length_append, show wOf 0 = sAnd from rfl]; omega)
      have hlv2 : ∀ rest f, isT sAnd rest = false → isT sOr rest = false → 4 * (tokP 2 0 e0 e0 (.cons k1 o1 n1 t1 kids nx) ++ rest).length + 3 ≤ f → parseL f 2 (tokP 2 0 e0 e0 (.cons k1 o1 n1 t1 kids nx) ++ rest) = some (⟨2, 0, e0, e0, .cons k1 o1 n1 t1 kids nx⟩, rest) := by
        intro rest f ha ho hf
        obtain ⟨g, rfl⟩ : ∃ g, f = g + 1 := ⟨f - 1, by omega⟩
        exact up_one (hlv1 rest g ha (by omega)) ho (by omega)
      refine ⟨fun pk rest f hpk hf => ?_, fun rest f ha hf => ?_, hlv2⟩
      · have hw : wrapK pk 2 (tokP 2 0 e0 e0 (.cons k1 o1 n1 t1 kids nx)) = ([40], false) :: (tokP 2 0 e0 e0 (.cons k1 o1 n1 t1 kids nx) ++ [([41], false)]) := by unfold wrapK; rw [if_pos (Or.inr ⟨rfl, hpk⟩)]
        rw [hw] at hf ⊢
        obtain ⟨g, rfl⟩ : ∃ g, f = g + 1 := ⟨f - 1, by omega⟩
        refine open_one (hlv2 _ g (isT_ne (by decide)) (isT_ne (by decide)) ?_)
        simp only [List.length_append, List.length_cons, List.length_nil, List.cons_append] at hf ⊢
        omega
      · have hw : wrapK 3 2 (tokP 2 0 e0 e0 (.cons k1 o1 n1 t1 kids nx)) = tokP 2 0 e0 e0 (.cons k1 o1 n1 t1 kids nx) := by unfold wrapK; rw [if_neg (by decide)]
        rw [hw] at hf ⊢
        exact hlv1 rest f ha hf
    · -- or
      have e : ∀ rest, tokP 3 0 e0 e0 (.cons k1 o1 n1 t1 kids nx) ++ rest = wrapK 3 k1 (tokP k1 o1 n1 t1 kids) ++ (restK sOr (nx.tks 3) ++ rest) := fun rest => by
        show joinK sOr ((Fo.cons k1 o1 n1 t1 kids nx).tks 3) ++ rest = _
        simp only [Fo.tks, joinK, restK, tokP, List.append_assoc]
      have hlv2 : ∀ rest f, isT sAnd rest = false → isT sOr rest = false → 4 * (tokP 3 0 e0 e0 (.cons k1 o1 n1 t1 kids nx) ++ rest).length + 3 ≤ f → parseL f 2 (tokP 3 0 e0 e0 (.cons k1 o1 n1 t1 kids nx) ++ rest) = some (⟨3, 0, e0, e0, .cons k1 o1 n1 t1 kids nx⟩, rest) := by
        intro rest f ha ho hf
        obtain ⟨g, rfl⟩ : ∃ g, f = g + 1 := ⟨f - 1, by omega⟩
        rw [e] at hf ⊢
        have hfol : isT sAnd (restK sOr (nx.tks 3) ++ rest) = false := by
          cases nx with
          | nil => exact ha
          | cons k2 o2 n2 t2 kids2 nx2 =>
            simp only [Fo.tks, restK, List.flatMap_cons]
            exact isT_ne (by decide)
        have hpos : 1 ≤ (wrapK 3 k1 (tokP k1 o1 n1 t1 kids)).length := wrap_pos (tokP_pos hmm.1)
        rw [parseL_list, hB _ g hfol (by omega)]
        simp only
        simp only [List.length_append] at hf
        exact loop_read 1 3 (Or.inr ⟨rfl, rfl⟩) nx hF.2 hmm.2 (.cons k1 o1 n1 t1 kids .nil) ⟨k1, o1, n1, t1, kids⟩ rest g (Nat.le_refl _) (by simp only [Fo.len] at hl2 ⊢; omega) ha ho (by simp only [List.length_append, show wOf 1 = sOr from rfl]; omega)
      have hw : ∀ pk, wrapK pk 3 (tokP 3 0 e0 e0 (.cons k1 o1 n1 t1 kids nx)) = ([40], false) :: (tokP 3 0 e0 e0 (.cons k1 o1 n1 t1 kids nx) ++ [([41], false)]) := fun pk => by unfold wrapK; rw [if_pos (Or.inl rfl)]
      have hlv0 : ∀ rest f, 4 * (([40], false) :: (tokP 3 0 e0 e0 (.cons k1 o1 n1 t1 kids nx) ++ [([41], false)]) ++ rest : List Tok).length + 1 ≤ f → parseL f 0 (([40], false) :: (tokP 3 0 e0 e0 (.cons k1 o1 n1 t1 kids nx) ++ [([41], false)]) ++ rest) = some (⟨3, 0, e0, e0, .cons k1 o1 n1 t1 kids nx⟩, rest) := by
        intro rest f hf
        obtain ⟨g, rfl⟩ : ∃ g, f = g + 1 := ⟨f - 1, by omega⟩
        refine open_one (hlv2 _ g (isT_ne (by decide)) (isT_ne (by decide)) ?_)
        simp only [List.length_append, List.length_cons, List.length_nil, List.cons_append] at hf ⊢
        omega
      refine ⟨fun pk rest f hpk hf => by rw [hw] at hf ⊢; exact hlv0 rest f hf, fun rest f ha hf => ?_, hlv2⟩
      rw [hw] at hf ⊢
      obtain ⟨g, rfl⟩ : ∃ g, f = g + 1 := ⟨f - 1, by omega⟩
      exact up_one (hlv0 rest g (by omega)) ha (by omega)
  · obtain ⟨h4, h0, h1, rfl, hn, _⟩ := test_parts k0 hk1 k23 hm
    obtain ⟨l1, l2, l3, l4, _, _⟩ := looks_cases h0 h1 hn
    have hbs : ∀ x : ByteArray, bs x.data.toList = x := fun x => by cases x; simp [bs]
    refine rt_base (by omega) (by omega) fun rest f hf => ?_
    obtain ⟨g, rfl⟩ : ∃ g, f = g + 1 := ⟨f - 1, by omega⟩
    unfold tokP
    rw [tokN_test h4, parseL_one]
    unfold oneL
    simp only [List.cons_append, List.nil_append, l2, l3, l4, Bool.false_eq_true, if_false]
    unfold testL
    simp only [l1, opW_opL h4, hbs]
theorem rt_any (F : Fo) : RT F := Fo.rec_all rt_step F
end Go.Proofs.YthpagppipifgeaaGreatDoor
