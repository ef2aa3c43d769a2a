/- Plain: a policy's text has its tokens; what is read of a policy's text is the policy. -/
import Derived.Test.YthpagppipifgeaaGreatDoorZLL
import Derived.Test.YthpagppipifgeaaGreatDoorZLS
namespace Go.Proofs.YthpagppipifgeaaGreatDoor
open Go.RowKit

/-- No word goes on. -/
def Fol (r : List UInt8) : Prop := ∀ c, r.head? = some c → wdC c = false
theorem takeW_app (w r : List UInt8) (hw : ∀ x ∈ w, wdC x = true) (hr : Fol r) : (w ++ r).takeWhile wdC = w ∧ (w ++ r).dropWhile wdC = r := by
  induction w with
  | nil =>
    cases r with
    | nil => exact ⟨rfl, rfl⟩
    | cons c r =>
      have := hr c rfl
      rw [List.nil_append, List.takeWhile_cons, List.dropWhile_cons, this]
      exact ⟨rfl, rfl⟩
  | cons x w ih =>
    obtain ⟨h1, h2⟩ := ih fun y hy => hw y (List.mem_cons_of_mem _ hy)
    rw [List.cons_append, List.takeWhile_cons, List.dropWhile_cons, hw x (List.mem_cons_self ..)]
    simp only [if_true, h1, h2, and_self]
theorem TK_wd (w r : List UInt8) (hne : w ≠ []) (hw : ∀ x ∈ w, wdC x = true) (hr : Fol r) : TK (w ++ r) = ((w, false) :: (TK r).1, (TK r).2) := by
  obtain ⟨h1, h2⟩ := takeW_app w r hw hr
  cases w with
  | nil => exact absurd rfl hne
  | cons c w' =>
    rw [List.cons_append] at h1 h2 ⊢
    rw [TK_word _ (hw c (List.mem_cons_self ..)), h1, h2]
theorem litE_quote (l rest : List UInt8) : ∀ b, litE false (quoteL l ++ 34 :: rest) b = some (b ++ l, rest) := by
  induction l with
  | nil => intro b; simp [quoteL, litE]
  | cons x l ih =>
    intro b
    have e : quoteL (x :: l) ++ 34 :: rest = quoteC x ++ (quoteL l ++ 34 :: rest) := by simp [quoteL]
    rw [e]
    unfold quoteC
    by_cases h34 : x = 34
    · subst h34
      rw [if_pos rfl]
      show litE true (34 :: (quoteL l ++ 34 :: rest)) b = _
      show litE false (quoteL l ++ 34 :: rest) (b ++ [34]) = _
      rw [ih]; simp
    · rw [if_neg h34]
      by_cases h92 : x = 92
      · subst h92
        rw [if_pos rfl]
        show litE false (quoteL l ++ 34 :: rest) (b ++ [92]) = _
        rw [ih]; simp
      · rw [if_neg h92]
        show (if x = 34 then some (b, quoteL l ++ 34 :: rest) else if x = 92 then litE true (quoteL l ++ 34 :: rest) b else litE false (quoteL l ++ 34 :: rest) (b ++ [x])) = _
        rw [if_neg h34, if_neg h92, ih]; simp
theorem TK_quote (t rest : List UInt8) (ht : litB (bs t) = true) : TK (34 :: (quoteL t ++ 34 :: rest)) = ((t, true) :: (TK rest).1, (TK rest).2) := by
  refine TK_some ?_
  unfold litS
  rw [litE_quote]
  unfold lit2
  simp only [List.nil_append]
  rw [if_pos ht]
theorem fol_blank (r : List UInt8) : Fol (32 :: r) := fun c h => by cases h; decide
theorem fol_close (r : List UInt8) : Fol (41 :: r) := fun c h => by cases h; decide
theorem fol_nil : Fol [] := fun c h => by cases h
def LexAt (F : Fo) : Prop := ∀ (k o : Int) (n t : ByteArray), mayP k o n t F = true → ∀ rest, Fol rest → TK (textP k o n t F ++ rest) = (tokP k o n t F ++ (TK rest).1, (TK rest).2)
theorem lex_wrap {F : Fo} (h : LexAt F) (pk : Int) {k o : Int} {n t : ByteArray} (hm : mayP k o n t F = true) (rest : List UInt8) (hr : Fol rest) : TK (wrapT pk k (textP k o n t F) ++ rest) = (wrapK pk k (tokP k o n t F) ++ (TK rest).1, (TK rest).2) := by
  unfold wrapT wrapK
  by_cases hc : k = 3 ∨ (k = 2 ∧ pk ≠ 3)
  · rw [if_pos hc, if_pos hc]
    have e : [40] ++ textP k o n t F ++ [41] ++ rest = 40 :: (textP k o n t F ++ 41 :: rest) := by simp
    rw [e, TK_br _ (Or.inl rfl), h k o n t hm _ (fol_close rest), TK_br _ (Or.inr rfl)]
    simp
  · rw [if_neg hc, if_neg hc]; exact h k o n t hm rest hr
theorem join_rest2 (x : List UInt8) (r : List (List UInt8)) (sep : List UInt8) : Lib.join (x :: r) sep = x ++ r.flatMap (fun y => sep ++ y) := by
  induction r generalizing x with
  | nil => simp [Lib.join]
  | cons y r' ih =>
    have : Lib.join (x :: y :: r') sep = x ++ sep ++ Lib.join (y :: r') sep := by simp [Lib.join]
    rw [this, ih y]
    simp
theorem lex_rest (pk : Int) (w : List UInt8) (hne : w ≠ []) (hw : ∀ x ∈ w, wdC x = true) (G : Fo) (hG : G.All LexAt) (hm : G.may = true) (rest : List UInt8) (hr : Fol rest) :
    TK ((G.txs pk).flatMap (fun y => (32 :: (w ++ [32])) ++ y) ++ rest) = (restK w (G.tks pk) ++ (TK rest).1, (TK rest).2) ∧ Fol ((G.txs pk).flatMap (fun y => (32 :: (w ++ [32])) ++ y) ++ rest) := by
  induction G with
  | nil => exact ⟨rfl, hr⟩
  | cons k o n t kids nx _ ih =>
    have hmm : mayP k o n t kids = true ∧ nx.may = true := by simp only [Fo.may, Bool.and_eq_true] at hm; exact hm
    obtain ⟨h1, h2⟩ := ih hG.2 hmm.2
    have e : ((Fo.cons k o n t kids nx).txs pk).flatMap (fun y => (32 :: (w ++ [32])) ++ y) ++ rest = 32 :: (w ++ (32 :: (wrapT pk k (textP k o n t kids) ++ ((nx.txs pk).flatMap (fun y => (32 :: (w ++ [32])) ++ y) ++ rest)))) := by
      simp [Fo.txs, textP]
    rw [e]
    refine ⟨?_, fol_blank _⟩
    rw [TK_blank, TK_wd w _ hne hw (fol_blank _), TK_blank, lex_wrap hG.1 pk hmm.1 _ h2, h1]
    simp [restK, Fo.tks, tokP]
theorem lex_step (F : Fo) (hF : F.All LexAt) : LexAt F := by
  intro k o n t hm rest hr
  by_cases k0 : k = 0
  · subst k0
    exact TK_wd sAlways rest (by decide) (by decide) hr
  by_cases hk1 : k = 1
  · subst hk1
    have hp := hm
    unfold mayP nodeB at hp
    simp only [if_true, show ¬ (1 : Int) = 0 by decide, if_false, Bool.and_eq_true, decide_eq_true_eq] at hp
    obtain ⟨k1, o1, n1, t1, kids, rfl⟩ : ∃ k1 o1 n1 t1 kids, F = .cons k1 o1 n1 t1 kids .nil := by
      cases F with
      | nil => simp [Fo.len] at hp
      | cons k1 o1 n1 t1 kids nx => cases nx with
        | nil => exact ⟨k1, o1, n1, t1, kids, rfl⟩
        | cons => simp [Fo.len] at hp
    have hm1 : mayP k1 o1 n1 t1 kids = true := by have := hp.2; simp only [Fo.may, Bool.and_true] at this; exact this
    have e : textP 1 o n t (.cons k1 o1 n1 t1 kids .nil) ++ rest = sNot ++ (32 :: (wrapT 1 k1 (textP k1 o1 n1 t1 kids) ++ rest)) := rfl
    rw [e, TK_wd sNot _ (by decide) (by decide) (fol_blank _), TK_blank, lex_wrap hF.1 1 hm1 rest hr]
    rfl
  by_cases k23 : k = 2 ∨ k = 3
  · obtain ⟨hl2, hfm⟩ : 2 ≤ F.len ∧ F.may = true := by
      have h := hm
      unfold mayP nodeB at h
      rcases k23 with rfl | rfl
      · simp at h; exact ⟨h.1.2, h.2⟩
      · simp at h; exact ⟨h.1.2, h.2⟩
    obtain ⟨k1, o1, n1, t1, kids, nx, rfl⟩ : ∃ k1 o1 n1 t1 kids nx, F = .cons k1 o1 n1 t1 kids nx := by
      cases F with
      | nil => exact absurd hl2 (by decide)
      | cons k1 o1 n1 t1 kids nx => exact ⟨k1, o1, n1, t1, kids, nx, rfl⟩
    have hmm : mayP k1 o1 n1 t1 kids = true ∧ nx.may = true := by simp only [Fo.may, Bool.and_eq_true] at hfm; exact hfm
    rcases k23 with rfl | rfl
    · obtain ⟨h1, h2⟩ := lex_rest 2 sAnd (by decide) (by decide) nx hF.2 hmm.2 rest hr
      have e : textP 2 o n t (.cons k1 o1 n1 t1 kids nx) ++ rest = wrapT 2 k1 (textP k1 o1 n1 t1 kids) ++ ((nx.txs 2).flatMap (fun y => (32 :: (sAnd ++ [32])) ++ y) ++ rest) := by
        show Lib.join (_ :: nx.txs 2) sAndB ++ rest = _
        rw [join_rest2, List.append_assoc]; rfl
      rw [e, lex_wrap hF.1 2 hmm.1 _ h2, h1]
      show _ = (joinK sAnd (_ :: nx.tks 2) ++ _, _)
      simp [joinK, restK, tokP]
    · obtain ⟨h1, h2⟩ := lex_rest 3 sOr (by decide) (by decide) nx hF.2 hmm.2 rest hr
      have e : textP 3 o n t (.cons k1 o1 n1 t1 kids nx) ++ rest = wrapT 3 k1 (textP k1 o1 n1 t1 kids) ++ ((nx.txs 3).flatMap (fun y => (32 :: (sOr ++ [32])) ++ y) ++ rest) := by
        show Lib.join (_ :: nx.txs 3) sOrB ++ rest = _
        rw [join_rest2, List.append_assoc]; rfl
      rw [e, lex_wrap hF.1 3 hmm.1 _ h2, h1]
      show _ = (joinK sOr (_ :: nx.tks 3) ++ _, _)
      simp [joinK, restK, tokP]
  · obtain ⟨h4, h0, h1, rfl, hn, ht⟩ := test_parts k0 hk1 k23 hm
    obtain ⟨_, _, _, _, l5, l6⟩ := looks_cases h0 h1 hn
    have hbs : bs t.data.toList = t := by cases t; simp [bs]
    have hop : opL k ≠ [] ∧ ∀ x ∈ opL k, wdC x = true := by rcases h4 with rfl | rfl | rfl <;> decide
    have e : textP k o n t .nil ++ rest = looksL o n.data.toList ++ (32 :: (opL k ++ (32 :: (34 :: (quoteL t.data.toList ++ 34 :: rest))))) := by
      unfold textP textN
      rw [if_neg k0, if_neg hk1, if_neg (by omega), if_neg (by omega)]
      simp
    unfold tokP
    rw [tokN_test h4, e, TK_wd _ _ l5 l6 (fol_blank _), TK_blank, TK_wd _ _ hop.1 hop.2 (fol_blank _), TK_blank, TK_quote _ _ (by rw [hbs]; exact ht)]
    rfl
theorem lex_any (F : Fo) : LexAt F := Fo.rec_all lex_step F
/-- What is read of a policy's text is the policy. -/
theorem parse_text {k o : Int} {n t : ByteArray} {F : Fo} (hm : mayP k o n t F = true) (hs : smallP F = true) (hl : (textP k o n t F).length ≤ 1024) : ParseR (textP k o n t F) = (⟨k, o, n, t, F⟩, 0) := by
  have hlx := lex_any F k o n t hm [] fol_nil
  rw [List.append_nil, TK_nil] at hlx
  simp only [List.append_nil] at hlx
  obtain ⟨hlen, _⟩ := TK_len _ (textP k o n t F) (Nat.le_refl _)
  rw [hlx] at hlen
  simp only at hlen
  have hp := (rt_any F k o n t hm).2.2 [] (4 * (textP k o n t F).length + 3) rfl rfl (by rw [List.append_nil]; omega)
  rw [List.append_nil] at hp
  unfold ParseR
  rw [if_neg (by omega), parseT_K]
  unfold parseK
  rw [hlx, if_pos rfl]
  simp only
  rw [hp]
  simp only [if_true]
  rw [if_pos hs]
/-- Blanks, and brackets, make no difference. -/
theorem parse_blanks {k o : Int} {n t : ByteArray} {F : Fo} (hm : mayP k o n t F = true) (hs : smallP F = true) (hl : (textP k o n t F).length < 1000) : ParseR ([32, 32, 40] ++ textP k o n t F ++ [32, 41, 32]) = (⟨k, o, n, t, F⟩, 0) := by
  have e : [32, 32, 40] ++ textP k o n t F ++ [32, 41, 32] = 32 :: 32 :: 40 :: (textP k o n t F ++ 32 :: 41 :: 32 :: []) := by simp
  have hlx := lex_any F k o n t hm (32 :: 41 :: 32 :: []) (fol_blank _)
  rw [TK_blank, TK_br _ (Or.inr rfl), TK_blank, TK_nil] at hlx
  have htk : TK ([32, 32, 40] ++ textP k o n t F ++ [32, 41, 32]) = (([40], false) :: (tokP k o n t F ++ [([41], false)]), true) := by
    rw [e, TK_blank, TK_blank, TK_br _ (Or.inl rfl), hlx]
  obtain ⟨hlen, _⟩ := TK_len _ ([32, 32, 40] ++ textP k o n t F ++ [32, 41, 32]) (Nat.le_refl _)
  rw [htk] at hlen
  simp only [List.length_append, List.length_cons, List.length_nil] at hlen
  have hp : ∀ g, 4 * (tokP k o n t F).length + 8 ≤ g → parseL (g + 3) 2 (([40], false) :: (tokP k o n t F ++ [([41], false)])) = some (⟨k, o, n, t, F⟩, []) := by
    intro g hg
    have h0 : parseL (g + 1) 0 (([40], false) :: (tokP k o n t F ++ [([41], false)]) ++ []) = some (⟨k, o, n, t, F⟩, []) :=
      open_one ((rt_any F k o n t hm).2.2 [([41], false)] g (isT_ne (by decide)) (isT_ne (by decide)) (by simp only [List.length_append, List.length_cons, List.length_nil]; omega))
    rw [List.append_nil] at h0
    exact up_one (up_one h0 rfl (by omega)) rfl (by omega)
  unfold ParseR
  rw [if_neg (by simp only [List.length_append, List.length_cons, List.length_nil]; omega), parseT_K]
  unfold parseK
  rw [htk, if_pos rfl]
  simp only
  obtain ⟨g, hg⟩ : ∃ g, 4 * ([32, 32, 40] ++ textP k o n t F ++ [32, 41, 32]).length + 3 = g + 3 := ⟨_, rfl⟩
  rw [hg, hp g (by simp only [List.length_append, List.length_cons, List.length_nil] at hg; omega)]
  simp only [if_true]
  rw [if_pos hs]
/-- What is read may be. -/
theorem parse_may {s : List UInt8} {p : Po} (h : ParseR s = (p, 0)) : mayQ p = true ∧ smallP p.kids = true ∧ p.kids.cnt ≤ 1024 := by
  unfold ParseR at h
  split at h
  · simp at h
  · next hl =>
    rw [parseT_K] at h
    unfold parseK at h
    obtain ⟨hlen, hlit⟩ := TK_len _ s (Nat.le_refl _)
    split at h
    · simp at h
    · next q e =>
      split at h
      · next hs =>
        simp only [Prod.mk.injEq, and_true] at h
        subst h
        split at e
        · split at e
          · cases e
          · next p2 r e2 =>
            split at e
            · cases e
              obtain ⟨h1, h2, _⟩ := (both_may _).1 2 _ hlit _ _ e2
              exact ⟨h1, hs, by omega⟩
            · cases e
        · cases e
      · simp at h
theorem parse_fell {s : List UInt8} (h : (ParseR s).2 ≠ 0) : (ParseR s).1 = zPo ∧ ((ParseR s).2 = 200 ∨ (ParseR s).2 = 201) := by
  unfold ParseR at h ⊢
  split
  · exact ⟨rfl, Or.inr rfl⟩
  · next hl =>
    rw [if_neg hl] at h
    split
    · exact ⟨rfl, Or.inl rfl⟩
    · next p e =>
      rw [e] at h
      simp only at h
      split
      · next hs => rw [if_pos hs] at h; exact absurd rfl h
      · exact ⟨rfl, Or.inr rfl⟩
end Go.Proofs.YthpagppipifgeaaGreatDoor
