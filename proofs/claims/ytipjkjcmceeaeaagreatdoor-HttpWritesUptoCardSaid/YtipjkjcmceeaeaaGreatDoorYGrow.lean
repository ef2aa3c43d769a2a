/- Plain: bytes that go on: what was read stays read, what was refused stays refused. -/
import Derived.Test.YtipjkjcmceeaeaaGreatDoorYDefs
namespace Go.Proofs.YtipjkjcmceeaeaaGreatDoor
open Go

theorem occ_app {s sep : Bs} {j : Nat} (m : Bs) (h : j + sep.length ≤ s.length) : Lib.occAt (s ++ m) sep j = Lib.occAt s sep j := by
  unfold Lib.occAt
  rw [List.drop_append_of_le_length (by omega), Bool.eq_iff_iff, List.isPrefixOf_iff_prefix, List.isPrefixOf_iff_prefix]
  constructor
  · intro hp
    exact List.prefix_of_prefix_length_le hp (List.prefix_append _ _) (by rw [List.length_drop]; omega)
  · intro hp
    exact hp.trans (List.prefix_append _ _)
theorem occ_room {s sep : Bs} {j : Nat} (hs : sep ≠ []) (h : Lib.occAt s sep j = true) : j + sep.length ≤ s.length := by
  unfold Lib.occAt at h
  rw [List.isPrefixOf_iff_prefix] at h
  have h1 := h.length_le
  have h2 : 0 < sep.length := List.length_pos_iff.2 hs
  rw [List.length_drop] at h1
  omega
theorem cutA_some {sep s a b : Bs} (h : cutA sep s = some (a, b)) : s = a ++ sep ++ b ∧ ∀ j, j < a.length → Lib.occAt s sep j = false := by
  unfold cutA at h
  split at h
  · next hi =>
    rcases Lib.index_spec s sep with ⟨h1, _⟩ | ⟨i, h1, h2, h3, h4⟩
    · omega
    · rw [h1] at h
      simp only [Int.toNat_natCast, Option.some.injEq, Prod.mk.injEq] at h
      obtain ⟨rfl, rfl⟩ := h
      refine ⟨?_, fun j hj => h4 j (by rw [List.length_take] at hj; omega)⟩
      unfold Lib.occAt at h3
      rw [List.isPrefixOf_iff_prefix] at h3
      obtain ⟨t, ht⟩ := h3
      have e : s.drop (i + sep.length) = t := by rw [← List.drop_drop, ← ht, List.drop_left]
      rw [e, List.append_assoc, ht, List.take_append_drop]
  · cases h
theorem cutA_of {sep a b : Bs} (hn : ∀ j, j < a.length → Lib.occAt (a ++ sep ++ b) sep j = false) : cutA sep (a ++ sep ++ b) = some (a, b) := by
  have ho : Lib.occAt (a ++ sep ++ b) sep a.length = true := by
    unfold Lib.occAt
    rw [List.append_assoc, List.drop_left, List.isPrefixOf_iff_prefix]
    exact List.prefix_append _ _
  have hi := Lib.index_first (i := a.length) (by simp) ho hn
  unfold cutA
  rw [hi, if_pos (by omega)]
  simp
theorem cutA_none {sep s : Bs} (h : cutA sep s = none) : ∀ j, j ≤ s.length → Lib.occAt s sep j = false := by
  unfold cutA at h
  split at h
  · cases h
  · next hi =>
    rcases Lib.index_spec s sep with ⟨_, h2⟩ | ⟨i, h1, _⟩
    · exact h2
    · omega
theorem cutA_none_of {sep s : Bs} (h : ∀ j, j ≤ s.length → Lib.occAt s sep j = false) : cutA sep s = none := by
  unfold cutA
  rcases Lib.index_spec s sep with ⟨h1, _⟩ | ⟨i, h1, h2, h3, _⟩
  · rw [h1]; rfl
  · rw [h i h2] at h3; cases h3
theorem cutA_app {sep s a b : Bs} (m : Bs) (h : cutA sep s = some (a, b)) : cutA sep (s ++ m) = some (a, b ++ m) := by
  obtain ⟨rfl, h2⟩ := cutA_some h
  rw [List.append_assoc (a ++ sep) b m]
  refine cutA_of fun j hj => ?_
  rw [← List.append_assoc, occ_app m (by simp; omega)]
  exact h2 j hj
theorem cutA_later {sep s a b m : Bs} (h : cutA sep s = none) (h2 : cutA sep (s ++ m) = some (a, b)) : s.length < a.length + sep.length := by
  obtain ⟨h3, _⟩ := cutA_some h2
  refine Nat.lt_of_not_le fun hle => ?_
  have ho : Lib.occAt (s ++ m) sep a.length = true := by
    unfold Lib.occAt
    rw [h3, List.append_assoc, List.drop_left, List.isPrefixOf_iff_prefix]
    exact List.prefix_append _ _
  rw [occ_app m hle, cutA_none h _ (by omega)] at ho
  cases ho

theorem tw_all {α : Type} (p : α → Bool) : ∀ l : List α, (l.takeWhile p).all p = true := by
  intro l
  induction l with
  | nil => rfl
  | cons a r ih =>
    rw [List.takeWhile_cons]
    split
    · next h => rw [List.all_cons, h, ih]; rfl
    · rfl
theorem hexD_pre (s : Bs) : ∃ x, s = hexD s ++ x ∧ (hexD s).length ≤ 4 ∧ (hexD s).all heC = true ∧ ((hexD s).length = 4 ∨ ∀ c, x.head? = some c → heC c = false) := by
  have h1 : s.take 4 = (s.take 4).takeWhile heC ++ (s.take 4).dropWhile heC := (List.takeWhile_append_dropWhile).symm
  refine ⟨(s.take 4).dropWhile heC ++ s.drop 4, ?_, ?_, ?_, ?_⟩
  · unfold hexD
    rw [← List.append_assoc, ← h1, List.take_append_drop]
  · unfold hexD
    have := (List.takeWhile_prefix (l := s.take 4) heC).length_le
    have := List.length_take_le 4 s
    omega
  · unfold hexD
    exact tw_all _ _
  · by_cases hd : (s.take 4).dropWhile heC = []
    · rw [hd, List.append_nil] at h1
      by_cases hl : (s.take 4).length = 4
      · left; unfold hexD; rw [← h1]; exact hl
      · right
        rw [List.length_take] at hl
        have : s.drop 4 = [] := List.drop_eq_nil_of_le (by omega)
        rw [hd, this]
        intro c hc; cases hc
    · right
      intro c hc
      obtain ⟨y, l, hy⟩ := List.exists_cons_of_ne_nil hd
      rw [hy] at hc
      simp only [List.cons_append, List.head?_cons, Option.some.injEq] at hc
      subst hc
      have := List.head_dropWhile_not heC (l := s.take 4) hd
      simp only [hy, List.head_cons] at this
      simpa using this
theorem hexD_is {d x : Bs} (h1 : d.all heC = true) (h2 : d.length ≤ 4) (h3 : d.length = 4 ∨ ∀ c, x.head? = some c → heC c = false) : hexD (d ++ x) = d := by
  unfold hexD
  rw [List.all_eq_true] at h1
  rcases h3 with h3 | h3
  · rw [List.take_append_of_le_length (by omega), List.take_of_length_le (by omega)]
    have : ∀ (l : Bs), (∀ c, c ∈ l → heC c = true) → l.takeWhile heC = l := by
      intro l
      induction l with
      | nil => intro _; rfl
      | cons a r ih => intro h; rw [List.takeWhile_cons, if_pos (h a (by simp)), ih (fun c hc => h c (by simp [hc]))]
    exact this d h1
  · rw [List.take_append, List.take_of_length_le h2, List.takeWhile_append_of_pos h1]
    have : (x.take (4 - d.length)).takeWhile heC = [] := by
      cases x with
      | nil => simp
      | cons c r =>
        cases hk : 4 - d.length with
        | zero => simp
        | succ k => rw [List.take_succ_cons, List.takeWhile_cons, if_neg (by rw [h3 c rfl]; decide)]
    rw [this, List.append_nil]
theorem hexD_app {s : Bs} (m : Bs) (h : (hexD s).length < s.length) : hexD (s ++ m) = hexD s := by
  obtain ⟨x, hx, h1, h2, h3⟩ := hexD_pre s
  have e : s ++ m = hexD s ++ (x ++ m) := by rw [← List.append_assoc, ← hx]
  rw [e]
  refine hexD_is h2 h1 (h3.imp id fun hh c hc => ?_)
  have hne : x ≠ [] := by intro h0; have := congrArg List.length hx; rw [h0, List.append_nil] at this; omega
  obtain ⟨y, r, rfl⟩ := List.exists_cons_of_ne_nil hne
  exact hh c hc
theorem hexD_le (s m : Bs) : (hexD s).length ≤ (hexD (s ++ m)).length := by
  by_cases h : (hexD s).length < s.length
  · rw [hexD_app m h]; exact Nat.le_refl _
  · obtain ⟨x, hx, h1, h2, h3⟩ := hexD_pre s
    have hl : s.length = (hexD s).length + x.length := by rw [← List.length_append, ← hx]
    have : x = [] := List.eq_nil_of_length_eq_zero (by omega)
    rw [this, List.append_nil] at hx
    have h4 : s.length ≤ 4 := by rw [hx]; exact h1
    have h5 : hexD (s ++ m) = s ++ (m.take (4 - s.length)).takeWhile heC := by
      unfold hexD
      rw [List.take_append, List.take_of_length_le h4, List.takeWhile_append_of_pos]
      rw [← hx, List.all_eq_true] at h2; exact h2
    rw [h5, ← hx, List.length_append]; omega
theorem begCR_app {x : Bs} (m : Bs) (h : begCR x = false) : x ≠ [] ∧ begCR (x ++ m) = false := by
  match x, h with
  | [], h => exact absurd h (by decide)
  | [a], h =>
    refine ⟨by simp, ?_⟩
    have ha : a ≠ 13 := by
      intro e; subst e; exact absurd h (by decide)
    unfold begCR
    refine decide_eq_false ?_
    match m with
    | [] => simp [CRLF, ha]
    | b :: m => simp [CRLF, ha]
  | a :: b :: x, h => exact ⟨by simp, h⟩
theorem begCR_pre {x m : Bs} (h : begCR (x ++ m) = true) : begCR x = true := by
  cases hx : begCR x with
  | true => rfl
  | false => rw [(begCR_app m hx).2] at h; cases h
theorem begCR_two {x : Bs} (h : begCR x = true) (h2 : 2 ≤ x.length) : ∃ y, x = 13 :: 10 :: y := by
  match x, h2 with
  | a :: b :: y, _ =>
    unfold begCR at h
    have := of_decide_eq_true h
    simp only [List.take_succ_cons, List.take_zero, CRLF, List.length_cons, List.length_nil, List.cons.injEq, and_true] at this
    exact ⟨y, by rw [this.1, this.2]⟩
theorem lineC_num {s r : Bs} {n i : Nat} (h : lineC s = .num n i r) : (hexD s).length + 2 ≤ s.length ∧ hexD s ≠ [] ∧ begCR (s.drop (hexD s).length) = true ∧ n = hexN 0 (hexD s) ∧ i = (hexD s).length ∧ r = s.drop (i + 2) := by
  unfold lineC at h
  split at h
  · cases h
  · next hb =>
    split at h
    · cases h
    · next hs =>
      simp only [LR.num.injEq] at h
      obtain ⟨rfl, rfl, rfl⟩ := h
      refine ⟨by omega, fun e => hb (Or.inl ⟨e, ?_⟩), ?_, rfl, rfl, rfl⟩
      · intro e2; rw [e2] at hs; simp at hs
      · cases hc : begCR (s.drop (hexD s).length) with
        | true => rfl
        | false => exact absurd (Or.inr hc) hb
theorem lineC_app_num {s r : Bs} {n i : Nat} (m : Bs) (h : lineC s = .num n i r) : lineC (s ++ m) = .num n i (r ++ m) := by
  obtain ⟨h1, h2, h3, rfl, rfl, rfl⟩ := lineC_num h
  have hd := hexD_app m (s := s) (by omega)
  have hx : 2 ≤ (s.drop (hexD s).length).length := by rw [List.length_drop]; omega
  obtain ⟨y, hy⟩ := begCR_two h3 hx
  unfold lineC
  rw [hd, List.drop_append_of_le_length (by omega), hy, if_neg (by
    rintro (⟨h, _⟩ | h)
    · exact h2 h
    · exact absurd h (by simp [begCR, CRLF])), if_neg (by rw [List.length_append]; omega), List.drop_append_of_le_length (by omega)]
theorem lineC_app_bad {s : Bs} (m : Bs) (h : lineC s = .bad) : lineC (s ++ m) = .bad := by
  unfold lineC at h
  split at h
  · next hb =>
    unfold lineC
    refine if_pos ?_
    rcases hb with ⟨h1, h2⟩ | h1
    · left
      rw [hexD_app m (by rw [h1]; exact List.length_pos_iff.2 h2)]
      exact ⟨h1, by simp [h2]⟩
    · right
      obtain ⟨h3, h4⟩ := begCR_app m h1
      have hl : (hexD s).length < s.length := by
        refine Nat.lt_of_not_le fun hle => h3 (List.drop_eq_nil_of_le hle)
      rw [hexD_app m hl, List.drop_append_of_le_length (by omega)]
      exact h4
  · split at h <;> cases h
theorem lineC_short {s r m : Bs} {n i : Nat} (h : lineC s = .short) (h2 : lineC (s ++ m) = .num n i r) : r.length < m.length := by
  obtain ⟨k1, _, _, _, rfl, rfl⟩ := lineC_num h2
  unfold lineC at h
  split at h
  · cases h
  · split at h
    · next hs =>
      have := hexD_le s m
      rw [List.length_drop, List.length_append]
      rw [List.length_append] at k1
      omega
    · cases h
theorem lineC_len {s r : Bs} {n i : Nat} (h : lineC s = .num n i r) : r.length + 3 ≤ s.length ∧ 1 ≤ i := by
  obtain ⟨h1, h2, _, _, rfl, rfl⟩ := lineC_num h
  have := List.length_pos_iff.2 h2
  rw [List.length_drop]; omega
theorem chunk_len : ∀ (f : Nat) (body s b r : Bs), chunkS f body s = .done b r → r.length ≤ s.length := by
  intro f
  induction f with
  | zero => intro body s b r h; cases h
  | succ f ih =>
    intro body s b r h
    unfold chunkS at h
    split at h
    · cases h
    · cases h
    · next n i r1 e =>
      have hl := lineC_len e
      split at h
      · cases h
      · split at h
        · cases h
        · split at h
          · cases h
          · split at h
            · cases h
              rw [List.length_drop]; omega
            · have := ih _ _ _ _ h
              rw [List.length_drop] at this; omega
theorem chunk_app : ∀ (f f' : Nat) (body s m : Bs), s.length < f → s.length + m.length < f' →
    (∀ b r, chunkS f body s = .done b r → chunkS f' body (s ++ m) = .done b (r ++ m)) ∧
    (chunkS f body s = .bad → chunkS f' body (s ++ m) = .bad) ∧
    (chunkS f body s = .short → ∀ b r, chunkS f' body (s ++ m) = .done b r → r.length < m.length) := by
  intro f
  induction f with
  | zero => intro f' body s m h; omega
  | succ f ih =>
    intro f' body s m hf hf'
    obtain ⟨g, rfl⟩ : ∃ g, f' = g + 1 := ⟨f' - 1, by omega⟩
    cases hl : lineC s with
    | bad =>
      have hl2 := lineC_app_bad m hl
      unfold chunkS
      rw [hl, hl2]
      simp
    | short =>
      unfold chunkS
      rw [hl]
      simp only [reduceCtorEq, false_imp_iff, implies_true, true_imp_iff, true_and]
      intro b r h
      split at h
      · cases h
      · cases h
      · next n i r1 e =>
        have hk := lineC_short hl e
        split at h
        · cases h
        · split at h
          · cases h
          · split at h
            · cases h
            · split at h
              · cases h
                rw [List.length_drop]; omega
              · have := chunk_len _ _ _ _ _ h
                rw [List.length_drop] at this; omega
    | num n i r1 =>
      have hl2 := lineC_app_num m hl
      have hle := lineC_len hl
      unfold chunkS
      rw [hl, hl2]
      simp only
      by_cases hb : 8192 < body.length + n ∨ (n = 0 ∧ i ≠ 1)
      · rw [if_pos hb, if_pos hb]; simp
      rw [if_neg hb, if_neg hb]
      by_cases hc : begCR (r1.drop n) = false
      · have hn : n ≤ r1.length := by
          refine Nat.le_of_lt (Nat.lt_of_not_le fun hle => ?_)
          rw [List.drop_eq_nil_of_le hle] at hc
          exact absurd hc (by decide)
        rw [if_pos hc, List.drop_append_of_le_length hn, if_pos (begCR_app m hc).2]; simp
      rw [if_neg hc]
      have hct : begCR (r1.drop n) = true := by revert hc; cases begCR (r1.drop n) <;> simp
      by_cases hs : r1.length < n + 2
      · rw [if_pos hs]
        simp only [reduceCtorEq, false_imp_iff, implies_true, true_imp_iff, true_and]
        intro b r h
        split at h
        · cases h
        · split at h
          · cases h
          · next h3 =>
            rw [List.length_append] at h3
            split at h
            · next h0 =>
              cases h
              rw [List.length_drop, List.length_append]; omega
            · have := chunk_len _ _ _ _ _ h
              rw [List.length_drop, List.length_append] at this; omega
      · rw [if_neg hs, List.drop_append_of_le_length (by omega)]
        obtain ⟨y, hy⟩ := begCR_two hct (by rw [List.length_drop]; omega)
        have hz : ¬ begCR (13 :: 10 :: y ++ m) = false := by simp [begCR, CRLF]
        rw [hy, if_neg hz, if_neg (show ¬ (r1 ++ m).length < n + 2 by rw [List.length_append]; omega)]
        by_cases h0 : n = 0
        · rw [if_pos h0, if_pos h0, List.drop_append_of_le_length (by omega)]
          refine ⟨fun b r h => ?_, (fun h => by cases h), (fun h => by cases h)⟩
          cases h; rfl
        · rw [if_neg h0, if_neg h0, List.drop_append_of_le_length (by omega), List.take_append_of_le_length (by omega)]
          exact ih g _ _ m (by rw [List.length_drop]; omega) (by rw [List.length_drop]; omega)
theorem HEND_len : HEND.length = 4 := rfl
/-- What was read stays read. -/
theorem parse_app {s : Bs} {q : Rq} {n : Nat} (m : Bs) (h : parseQ s = .ok (q, n)) : parseQ (s ++ m) = .ok (q, n) := by
  unfold parseQ withBody at h ⊢
  cases hc : cutA HEND s with
  | none => rw [hc] at h; simp only at h; split at h <;> cases h
  | some p =>
    obtain ⟨t, r⟩ := p
    have hsr : r.length ≤ s.length := by
      have := (cutA_some hc).1
      rw [this]; simp; omega
    rw [hc] at h
    rw [cutA_app m hc]
    simp only at h ⊢
    by_cases hl : 8192 < t.length + 4
    · rw [if_pos hl] at h; cases h
    rw [if_neg hl] at h ⊢
    cases hr : readH t with
    | error e => rw [hr] at h; cases h
    | ok x =>
      obtain ⟨q', k⟩ := x
      rw [hr] at h
      try simp only at h ⊢
      cases k with
      | none =>
        try simp only at h ⊢
        obtain ⟨h1, h2, h3⟩ := chunk_app (r.length + 1) ((r ++ m).length + 1) [] r m (by omega) (by rw [List.length_append]; omega)
        cases hk : chunkS (r.length + 1) [] r with
        | bad => rw [hk] at h; cases h
        | short => rw [hk] at h; cases h
        | done b r' =>
          rw [hk] at h
          rw [h1 b r' hk]
          have := chunk_len _ _ _ _ _ hk
          simp only [Except.ok.injEq, Prod.mk.injEq] at h ⊢
          refine ⟨h.1, ?_⟩
          rw [List.length_append, List.length_append]
          omega
      | some k =>
        try simp only at h ⊢
        by_cases h1 : 8192 < k
        · rw [if_pos h1] at h; cases h
        rw [if_neg h1] at h ⊢
        by_cases h2 : r.length < k
        · rw [if_pos h2] at h; cases h
        rw [if_neg h2] at h
        rw [if_neg (by rw [List.length_append]; omega), List.take_append_of_le_length (by omega)]
        exact h
/-- What was refused stays refused. -/
theorem parse_app_err {s : Bs} {e : Int} (m : Bs) (h : parseQ s = .error e) (he : e ≠ 150) : parseQ (s ++ m) = .error e := by
  unfold parseQ withBody at h ⊢
  cases hc : cutA HEND s with
  | none =>
    rw [hc] at h
    simp only at h
    split at h
    · next hl =>
      cases h
      cases hc2 : cutA HEND (s ++ m) with
      | none =>
        simp only
        rw [if_pos (by rw [List.length_append]; omega)]
      | some p =>
        obtain ⟨a, b⟩ := p
        have := cutA_later hc hc2
        rw [HEND_len] at this
        simp only
        rw [if_pos (by omega)]
    · cases h; exact absurd rfl he
  | some p =>
    obtain ⟨t, r⟩ := p
    rw [hc] at h
    rw [cutA_app m hc]
    simp only at h ⊢
    by_cases hl : 8192 < t.length + 4
    · rw [if_pos hl] at h ⊢; exact h
    rw [if_neg hl] at h ⊢
    cases hr : readH t with
    | error e => rw [hr] at h; exact h
    | ok x =>
      obtain ⟨q', k⟩ := x
      rw [hr] at h
      try simp only at h ⊢
      cases k with
      | none =>
        try simp only at h ⊢
        obtain ⟨h1, h2, h3⟩ := chunk_app (r.length + 1) ((r ++ m).length + 1) [] r m (by omega) (by rw [List.length_append]; omega)
        cases hk : chunkS (r.length + 1) [] r with
        | bad => rw [hk] at h; rw [h2 hk]; exact h
        | short => rw [hk] at h; cases h; exact absurd rfl he
        | done b r' => rw [hk] at h; cases h
      | some k =>
        try simp only at h ⊢
        by_cases h1 : 8192 < k
        · rw [if_pos h1] at h ⊢; exact h
        rw [if_neg h1] at h ⊢
        by_cases h2 : r.length < k
        · rw [if_pos h2] at h; cases h; exact absurd rfl he
        rw [if_neg h2] at h; cases h
/-- What was too short takes some of what comes behind. -/
theorem parse_app_short {s : Bs} {q : Rq} {n : Nat} (m : Bs) (h : parseQ s = .error 150) (h' : parseQ (s ++ m) = .ok (q, n)) : s.length < n := by
  unfold parseQ withBody at h h'
  cases hc : cutA HEND s with
  | none =>
    cases hc2 : cutA HEND (s ++ m) with
    | none =>
      rw [hc2] at h'
      simp only at h'
      split at h' <;> cases h'
    | some p =>
      obtain ⟨a, b⟩ := p
      have hla := cutA_later hc hc2
      have hsz := congrArg List.length (cutA_some hc2).1
      rw [HEND_len] at hla
      simp only [List.length_append, HEND_len] at hsz
      rw [hc2] at h'
      simp only at h'
      split at h'
      · cases h'
      · split at h'
        · cases h'
        · split at h'
          · cases h'
          · cases h'
          · next e =>
            have := chunk_len _ _ _ _ _ e
            cases h'
            rw [List.length_append]; omega
        · split at h'
          · cases h'
          · split at h'
            · cases h'
            · cases h'; omega
  | some p =>
    obtain ⟨t, r⟩ := p
    have hsz := congrArg List.length (cutA_some hc).1
    simp only [List.length_append, HEND_len] at hsz
    rw [hc] at h
    rw [cutA_app m hc] at h'
    simp only at h h'
    by_cases hl : 8192 < t.length + 4
    · rw [if_pos hl] at h; cases h
    rw [if_neg hl] at h h'
    cases hr : readH t with
    | error e => rw [hr] at h'; cases h'
    | ok x =>
      obtain ⟨q', k⟩ := x
      rw [hr] at h h'
      try simp only at h h'
      cases k with
      | none =>
        try simp only at h h'
        obtain ⟨h1, h2, h3⟩ := chunk_app (r.length + 1) ((r ++ m).length + 1) [] r m (by omega) (by rw [List.length_append]; omega)
        cases hk : chunkS (r.length + 1) [] r with
        | bad => rw [h2 hk] at h'; cases h'
        | short =>
          cases hk2 : chunkS ((r ++ m).length + 1) [] (r ++ m) with
          | bad => rw [hk2] at h'; cases h'
          | short => rw [hk2] at h'; cases h'
          | done b r' =>
            have := h3 hk b r' hk2
            rw [hk2] at h'
            cases h'
            rw [List.length_append]; omega
        | done b r' => rw [hk] at h; cases h
      | some k =>
        try simp only at h h'
        by_cases h1 : 8192 < k
        · rw [if_pos h1] at h'; cases h'
        rw [if_neg h1] at h h'
        by_cases h2 : r.length < k
        · rw [List.length_append] at h'
          split at h'
          · cases h'
          · cases h'; omega
        rw [if_neg h2] at h; cases h
end Go.Proofs.YtipjkjcmceeaeaaGreatDoor
