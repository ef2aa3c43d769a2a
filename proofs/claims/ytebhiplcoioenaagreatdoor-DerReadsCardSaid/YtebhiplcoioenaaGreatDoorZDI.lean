/- ZBack ZOid ZTime ZNat, in one text. -/
import Derived.Test.YtebhiplcoioenaaGreatDoorZZDefs
/- There and back: what is read is its form; a form is read as what it was; a beginning of it ends too early. Plain. -/
namespace Go.Proofs.YtebhiplcoioenaaGreatDoor

theorem u8_lt (n : Nat) (h : n < 256) : (UInt8.ofNat n).toNat = n := by rw [UInt8.toNat_ofNat']; omega
theorem u8_back (x : UInt8) : UInt8.ofNat x.toNat = x := by simp
theorem sizeS_form {s r : Bs} {n : Nat} (h : sizeS s = (0, n, r)) : s = lenS n ++ r ∧ n < 65536 := by
  match s with
  | [] => simp [sizeS] at h
  | b :: s1 =>
    have hb := b.toNat_lt
    rw [sizeS] at h
    by_cases h1 : b.toNat < 128
    · rw [if_pos h1] at h
      injection h with _ h; injection h with h2 h3
      subst h2; subst h3
      refine ⟨?_, by omega⟩
      rw [lenS, if_pos h1, u8_back]; rfl
    · rw [if_neg h1] at h
      by_cases h2 : b.toNat = 128 ∨ 130 < b.toNat
      · rw [if_pos h2] at h; simp at h
      · rw [if_neg h2] at h
        by_cases h3 : b.toNat = 129
        · rw [if_pos h3] at h
          have hb9 : b = 129 := by rw [← u8_back b, h3]; rfl
          match s1 with
          | [] => simp [size1] at h
          | x :: s2 =>
            have hx := x.toNat_lt
            rw [size1] at h
            by_cases h4 : x.toNat < 128
            · rw [if_pos h4] at h; simp at h
            · rw [if_neg h4] at h
              injection h with _ h; injection h with h5 h6
              subst h5; subst h6
              refine ⟨?_, by omega⟩
              rw [lenS, if_neg h4, if_pos (by omega), u8_back, hb9]; rfl
        · rw [if_neg h3] at h
          have hb9 : b = 130 := by rw [← u8_back b, show b.toNat = 130 by omega]; rfl
          match s1 with
          | [] => simp [size2] at h
          | [x] => simp [size2] at h
          | x :: y :: s2 =>
            have hx := x.toNat_lt
            have hy := y.toNat_lt
            rw [size2] at h
            by_cases h4 : x.toNat * 256 + y.toNat < 256
            · rw [if_pos h4] at h; simp at h
            · rw [if_neg h4] at h
              injection h with _ h; injection h with h5 h6
              subst h5; subst h6
              refine ⟨?_, by omega⟩
              rw [lenS, if_neg (by omega), if_neg h4, show (x.toNat * 256 + y.toNat) / 256 = x.toNat by omega, u8_back, hb9]
              have : UInt8.ofNat (x.toNat * 256 + y.toNat) = y := by
                apply UInt8.toNat_inj.1
                rw [UInt8.toNat_ofNat']; omega
              rw [this]; rfl
theorem sizeS_back {n : Nat} (r : Bs) (h : n < 65536) : sizeS (lenS n ++ r) = (0, n, r) := by
  unfold lenS
  by_cases h1 : n < 128
  · rw [if_pos h1]
    show sizeS (UInt8.ofNat n :: r) = _
    rw [sizeS, u8_lt n (by omega), if_pos h1]
  · rw [if_neg h1]
    by_cases h2 : n < 256
    · rw [if_pos h2]
      show sizeS (129 :: UInt8.ofNat n :: r) = _
      rw [sizeS, if_neg (by decide), if_neg (by decide), if_pos (by decide), size1, u8_lt n (by omega), if_neg h1]
    · rw [if_neg h2]
      show sizeS (130 :: UInt8.ofNat (n / 256) :: UInt8.ofNat n :: r) = _
      rw [sizeS, if_neg (by decide), if_neg (by decide), if_neg (by decide), size2, u8_lt (n / 256) (by omega), UInt8.toNat_ofNat', if_neg (by omega)]
      simp only [Prod.mk.injEq, true_and, and_true]
      omega
theorem lenS_len (n : Nat) : 1 ≤ (lenS n).length ∧ (lenS n).length ≤ 3 := by
  unfold lenS
  split
  · exact ⟨by simp, by simp⟩
  · split
    · exact ⟨by simp, by simp⟩
    · exact ⟨by simp, by simp⟩
/-- A beginning of a length ends too early. -/
theorem sizeS_cut {n : Nat} {p q : Bs} (e : lenS n = p ++ q) (hq : q ≠ []) : (sizeS p).1 = 60 := by
  unfold lenS at e
  split at e
  · match p with
    | [] => rfl
    | a :: p => simp at e; exact absurd e.2.2 hq
  · split at e
    · match p with
      | [] => rfl
      | [a] =>
        simp at e
        rw [← e.1]; rfl
      | a :: b :: p => simp at e; exact absurd e.2.2.2 hq
    · match p with
      | [] => rfl
      | [a] => simp at e; rw [← e.1]; rfl
      | [a, b] => simp at e; rw [← e.1]; rfl
      | a :: b :: c :: p => simp at e; exact absurd e.2.2.2.2 hq

def cB (x : UInt8) : Int := (x.toNat / 64 : Nat)
def tB (x : UInt8) : Int := (x.toNat % 32 : Nat)
def kB (x : UInt8) : Bool := x.toNat / 32 % 2 == 1
theorem fst_of (x : UInt8) : fstS (cB x) (tB x) (kB x) = x := by
  unfold fstS cB tB kB
  simp only [Int.toNat_natCast]
  have hx := x.toNat_lt
  have : 64 * (x.toNat / 64) + x.toNat % 32 + (if (x.toNat / 32 % 2 == 1) = true then 32 else 0) = x.toNat := by
    by_cases h : x.toNat / 32 % 2 = 1
    · rw [if_pos (by simpa using h)]; omega
    · rw [if_neg (by simpa using h)]; omega
  rw [this, u8_back]
theorem of_fst {c t : Int} {k : Bool} (h0 : 0 ≤ c) (h1 : c ≤ 3) (h2 : 0 ≤ t) (h3 : t ≤ 31) : cB (fstS c t k) = c ∧ tB (fstS c t k) = t ∧ kB (fstS c t k) = k := by
  have hn : 64 * c.toNat + t.toNat + (if k = true then 32 else 0) < 256 := by split <;> omega
  unfold cB tB kB fstS
  rw [u8_lt _ hn]
  cases k with
  | true =>
    simp only [if_true]
    refine ⟨by omega, by omega, ?_⟩
    have : (64 * c.toNat + t.toNat + 32) / 32 % 2 = 1 := by omega
    rw [this]; rfl
  | false =>
    simp only [Bool.false_eq_true, if_false]
    refine ⟨by omega, by omega, ?_⟩
    have : (64 * c.toNat + t.toNat + 0) / 32 % 2 = 0 := by omega
    rw [this]; rfl
theorem head_ok {c t : Int} {k : Bool} {b : Bs} {n d : Nat} (h : headE c t k b n d = 0) : 0 ≤ c ∧ c ≤ 3 ∧ 0 ≤ t ∧ t ≤ 30 ∧ (k = true → b = []) ∧ (k = false → n = 0) ∧ (k = true → d < 16) := by
  unfold headE at h
  split at h
  · exact absurd h (by decide)
  · next h1 =>
    split at h
    · exact absurd h (by decide)
    · next h2 =>
      split at h
      · exact absurd h (by decide)
      · next h3 =>
        refine ⟨by omega, by omega, by omega, by omega, fun hk => ?_, fun hk => ?_, fun hk => ?_⟩
        · exact Classical.byContradiction fun hb => h2 (Or.inr (Or.inl ⟨hk, hb⟩))
        · rcases Nat.eq_zero_or_pos n with h | h
          · exact h
          · exact absurd (Or.inr (Or.inr ⟨hk, h⟩)) h2
        · rcases Nat.lt_or_ge d 16 with h | h
          · exact h
          · exact absurd ⟨hk, h⟩ h3
theorem head_bare {c t : Int} {k : Bool} {b : Bs} {n d : Nat} (h : headE c t k b n d = 0) : headE c t k [] 0 d = 0 := by
  unfold headE at h ⊢
  split at h
  · exact absurd h (by decide)
  · next h1 =>
    rw [if_neg h1]
    split at h
    · exact absurd h (by decide)
    · next h2 =>
      rw [if_neg (fun hh => h2 (by
        rcases hh with hh | ⟨_, hh⟩ | ⟨_, hh⟩
        · exact Or.inl hh
        · exact absurd rfl hh
        · omega))]
      exact h
theorem len_nil {l : Dr} (h : l.len = 0) : l = .nil := by
  cases l with
  | nil => rfl
  | cons c t k b kids nx => exact absurd h (Nat.succ_ne_zero _)
theorem head_same {c t : Int} {k : Bool} {d n : Nat} (h : headE c t k [] 0 d = 0) (hk : k = true) : headE c t k [] n d = 0 := by
  unfold headE at h ⊢
  split at h
  · exact absurd h (by decide)
  · next h1 =>
    rw [if_neg h1]
    split at h
    · exact absurd h (by decide)
    · next h2 =>
      rw [if_neg (fun hh => h2 (by
        rcases hh with hh | ⟨_, hh⟩ | ⟨hh, _⟩
        · exact Or.inl hh
        · exact absurd rfl hh
        · rw [hk] at hh; cases hh))]
      exact h
theorem head_prim {c t : Int} {b : Bs} {d : Nat} (h : headE c t false [] 0 d = 0) : headE c t false b 0 d = 0 := by
  unfold headE at h ⊢
  split at h
  · exact absurd h (by decide)
  · next h1 =>
    rw [if_neg h1]
    split at h
    · exact absurd h (by decide)
    · next h2 =>
      rw [if_neg (fun hh => h2 (by
        rcases hh with hh | ⟨hh, _⟩ | ⟨_, hh⟩
        · exact Or.inl hh
        · cases hh
        · omega))]
      exact h
theorem Dv.forms_one (v : Dv) (nx : Dr) : formsS (.cons v.c v.t v.k v.b v.l nx) = v.form :: formsS nx := rfl
theorem Dv.errs_one (v : Dv) (nx : Dr) (d : Nat) : errsS (.cons v.c v.t v.k v.b v.l nx) d = if v.err d ≠ 0 then v.err d else errsS nx d := by
  rw [errsS, Dv.err]
  by_cases h1 : headE v.c v.t v.k v.b v.l.len d ≠ 0
  · rw [if_pos h1, if_pos h1, if_pos h1]
  · rw [if_neg h1, if_neg h1]
    by_cases h2 : v.k = false
    · rw [if_pos h2, if_pos h2]
      by_cases h3 : v.c = 0 ∧ fineS v.t v.b = false
      · rw [if_pos h3, if_pos h3]; rfl
      · rw [if_neg h3, if_neg h3]; rfl
    · rw [if_neg h2, if_neg h2]
      by_cases h3 : errsS v.l (d + 1) ≠ 0
      · rw [if_pos h3, if_pos h3, if_pos h3]
      · rw [if_neg h3, if_neg h3]
        by_cases h4 : v.c = 0 ∧ v.t = 17 ∧ riseB (formsS v.l) = false
        · rw [if_pos h4, if_pos h4]; rfl
        · rw [if_neg h4, if_neg h4]; rfl
theorem Dv.form_ne (v : Dv) : v.form ≠ [] := by unfold Dv.form wholeS; exact List.cons_ne_nil _ _

/-- What is read is its form. -/
theorem rdB_form {deep : Nat} {many : Bs → Int × Dr} (hm : ∀ s l, many s = (0, l) → s = (formsS l).flatten ∧ errsS l (deep + 1) = 0) {s r : Bs} {v : Dv} (h : rdB deep many s = (0, v, r)) : s = v.form ++ r ∧ v.err deep = 0 := by
  match s with
  | [] => simp [rdB] at h
  | x :: s1 =>
    rw [rdB] at h
    simp only at h
    obtain ⟨c, hc⟩ : ∃ c, c = cB x := ⟨_, rfl⟩
    obtain ⟨t, ht⟩ : ∃ t, t = tB x := ⟨_, rfl⟩
    obtain ⟨k, hk⟩ : ∃ k, k = kB x := ⟨_, rfl⟩
    have hf : fstS c t k = x := by rw [hc, ht, hk]; exact fst_of x
    rw [show ((x.toNat / 64 : Nat) : Int) = c from hc.symm, show ((x.toNat % 32 : Nat) : Int) = t from ht.symm, show (x.toNat / 32 % 2 == 1) = k from hk.symm] at h
    clear hc ht hk
    by_cases h1 : headE c t k [] 0 deep ≠ 0
    · rw [if_pos h1] at h; injection h with h _; exact absurd h h1
    rw [if_neg h1] at h
    have h1 : headE c t k [] 0 deep = 0 := Classical.byContradiction h1
    obtain ⟨e2, n, s2⟩ : Int × Nat × Bs := sizeS s1
    generalize hz : sizeS s1 = z at h
    obtain ⟨e, n, s2⟩ := z
    simp only at h
    by_cases h2 : e ≠ 0
    · rw [if_pos h2] at h; injection h with h _; exact absurd h h2
    rw [if_neg h2] at h
    have h2 : e = 0 := Classical.byContradiction h2
    subst h2
    obtain ⟨hs1, hn⟩ := sizeS_form hz
    by_cases h3 : s2.length < n
    · rw [if_pos h3] at h; simp at h
    rw [if_neg h3] at h
    have hil : (s2.take n).length = n := by rw [List.length_take]; omega
    have hcat : s2.take n ++ s2.drop n = s2 := List.take_append_drop n s2
    by_cases h4 : k = false
    · rw [if_pos h4] at h
      subst h4
      by_cases h5 : c = 0 ∧ fineS t (s2.take n) = false
      · rw [if_pos h5] at h; simp at h
      rw [if_neg h5] at h
      injection h with _ h; injection h with hv hr
      subst hv; subst hr
      refine ⟨?_, ?_⟩
      · unfold Dv.form wholeS
        simp only [Bool.false_eq_true, if_false]
        rw [hf, hil, hs1, List.cons_append, List.append_assoc, hcat]
      · unfold Dv.err
        simp only [Dr.len]
        rw [if_neg (by rw [head_prim h1]; simp), if_pos trivial, if_neg h5]
    · rw [if_neg h4] at h
      have h4 : k = true := by cases k with | true => rfl | false => exact absurd rfl h4
      subst h4
      generalize hmm : many (s2.take n) = m at h
      obtain ⟨em, l⟩ := m
      simp only at h
      by_cases h5 : em ≠ 0
      · rw [if_pos h5] at h; injection h with h _; exact absurd h h5
      rw [if_neg h5] at h
      have h5 : em = 0 := Classical.byContradiction h5
      subst h5
      obtain ⟨hl1, hl2⟩ := hm _ _ hmm
      by_cases h6 : c = 0 ∧ t = 17 ∧ riseB (formsS l) = false
      · rw [if_pos h6] at h; simp at h
      rw [if_neg h6] at h
      injection h with _ h; injection h with hv hr
      subst hv; subst hr
      refine ⟨?_, ?_⟩
      · unfold Dv.form wholeS
        simp only [if_true]
        rw [hf, ← hl1, hil, hs1, List.cons_append, List.append_assoc, hcat]
      · unfold Dv.err
        simp only
        rw [if_neg (by rw [head_same h1 rfl]; simp), if_neg (by decide), if_neg (by rw [hl2]; simp), if_neg h6]
theorem rdsF_form {deep : Nat} {one : Bs → Int × Dv × Bs} (ho : ∀ s v r, one s = (0, v, r) → s = v.form ++ r ∧ v.err deep = 0) : ∀ (f : Nat) (s : Bs) (l : Dr), s.length ≤ f → rdsF one f s = (0, l) → s = (formsS l).flatten ∧ errsS l deep = 0
  | 0, s, l, hf, h => by
    rw [rdsF] at h
    injection h with _ h; subst h
    have : s = [] := List.eq_nil_of_length_eq_zero (by omega)
    rw [this]; exact ⟨rfl, rfl⟩
  | f + 1, s, l, hf, h => by
    rw [rdsF] at h
    match s with
    | [] =>
      simp at h; subst h; exact ⟨rfl, rfl⟩
    | x :: s1 =>
      simp only [List.isEmpty_cons, Bool.false_eq_true, if_false] at h
      generalize hz : one (x :: s1) = z at h
      obtain ⟨e, v, r⟩ := z
      simp only at h
      by_cases h2 : e ≠ 0
      · rw [if_pos h2] at h; injection h with h _; exact absurd h h2
      rw [if_neg h2] at h
      have h2 : e = 0 := Classical.byContradiction h2
      subst h2
      obtain ⟨h3, h4⟩ := ho _ _ _ hz
      generalize hm : rdsF one f r = m at h
      obtain ⟨e2, l2⟩ := m
      simp only at h
      by_cases h5 : e2 ≠ 0
      · rw [if_pos h5] at h; injection h with h _; exact absurd h h5
      rw [if_neg h5] at h
      have h5 : e2 = 0 := Classical.byContradiction h5
      subst h5
      injection h with _ h; subst h
      have hlen : r.length < (x :: s1).length := by
        rw [h3, List.length_append]
        have := List.length_pos_iff.2 v.form_ne
        omega
      obtain ⟨h6, h7⟩ := rdsF_form ho f r l2 (by simp at hlen hf ⊢; omega) hm
      refine ⟨?_, ?_⟩
      · rw [Dv.forms_one, List.flatten_cons, ← h6]; exact h3
      · rw [Dv.errs_one, h4, if_neg (by simp)]; exact h7
theorem rdS_form : ∀ (h : Nat), h ≤ 16 → ∀ s v r, rdS h s = (0, v, r) → s = v.form ++ r ∧ v.err (16 - h) = 0
  | 0, _, s, v, r, e => by
    rw [rdS] at e
    match s with
    | [] => simp [rdB] at e
    | x :: s1 =>
      -- a constructed value is refused
      rw [rdB] at e
      simp only at e
      refine rdB_form (deep := 16) (many := fun s => if s = [] then (0, .nil) else (1, .nil)) (fun s l hm => ?_) (s := x :: s1) ?_
      · by_cases hs : s = []
        · rw [if_pos hs] at hm; injection hm with _ hm; subst hm; rw [hs]; exact ⟨rfl, rfl⟩
        · rw [if_neg hs] at hm; simp at hm
      · rw [rdB]
        simp only
        by_cases h1 : headE ((x.toNat / 64 : Nat) : Int) ((x.toNat % 32 : Nat) : Int) (x.toNat / 32 % 2 == 1) [] 0 16 ≠ 0
        · rw [if_pos h1] at e ⊢; exact e
        · rw [if_neg h1] at e ⊢
          have h1 := Classical.byContradiction h1
          have hk : (x.toNat / 32 % 2 == 1) = false := by
            cases hk : (x.toNat / 32 % 2 == 1) with
            | false => rfl
            | true => exact absurd ((head_ok h1).2.2.2.2.2.2 hk) (by decide)
          rw [if_pos hk] at e ⊢; exact e
  | h + 1, hh, s, v, r, e => by
    rw [rdS] at e
    have ih := rdS_form h (by omega)
    rw [show 16 - (h + 1) = 15 - h by omega]
    refine rdB_form (deep := 15 - h) (fun s l hm => ?_) e
    rw [show 15 - h + 1 = 16 - h by omega]
    exact rdsF_form ih s.length s l (Nat.le_refl _) hm
/-- A form is read as what it was. -/
theorem rdB_back {deep : Nat} {many : Bs → Int × Dr} {v : Dv} (hv : v.err deep = 0) (hl : v.form.length ≤ 65535) (hm : v.k = true → many (formsS v.l).flatten = (0, v.l)) (r : Bs) : rdB deep many (v.form ++ r) = (0, v, r) := by
  obtain ⟨c, t, k, b, l⟩ := v
  unfold Dv.err at hv
  simp only at hv hm
  by_cases h1 : headE c t k b l.len deep ≠ 0
  · rw [if_pos h1] at hv; exact absurd hv h1
  rw [if_neg h1] at hv
  have h1 : headE c t k b l.len deep = 0 := Classical.byContradiction h1
  obtain ⟨g0, g1, g2, g3, g4, g5, g6⟩ := head_ok h1
  obtain ⟨f1, f2, f3⟩ := of_fst (k := k) g0 g1 g2 (by omega : t ≤ 31)
  obtain ⟨body, hbody⟩ : ∃ body, body = if k then (formsS l).flatten else b := ⟨_, rfl⟩
  have hform : Dv.form ⟨c, t, k, b, l⟩ = fstS c t k :: (lenS body.length ++ body) := by unfold Dv.form wholeS; rw [hbody]
  have hbl : body.length < 65536 := by
    rw [hform] at hl
    simp only [List.length_cons, List.length_append] at hl
    omega
  rw [hform]
  show rdB deep many (fstS c t k :: ((lenS body.length ++ body) ++ r)) = _
  rw [List.append_assoc, rdB]
  simp only
  rw [show (((fstS c t k).toNat / 64 : Nat) : Int) = c from f1, show (((fstS c t k).toNat % 32 : Nat) : Int) = t from f2, show ((fstS c t k).toNat / 32 % 2 == 1) = k from f3]
  rw [if_neg (by rw [head_bare h1]; simp), sizeS_back _ hbl]
  simp only
  rw [if_neg (by simp), if_neg (by rw [List.length_append]; omega), List.take_left, List.drop_left]
  cases k with
  | false =>
    simp only [Bool.false_eq_true, if_false] at hbody
    subst hbody
    rw [if_pos rfl] at hv ⊢
    by_cases h5 : c = 0 ∧ fineS t body = false
    · rw [if_pos h5] at hv; exact absurd hv (by decide)
    · rw [if_neg h5, len_nil (g5 rfl)]
  | true =>
    simp only [if_true] at hbody
    rw [if_neg (by decide)] at hv ⊢
    rw [hbody, hm rfl]
    simp only
    rw [if_neg (by simp)]
    by_cases h4 : errsS l (deep + 1) ≠ 0
    · rw [if_pos h4] at hv; exact absurd hv h4
    rw [if_neg h4] at hv
    by_cases h6 : c = 0 ∧ t = 17 ∧ riseB (formsS l) = false
    · rw [if_pos h6] at hv; exact absurd hv (by decide)
    · rw [if_neg h6, g4 rfl]
theorem rdsF_back {deep : Nat} {one : Bs → Int × Dv × Bs} {L : Nat} (ho : ∀ v : Dv, v.err deep = 0 → v.form.length ≤ L → ∀ r, one (v.form ++ r) = (0, v, r)) : ∀ (l : Dr) (f : Nat), errsS l deep = 0 → (formsS l).flatten.length ≤ L → (formsS l).flatten.length ≤ f → rdsF one f (formsS l).flatten = (0, l)
  | .nil, 0, _, _, _ => rfl
  | .nil, f + 1, _, _, _ => rfl
  | .cons c t k b kids nx, f, he, hL, hf => by
    obtain ⟨v, hv⟩ : ∃ v : Dv, v = ⟨c, t, k, b, kids⟩ := ⟨_, rfl⟩
    have e1 := v.forms_one nx
    have e2 := v.errs_one nx deep
    rw [hv] at e1 e2
    simp only at e1 e2
    rw [← hv] at e1 e2
    rw [e1, List.flatten_cons] at hL hf ⊢
    rw [e2] at he
    have hne := v.form_ne
    have hpos := List.length_pos_iff.2 hne
    rw [List.length_append] at hL hf
    match f with
    | 0 => omega
    | f + 1 =>
      by_cases h1 : v.err deep ≠ 0
      · rw [if_pos h1] at he; exact absurd he h1
      rw [if_neg h1] at he
      have h1 : v.err deep = 0 := Classical.byContradiction h1
      have ih := rdsF_back ho nx f he (by omega) (by omega)
      rw [rdsF, if_neg (by cases hq : v.form with | nil => exact absurd hq hne | cons a q => simp)]
      simp only
      rw [ho v h1 (by omega) _]
      simp only
      rw [if_neg (by simp), ih]
      simp only
      rw [if_neg (by simp), hv]
theorem rdS_back : ∀ (h : Nat), h ≤ 16 → ∀ v : Dv, v.err (16 - h) = 0 → v.form.length ≤ 65535 → ∀ r, rdS h (v.form ++ r) = (0, v, r)
  | 0, _, v, hv, hl, r => by
    rw [rdS]
    refine rdB_back (deep := 16) hv hl (fun hk => ?_) r
    have : headE v.c v.t v.k v.b v.l.len 16 = 0 := by
      unfold Dv.err at hv
      by_cases h1 : headE v.c v.t v.k v.b v.l.len 16 ≠ 0
      · rw [if_pos h1] at hv; exact absurd hv h1
      · exact Classical.byContradiction h1
    exact absurd ((head_ok this).2.2.2.2.2.2 hk) (by decide)
  | h + 1, hh, v, hv, hl, r => by
    rw [rdS]
    rw [show 16 - (h + 1) = 15 - h by omega] at hv
    have ih := rdS_back h (by omega)
    refine rdB_back (deep := 15 - h) hv hl (fun hk => ?_) r
    have he : errsS v.l (15 - h + 1) = 0 := by
      unfold Dv.err at hv
      by_cases h1 : headE v.c v.t v.k v.b v.l.len (15 - h) ≠ 0
      · rw [if_pos h1] at hv; exact absurd hv h1
      rw [if_neg h1, if_neg (by rw [hk]; decide)] at hv
      by_cases h2 : errsS v.l (15 - h + 1) ≠ 0
      · rw [if_pos h2] at hv; exact absurd hv h2
      · exact Classical.byContradiction h2
    rw [show 15 - h + 1 = 16 - h by omega] at he
    have hbl : (formsS v.l).flatten.length ≤ v.form.length := by
      unfold Dv.form wholeS
      rw [hk]
      simp only [if_true, List.length_cons, List.length_append]
      omega
    exact rdsF_back (L := 65535) ih v.l _ he (by omega) (Nat.le_refl _)
/-- A true beginning of a form ends too early. -/
theorem rdS_cut {h : Nat} {v : Dv} (hh : h ≤ 16) (hv : v.err (16 - h) = 0) (hl : v.form.length ≤ 65535) {p q : Bs} (e : v.form = p ++ q) (hq : q ≠ []) : (rdS h p).1 = 60 := by
  have key : ∀ (deep : Nat) (many : Bs → Int × Dr), v.err deep = 0 → (rdB deep many p).1 = 60 := by
    intro deep many hv
    have h1 : headE v.c v.t v.k v.b v.l.len deep = 0 := by
      unfold Dv.err at hv
      by_cases h1 : headE v.c v.t v.k v.b v.l.len deep ≠ 0
      · rw [if_pos h1] at hv; exact absurd hv h1
      · exact Classical.byContradiction h1
    obtain ⟨g0, g1, g2, g3, g4, g5, g6⟩ := head_ok h1
    obtain ⟨f1, f2, f3⟩ := of_fst (k := v.k) g0 g1 g2 (by omega : v.t ≤ 31)
    obtain ⟨body, hbody⟩ : ∃ body, body = if v.k then (formsS v.l).flatten else v.b := ⟨_, rfl⟩
    have hform : v.form = fstS v.c v.t v.k :: (lenS body.length ++ body) := by unfold Dv.form wholeS; rw [hbody]
    rw [hform] at e hl
    have hbl : body.length < 65536 := by
      simp only [List.length_cons, List.length_append] at hl
      omega
    match p with
    | [] => rfl
    | x :: p =>
      rw [List.cons_append, List.cons.injEq] at e
      obtain ⟨rfl, e⟩ := e
      rw [rdB]
      simp only
      rw [show (((fstS v.c v.t v.k).toNat / 64 : Nat) : Int) = v.c from f1, show (((fstS v.c v.t v.k).toNat % 32 : Nat) : Int) = v.t from f2, show ((fstS v.c v.t v.k).toNat / 32 % 2 == 1) = v.k from f3]
      rw [if_neg (by rw [head_bare h1]; simp)]
      rcases List.append_eq_append_iff.1 e with ⟨a, e1, e2⟩ | ⟨a, e1, e2⟩
      · -- p = lenS ++ a, body = a ++ q
        rw [e1, sizeS_back _ hbl]
        simp only
        have hql := List.length_pos_iff.2 hq
        rw [if_neg (by simp), if_pos (by rw [e2, List.length_append]; omega)]
      · by_cases ha : a = []
        · subst ha
          rw [List.append_nil] at e1
          rw [List.nil_append] at e2
          have hs := sizeS_back (n := body.length) [] hbl
          rw [List.append_nil] at hs
          rw [← e1, hs]
          simp only
          have hql := List.length_pos_iff.2 hq
          rw [if_neg (by simp), if_pos (by rw [← e2]; simpa using hql)]
        · have hc := sizeS_cut e1 ha
          generalize sizeS p = z at *
          obtain ⟨e3, n, s2⟩ := z
          simp only at hc
          subst hc
          simp only
          rw [if_pos (by decide)]
  match h with
  | 0 => exact key _ _ hv
  | h + 1 =>
    rw [rdS]
    rw [show 16 - (h + 1) = 15 - h by omega] at hv
    exact key _ _ hv
theorem Dv.check_ok {v : Dv} (h : v.check = 0) : v.err 0 = 0 ∧ v.form.length ≤ 16384 := by
  unfold Dv.check at h
  by_cases h1 : v.err 0 ≠ 0
  · rw [if_pos h1] at h; exact absurd h h1
  rw [if_neg h1] at h
  by_cases h2 : 16384 < v.form.length
  · rw [if_pos h2] at h; exact absurd h (by decide)
  · exact ⟨Classical.byContradiction h1, by omega⟩
theorem Dv.ok_check {v : Dv} (h : v.err 0 = 0) (hl : v.form.length ≤ 16384) : v.check = 0 := by
  unfold Dv.check
  rw [if_neg (by rw [h]; simp), if_neg (by omega)]
theorem parse_back {v : Dv} (h : v.check = 0) : parseS v.form = (v, 0) := by
  obtain ⟨h1, h2⟩ := v.check_ok h
  unfold parseS
  rw [if_neg (by omega)]
  have := rdS_back 16 (Nat.le_refl _) v h1 (by omega) []
  rw [List.append_nil] at this
  simp only
  rw [this]
  simp
theorem parse_form {s : Bs} {v : Dv} (h : parseS s = (v, 0)) : v.check = 0 ∧ v.form = s := by
  unfold parseS at h
  by_cases h0 : 16384 < s.length
  · rw [if_pos h0] at h; simp at h
  rw [if_neg h0] at h
  simp only at h
  generalize hz : rdS 16 s = z at h
  obtain ⟨e, y, r⟩ := z
  simp only at h
  by_cases h2 : e ≠ 0
  · rw [if_pos h2] at h; injection h with _ h; exact absurd h h2
  rw [if_neg h2] at h
  have h2 : e = 0 := Classical.byContradiction h2
  subst h2
  by_cases h3 : r ≠ []
  · rw [if_pos h3] at h; simp at h
  rw [if_neg h3] at h
  have h3 : r = [] := Classical.byContradiction h3
  subst h3
  injection h with h _; subst h
  obtain ⟨h4, h5⟩ := rdS_form 16 (Nat.le_refl _) _ _ _ hz
  rw [List.append_nil] at h4
  exact ⟨Dv.ok_check h5 (by rw [← h4]; omega), h4.symm⟩
theorem parse_fell {s : Bs} {v : Dv} {e : Int} (h : parseS s = (v, e)) (he : e ≠ 0) : v = .zero := by
  unfold parseS at h
  simp only at h
  repeat' split at h
  all_goals first | (injection h with h _; exact h.symm) | (injection h with _ h; exact absurd h.symm he)
theorem parse_cut {v : Dv} (h : v.check = 0) {p q : Bs} (e : v.form = p ++ q) (hq : q ≠ []) : parseS p = (.zero, 60) := by
  obtain ⟨h1, h2⟩ := v.check_ok h
  have hl : p.length ≤ 16384 := by rw [e, List.length_append] at h2; omega
  have hc := rdS_cut (Nat.le_refl 16) h1 (by omega) e hq
  unfold parseS
  rw [if_neg (by omega)]
  simp only
  rw [hc]
  rfl
theorem parse_more {v : Dv} (h : v.check = 0) {m : Bs} (hm : m ≠ []) (hl : (v.form ++ m).length ≤ 16384) : parseS (v.form ++ m) = (.zero, 66) := by
  obtain ⟨h1, h2⟩ := v.check_ok h
  unfold parseS
  rw [if_neg (by omega)]
  simp only
  rw [rdS_back 16 (Nat.le_refl _) v h1 (by omega) m]
  simp only
  rw [if_neg (by simp), if_pos hm]
end Go.Proofs.YtebhiplcoioenaaGreatDoor
/- OIDs: their texts, there and back. Plain. -/
namespace Go.Proofs.YtebhiplcoioenaaGreatDoor

/-- A number's digits. -/
def numT (n : Nat) : Bs := if _h : n < 10 then [UInt8.ofNat (48 + n)] else numT (n / 10) ++ [UInt8.ofNat (48 + n % 10)]
termination_by n
decreasing_by exact Nat.div_lt_self (by omega) (by omega)
theorem numT_small {n : Nat} (h : n < 10) : numT n = [UInt8.ofNat (48 + n)] := by rw [numT, dif_pos h]
theorem numT_big {n : Nat} (h : ¬ n < 10) : numT n = numT (n / 10) ++ [UInt8.ofNat (48 + n % 10)] := by rw [numT, dif_neg h]
/-- A number's bytes: groups of seven digits. -/
def grpT (n : Nat) : Bs := if _h : n = 0 then [] else grpT (n / 128) ++ [UInt8.ofNat (128 + n % 128)]
termination_by n
decreasing_by exact Nat.div_lt_self (by omega) (by omega)
def grpB (n : Nat) : Bs := grpT (n / 128) ++ [UInt8.ofNat (n % 128)]
theorem grpT_zero : grpT 0 = [] := by rw [grpT]; simp
theorem grpT_pos {n : Nat} (h : n ≠ 0) : grpT n = grpT (n / 128) ++ [UInt8.ofNat (128 + n % 128)] := by rw [grpT, dif_neg h]
/-- An OID's text. -/
def topN (n : Nat) : Nat := min (n / 40) 2
def tailT : List Nat → Bs
  | [] => []
  | n :: l => 46 :: (numT n ++ tailT l)
def textT : List Nat → Bs
  | [] => []
  | n :: l => numT (topN n) ++ (46 :: numT (n - 40 * topN n)) ++ tailT l
def oidS (v : Dv) : Bs × Int := if v.isK 6 then (textT ((groupsS v.b).getD []), 0) else ([], 65)
/-- A text's words, cut at each point. -/
def splitW : Bs → List Bs
  | [] => [[]]
  | c :: r => if c = 46 then [] :: splitW r else match splitW r with
    | [] => [[c]]
    | w :: l => (c :: w) :: l
/-- A word's number; -1: it has none. -/
def wordN (w : Bs) : Int := if w ≠ [] ∧ w.length ≤ 10 then digS w else -1
def wordB (w : Bs) : Bool := decide (0 ≤ wordN w) && decide (wordN w ≤ 2147483647)
def oidBs : List Nat → Bs
  | a :: b :: l => grpB (40 * min a 3 + b) ++ (l.map grpB).flatten
  | _ => []
def oidV (b : Bs) : Dv := ⟨0, 6, false, b, .nil⟩
def ofOidS (s : Bs) : Dv × Int :=
  let ws := splitW s
  if ws.length < 2 ∨ 65536 < s.length ∨ ws.all wordB = false then (.zero, 61)
  else
    let d := oidV (oidBs (ws.map fun w => (wordN w).toNat))
    if oidS d = (s, 0) then (d, 0) else (.zero, 61)

/-! Digits. -/
theorem digF_app (a : Bs) : ∀ (n : Int), (∀ c ∈ a, 48 ≤ c.toNat ∧ c.toNat ≤ 57) → ∀ b, digF (a ++ b) n = digF b (digF a n) := by
  induction a with
  | nil => intro n _ b; rfl
  | cons x r ih =>
    intro n h b
    have hx := h x (List.mem_cons_self ..)
    rw [List.cons_append, digF, digF, if_neg (by omega), if_neg (by omega)]
    exact ih _ (fun c hc => h c (List.mem_cons_of_mem _ hc)) b
theorem digF_bad {a : Bs} (h : ¬ ∀ c ∈ a, 48 ≤ c.toNat ∧ c.toNat ≤ 57) : ∀ n, digF a n = -1 := by
  induction a with
  | nil => exact absurd (fun c hc => absurd hc List.not_mem_nil) h
  | cons x r ih =>
    intro n
    rw [digF]
    by_cases hx : x.toNat < 48 ∨ 57 < x.toNat
    · rw [if_pos hx]
    · rw [if_neg hx]
      refine ih (fun hr => h fun c hc => ?_) _
      rcases List.mem_cons.1 hc with rfl | hc
      · omega
      · exact hr c hc
theorem digF_ge : ∀ (a : Bs) (n : Int), 0 ≤ n → (∀ c ∈ a, 48 ≤ c.toNat ∧ c.toNat ≤ 57) → n ≤ digF a n
  | [], n, _, _ => Int.le_refl _
  | x :: r, n, hn, h => by
    have hx := h x (List.mem_cons_self ..)
    rw [digF, if_neg (by omega)]
    have := digF_ge r (10 * n + (x.toNat - 48 : Nat)) (by omega) (fun c hc => h c (List.mem_cons_of_mem _ hc))
    omega
theorem digS_iff (a : Bs) : 0 ≤ digS a ↔ ∀ c ∈ a, 48 ≤ c.toNat ∧ c.toNat ≤ 57 := by
  constructor
  · intro h
    exact Classical.byContradiction fun hn => by
      have := digF_bad hn 0
      unfold digS at h
      omega
  · intro h; exact digF_ge a 0 (Int.le_refl _) h
theorem numT_dig (n : Nat) : (∀ c ∈ numT n, 48 ≤ c.toNat ∧ c.toNat ≤ 57) ∧ digS (numT n) = n ∧ numT n ≠ [] := by
  induction n using Nat.strongRecOn with
  | _ n ih =>
    by_cases h : n < 10
    · rw [numT_small h]
      have hn := u8_lt (48 + n) (by omega)
      refine ⟨fun c hc => ?_, ?_, by simp⟩
      · rw [List.mem_singleton] at hc; rw [hc, hn]; omega
      · unfold digS; rw [digF, hn, if_neg (by omega), digF]; omega
    · rw [numT_big h]
      obtain ⟨i1, i2, i3⟩ := ih (n / 10) (Nat.div_lt_self (by omega) (by omega))
      have hn := u8_lt (48 + n % 10) (by omega)
      refine ⟨fun c hc => ?_, ?_, by simp⟩
      · rcases List.mem_append.1 hc with hc | hc
        · exact i1 c hc
        · rw [List.mem_singleton] at hc; rw [hc, hn]; omega
      · unfold digS at i2 ⊢
        rw [digF_app _ _ i1, i2, digF, hn, if_neg (by omega), digF]; omega
theorem numT_len {n : Nat} : ∀ {k : Nat}, n < 10 ^ (k + 1) → (numT n).length ≤ k + 1 := by
  intro k
  induction k generalizing n with
  | zero => intro h; rw [numT_small (by simpa using h)]; exact Nat.le_refl _
  | succ k ih =>
    intro h
    by_cases h1 : n < 10
    · rw [numT_small h1]; simp
    · rw [numT_big h1, List.length_append]
      have : n / 10 < 10 ^ (k + 1) := by
        rw [Nat.div_lt_iff_lt_mul (by decide)]
        rw [Nat.pow_succ] at h; exact h
      have := ih this
      simp only [List.length_cons, List.length_nil]
      omega
/-- A word of digits is its number's text just if it has no 0 ahead. -/
theorem numT_back : ∀ (w : Bs), w ≠ [] → (∀ c ∈ w, 48 ≤ c.toNat ∧ c.toNat ≤ 57) → (w.head? ≠ some 48 ∨ w.length = 1) → numT (digS w).toNat = w := by
  intro w hne hd hz
  have key : ∀ (m : Bs) , (∀ c ∈ m.reverse, 48 ≤ c.toNat ∧ c.toNat ≤ 57) → m ≠ [] → (m.reverse.head? ≠ some 48 ∨ m.length = 1) → numT (digS m.reverse).toNat = m.reverse ∧ (m.reverse.head? ≠ some 48 → 1 ≤ digS m.reverse) := by
    intro m
    induction m with
    | nil => intro _ h; exact absurd rfl h
    | cons x r ih =>
      intro hd _ hz
      have hx := hd x (by simp)
      have hr : ∀ c ∈ r.reverse, 48 ≤ c.toNat ∧ c.toNat ≤ 57 := fun c hc => hd c (by simp at hc ⊢; exact Or.inl hc)
      have hD : digS (x :: r).reverse = 10 * digS r.reverse + (x.toNat - 48 : Nat) := by
        rw [List.reverse_cons]
        unfold digS
        rw [digF_app _ _ hr, digF, if_neg (by omega), digF]
      by_cases hre : r = []
      · subst hre
        have h0 : digS [x] = (x.toNat - 48 : Nat) := by unfold digS; rw [digF, if_neg (by omega), digF]; omega
        have hxb : UInt8.ofNat (48 + (x.toNat - 48)) = x := by rw [show 48 + (x.toNat - 48) = x.toNat by omega]; exact u8_back x
        refine ⟨?_, fun h => ?_⟩
        · show numT (digS [x]).toNat = [x]
          rw [h0, Int.toNat_natCast, numT_small (by omega), hxb]
        · show 1 ≤ digS [x]
          rw [h0]
          have : x ≠ 48 := by simpa using h
          have : x.toNat ≠ 48 := fun e => this (by rw [← u8_back x, e]; rfl)
          omega
      · have hh : (x :: r).reverse.head? = r.reverse.head? := by
          rw [List.reverse_cons, List.head?_append]
          cases hq : r.reverse.head? with
          | some y => rfl
          | none => simp at hq; exact absurd hq hre
        have hz2 : (x :: r).reverse.head? ≠ some 48 := by
          rcases hz with h | h
          · exact h
          · simp at h; exact absurd h hre
        rw [hh] at hz2 ⊢
        obtain ⟨i1, i2⟩ := ih hr hre (Or.inl hz2)
        have i3 := i2 hz2
        refine ⟨?_, fun _ => by omega⟩
        have hxb : UInt8.ofNat (48 + (x.toNat - 48)) = x := by rw [show 48 + (x.toNat - 48) = x.toNat by omega]; exact u8_back x
        rw [hD]
        have e1 : (10 * digS r.reverse + ((x.toNat - 48 : Nat) : Int)).toNat = 10 * (digS r.reverse).toNat + (x.toNat - 48) := by omega
        rw [e1, numT_big (by omega), show (10 * (digS r.reverse).toNat + (x.toNat - 48)) / 10 = (digS r.reverse).toNat by omega, show (10 * (digS r.reverse).toNat + (x.toNat - 48)) % 10 = x.toNat - 48 by omega, hxb, i1, List.reverse_cons]
  have := key w.reverse (by rw [List.reverse_reverse]; exact hd) (by simpa using hne) (by rw [List.reverse_reverse]; simpa using hz)
  rw [List.reverse_reverse] at this
  exact this.1
theorem numT_head (n : Nat) : (numT n).head? ≠ some 48 ∨ (numT n).length = 1 := by
  induction n using Nat.strongRecOn with
  | _ n ih =>
    by_cases h : n < 10
    · right; rw [numT_small h]; rfl
    · left
      rw [numT_big h, List.head?_append]
      have hne := (numT_dig (n / 10)).2.2
      rcases ih (n / 10) (Nat.div_lt_self (by omega) (by omega)) with h1 | h1
      · cases hq : (numT (n / 10)).head? with
        | none => simp at hq; exact absurd hq hne
        | some y => rw [hq] at h1; simpa using h1
      · have hs : n / 10 < 10 := Classical.byContradiction fun hb => by
          rw [numT_big hb, List.length_append] at h1
          have := List.length_pos_iff.2 (numT_dig (n / 10 / 10)).2.2
          simp only [List.length_cons, List.length_nil] at h1
          omega
        rw [numT_small hs]
        have := u8_lt (48 + n / 10) (by omega)
        simp only [List.head?_cons, Option.some_or, ne_eq, Option.some.injEq]
        intro e
        rw [e] at this
        have h48 : (48 : UInt8).toNat = 48 := rfl
        omega

/-! Groups. -/
theorem grpT_run : ∀ (m : Nat) (r : Bs), (grpT m).length ≤ 4 → grpS (grpT m ++ r) 0 0 = grpS r m (grpT m).length := by
  intro m
  induction m using Nat.strongRecOn with
  | _ m ih =>
    intro r hl
    by_cases h : m = 0
    · subst h; rw [grpT_zero]; rfl
    · have e := grpT_pos h
      rw [e] at hl ⊢
      rw [List.length_append] at hl ⊢
      rw [List.append_assoc, ih (m / 128) (Nat.div_lt_self (by omega) (by omega)) _ (by omega)]
      have hx := u8_lt (128 + m % 128) (by omega)
      simp only [List.length_cons, List.length_nil] at hl ⊢
      show grpS (UInt8.ofNat (128 + m % 128) :: r) _ _ = _
      rw [grpS, if_neg (fun hh => ?_), hx, if_neg (by omega), show m / 128 * 128 + (128 + m % 128) % 128 = m by omega]
      rcases hh with ⟨h1, h2⟩ | h1
      · have hm : m / 128 = 0 := Classical.byContradiction fun hq => by
          rw [grpT_pos hq, List.length_append] at h1
          simp at h1
        rw [h2] at hx
        have : (128 : UInt8).toNat = 128 := rfl
        omega
      · omega
theorem grpT_le : ∀ (k n : Nat), n < 128 ^ k → (grpT n).length ≤ k := by
  intro k
  induction k with
  | zero => intro n h; have : n = 0 := by simpa using h
            rw [this, grpT_zero]; exact Nat.le_refl _
  | succ k ih =>
    intro n h
    by_cases h0 : n = 0
    · rw [h0, grpT_zero]; exact Nat.zero_le _
    · rw [grpT_pos h0, List.length_append]
      have := ih (n / 128) (by rw [Nat.div_lt_iff_lt_mul (by decide)]; rw [Nat.pow_succ] at h; exact h)
      simp only [List.length_cons, List.length_nil]
      omega
theorem grpT_ge : ∀ (k n : Nat), 128 ^ k ≤ n → k + 1 ≤ (grpT n).length := by
  intro k
  induction k with
  | zero =>
    intro n h
    have : n ≠ 0 := by have : 1 ≤ n := by simpa using h
                       omega
    rw [grpT_pos this, List.length_append]; simp
  | succ k ih =>
    intro n h
    have h0 : n ≠ 0 := by have : 0 < 128 ^ (k + 1) := Nat.pow_pos (by decide)
                          omega
    rw [grpT_pos h0, List.length_append]
    have := ih (n / 128) (by rw [Nat.le_div_iff_mul_le (by decide)]; rw [Nat.pow_succ] at h; exact h)
    simp only [List.length_cons, List.length_nil]
    omega
theorem grpB_run {n : Nat} (h : n ≤ 2147483647) (r : Bs) : grpS (grpB n ++ r) 0 0 = (grpS r 0 0).map (n :: ·) := by
  have hl := grpT_le 4 (n / 128) (by omega)
  unfold grpB
  have hx := u8_lt (n % 128) (by omega)
  rw [List.append_assoc, grpT_run _ _ hl]
  show grpS (UInt8.ofNat (n % 128) :: r) _ _ = _
  rw [grpS, if_neg (fun hh => ?_), hx, if_pos (by omega), show n / 128 * 128 + n % 128 % 128 = n by omega, if_neg (by omega)]
  rcases hh with ⟨_, h2⟩ | h1
  · rw [h2] at hx
    have : (128 : UInt8).toNat = 128 := rfl
    omega
  · omega
theorem grps_run : ∀ (l : List Nat), (∀ n ∈ l, n ≤ 2147483647) → grpS (l.map grpB).flatten 0 0 = some l
  | [], _ => rfl
  | n :: l, h => by
    rw [List.map_cons, List.flatten_cons, grpB_run (h n (List.mem_cons_self ..)), grps_run l (fun m hm => h m (List.mem_cons_of_mem _ hm))]
    rfl
theorem groups_run {l : List Nat} (hl : l ≠ []) (h : ∀ n ∈ l, n ≤ 2147483647) : groupsS (l.map grpB).flatten = some l := by
  unfold groupsS
  rw [grps_run l h]
  cases l with
  | nil => exact absurd rfl hl
  | cons a r => rfl
theorem grpS_back : ∀ (s : Bs) (n : Nat) (l : List Nat), grpS s n (grpT n).length = some l → (n = 0 ∧ s = [] ∧ l = []) ∨ (grpT n ++ s = (l.map grpB).flatten ∧ l ≠ [] ∧ ∀ m ∈ l, m ≤ 2147483647)
  | [], n, l, h => by
    rw [grpS] at h
    by_cases h0 : (grpT n).length = 0
    · rw [if_pos h0] at h
      have hn : n = 0 := Classical.byContradiction fun hq => by rw [grpT_pos hq, List.length_append] at h0; simp at h0
      exact Or.inl ⟨hn, rfl, (Option.some.inj h).symm⟩
    · rw [if_neg h0] at h; exact absurd h (by simp)
  | b :: r, n, l, h => by
    rw [grpS] at h
    have hb := b.toNat_lt
    by_cases h0 : ((grpT n).length = 0 ∧ b = 128) ∨ (grpT n).length = 5
    · rw [if_pos h0] at h; exact absurd h (by simp)
    rw [if_neg h0] at h
    right
    by_cases h1 : b.toNat < 128
    · rw [if_pos h1] at h
      by_cases h2 : 2147483647 < n * 128 + b.toNat % 128
      · rw [if_pos h2] at h; exact absurd h (by simp)
      rw [if_neg h2] at h
      cases hg : grpS r 0 0 with
      | none => rw [hg] at h; exact absurd h (by simp)
      | some l2 =>
        rw [hg] at h
        have hl : (n * 128 + b.toNat % 128) :: l2 = l := by simpa using h
        subst hl
        have i := grpS_back r 0 l2 (by rw [grpT_zero]; exact hg)
        rw [grpT_zero, List.nil_append] at i
        have hr : r = (l2.map grpB).flatten ∧ ∀ m ∈ l2, m ≤ 2147483647 := by
          rcases i with ⟨_, i1, i2⟩ | ⟨i1, _, i2⟩
          · subst i1; subst i2; exact ⟨rfl, fun m hm => absurd hm List.not_mem_nil⟩
          · exact ⟨i1, i2⟩
        refine ⟨?_, by simp, fun m hm => ?_⟩
        · rw [List.map_cons, List.flatten_cons, ← hr.1]
          unfold grpB
          rw [show (n * 128 + b.toNat % 128) / 128 = n by omega, show (n * 128 + b.toNat % 128) % 128 = b.toNat by omega, u8_back]
          simp
        · rcases List.mem_cons.1 hm with rfl | hm
          · omega
          · exact hr.2 m hm
    · rw [if_neg h1] at h
      have hne : n * 128 + b.toNat % 128 ≠ 0 := by
        intro hq
        have hn : n = 0 := by omega
        rw [hn, grpT_zero] at h0
        have : b.toNat = 128 := by omega
        exact h0 (Or.inl ⟨rfl, by rw [← u8_back b, this]; rfl⟩)
      have e := grpT_pos hne
      rw [show (n * 128 + b.toNat % 128) / 128 = n by omega, show 128 + (n * 128 + b.toNat % 128) % 128 = b.toNat by omega, u8_back] at e
      have i := grpS_back r (n * 128 + b.toNat % 128) l (by rw [e, List.length_append]; exact h)
      rcases i with ⟨i1, _⟩ | i
      · exact absurd i1 hne
      · rw [e] at i
        simpa using i
theorem groups_back {s : Bs} {l : List Nat} (h : groupsS s = some l) : s = (l.map grpB).flatten ∧ l ≠ [] ∧ ∀ m ∈ l, m ≤ 2147483647 := by
  unfold groupsS at h
  cases hg : grpS s 0 0 with
  | none => rw [hg] at h; exact absurd h (by simp)
  | some l2 =>
    rw [hg] at h
    have i := grpS_back s 0 l2 (by rw [grpT_zero]; exact hg)
    rw [grpT_zero, List.nil_append] at i
    cases l2 with
    | nil => simp at h
    | cons a r =>
      have hl : a :: r = l := by simpa using h
      subst hl
      rcases i with ⟨_, _, i⟩ | i
      · exact absurd i (by simp)
      · exact i
theorem num_grp {n : Nat} (h : n ≤ 2147483647) : (numT n).length + 1 ≤ 4 * (grpB n).length ∧ (numT n).length ≤ 10 := by
  have hg : (grpB n).length = (grpT (n / 128)).length + 1 := by unfold grpB; rw [List.length_append]; rfl
  have l10 := numT_len (n := n) (k := 9) (by omega)
  by_cases h1 : n < 128
  · have := numT_len (n := n) (k := 2) (by omega)
    omega
  · have g1 := grpT_ge 0 (n / 128) (by omega)
    by_cases h2 : n < 16384
    · have := numT_len (n := n) (k := 4) (by omega)
      omega
    · have g2 := grpT_ge 1 (n / 128) (by omega)
      by_cases h3 : n < 2097152
      · have := numT_len (n := n) (k := 6) (by omega)
        omega
      · have g3 := grpT_ge 2 (n / 128) (by omega)
        by_cases h4 : n < 268435456
        · have := numT_len (n := n) (k := 8) (by omega)
          omega
        · have g4 := grpT_ge 3 (n / 128) (by omega)
          omega

/-! Words. -/
def joinW : List Bs → Bs
  | [] => []
  | [w] => w
  | w :: v :: l => w ++ 46 :: joinW (v :: l)
theorem split_ne : ∀ s : Bs, splitW s ≠ []
  | [] => by simp [splitW]
  | c :: r => by
    rw [splitW]
    split
    · simp
    · split <;> simp
theorem join_cons (w : Bs) {l : List Bs} (h : l ≠ []) : joinW (w :: l) = w ++ 46 :: joinW l := by
  cases l with
  | nil => exact absurd rfl h
  | cons v r => rfl
theorem join_push (c : UInt8) (w : Bs) (l : List Bs) : joinW ((c :: w) :: l) = c :: joinW (w :: l) := by
  cases l with
  | nil => rfl
  | cons v r => rfl
theorem join_split : ∀ s : Bs, joinW (splitW s) = s
  | [] => rfl
  | c :: r => by
    have ih := join_split r
    rw [splitW]
    by_cases h : c = 46
    · rw [if_pos h, join_cons _ (split_ne r), ih, h]; rfl
    · rw [if_neg h]
      cases hs : splitW r with
      | nil => exact absurd hs (split_ne r)
      | cons w l =>
        simp only
        rw [join_push, ← hs, ih]
theorem split_word : ∀ w : Bs, (46 : UInt8) ∉ w → splitW w = [w]
  | [], _ => rfl
  | c :: r, h => by
    rw [splitW, if_neg (fun e => h (by rw [e]; exact List.mem_cons_self ..)), split_word r (fun hr => h (List.mem_cons_of_mem _ hr))]
theorem split_more : ∀ (w : Bs) (s : Bs), (46 : UInt8) ∉ w → splitW (w ++ 46 :: s) = w :: splitW s
  | [], s, _ => by rw [List.nil_append, splitW, if_pos rfl]
  | c :: r, s, h => by
    rw [List.cons_append, splitW, if_neg (fun e => h (by rw [e]; exact List.mem_cons_self ..)), split_more r s (fun hr => h (List.mem_cons_of_mem _ hr))]
theorem split_join : ∀ (l : List Bs), l ≠ [] → (∀ w ∈ l, (46 : UInt8) ∉ w) → splitW (joinW l) = l
  | [], h, _ => absurd rfl h
  | [w], _, h => split_word w (h w (List.mem_cons_self ..))
  | w :: v :: l, _, h => by
    rw [joinW, split_more w _ (h w (List.mem_cons_self ..)), split_join (v :: l) (by simp) (fun x hx => h x (List.mem_cons_of_mem _ hx))]
theorem numT_no (n : Nat) : (46 : UInt8) ∉ numT n := fun h => by
  have := ((numT_dig n).1 _ h).1
  exact absurd this (by decide)
/-- The words of an OID's text. -/
def textW : List Nat → List Bs
  | [] => []
  | n :: l => numT (topN n) :: numT (n - 40 * topN n) :: l.map numT
theorem text_tail : ∀ (w : Bs) (l : List Nat), joinW (w :: l.map numT) = w ++ tailT l
  | w, [] => by simp [joinW, tailT]
  | w, n :: l => by
    rw [List.map_cons, joinW, text_tail (numT n) l, tailT]
theorem text_join : ∀ {l : List Nat}, l ≠ [] → textT l = joinW (textW l)
  | [], h => absurd rfl h
  | n :: l, _ => by
    rw [textW, joinW, text_tail, textT]
    simp
theorem textW_ne {l : List Nat} (h : l ≠ []) : textW l ≠ [] := by
  cases l with
  | nil => exact absurd rfl h
  | cons n r => simp [textW]
theorem textW_no {l : List Nat} : ∀ w ∈ textW l, (46 : UInt8) ∉ w := by
  cases l with
  | nil => intro w hw; exact absurd hw List.not_mem_nil
  | cons n r =>
    intro w hw
    simp only [textW, List.mem_cons, List.mem_map] at hw
    rcases hw with rfl | rfl | ⟨m, _, rfl⟩ <;> exact numT_no _
theorem text_words {l : List Nat} (h : l ≠ []) : splitW (textT l) = textW l := by
  rw [text_join h, split_join _ (textW_ne h) textW_no]
theorem word_num {n : Nat} (h : n ≤ 2147483647) : wordN (numT n) = n ∧ wordB (numT n) = true := by
  have h1 := (num_grp h).2
  obtain ⟨_, h2, h3⟩ := numT_dig n
  have e : wordN (numT n) = n := by unfold wordN; rw [if_pos ⟨h3, h1⟩, h2]
  refine ⟨e, ?_⟩
  unfold wordB
  rw [e]; simp; omega
theorem top_split {n : Nat} : topN n ≤ 2 ∧ 40 * topN n ≤ n ∧ (topN n < 2 → n - 40 * topN n ≤ 39) := by
  unfold topN
  omega
theorem text_len : ∀ {l : List Nat}, l ≠ [] → (∀ n ∈ l, n ≤ 2147483647) → (textT l).length ≤ 4 * ((l.map grpB).flatten).length
  | [], h, _ => absurd rfl h
  | n :: l, _, h => by
    have hn := h n (List.mem_cons_self ..)
    have ht : ∀ l : List Nat, (∀ n ∈ l, n ≤ 2147483647) → (tailT l).length ≤ 4 * ((l.map grpB).flatten).length := by
      intro l
      induction l with
      | nil => intro _; simp [tailT]
      | cons m r ih =>
        intro h
        have := (num_grp (h m (List.mem_cons_self ..))).1
        have := ih (fun x hx => h x (List.mem_cons_of_mem _ hx))
        rw [tailT, List.map_cons, List.flatten_cons]
        simp only [List.length_append, List.length_cons]
        omega
    have h1 := ht l (fun x hx => h x (List.mem_cons_of_mem _ hx))
    obtain ⟨t1, t2, t3⟩ := top_split (n := n)
    have hx : (numT (topN n)).length ≤ 1 := by rw [numT_small (by omega)]; simp
    have hy : (numT (n - 40 * topN n)).length + 2 ≤ 4 * (grpB n).length := by
      have hg : (grpB n).length = (grpT (n / 128)).length + 1 := by unfold grpB; rw [List.length_append]; rfl
      by_cases q : n < 128
      · have hs : n - 40 * topN n < 100 := by
          by_cases q2 : topN n < 2
          · have := t3 q2; omega
          · omega
        have := numT_len (n := n - 40 * topN n) (k := 1) (by omega)
        omega
      · have g1 := grpT_ge 0 (n / 128) (by omega)
        have hle : n - 40 * topN n ≤ n := by omega
        by_cases h2 : n < 16384
        · have := numT_len (n := n - 40 * topN n) (k := 4) (by omega)
          omega
        · have g2 := grpT_ge 1 (n / 128) (by omega)
          have := numT_len (n := n - 40 * topN n) (k := 9) (by omega)
          omega
    rw [textT, List.map_cons, List.flatten_cons]
    simp only [List.length_append, List.length_cons]
    omega

/-! The laws. -/
theorem isK_iff {v : Dv} {t : Int} : v.isK t = true ↔ v.c = 0 ∧ v.t = t ∧ v.check = 0 := by unfold Dv.isK; simp [and_assoc]
/-- What a primitive value of the class 0 is. -/
theorem prim_ok {v : Dv} {t : Int} (h : v.isK t = true) (ht : consB t = false) : v = ⟨0, t, false, v.b, .nil⟩ ∧ fineS t v.b = true ∧ v.b.length + 2 ≤ v.form.length := by
  obtain ⟨h1, h2, h3⟩ := isK_iff.1 h
  obtain ⟨he, hl⟩ := Dv.check_ok h3
  obtain ⟨c, t', k, b, l⟩ := v
  simp only at h1 h2
  subst h1; subst h2
  unfold Dv.err at he
  simp only at he
  by_cases q1 : headE 0 t' k b l.len 0 ≠ 0
  · rw [if_pos q1] at he; exact absurd he q1
  rw [if_neg q1] at he
  have q1 := Classical.byContradiction q1
  obtain ⟨_, _, _, _, _, g5, _⟩ := head_ok q1
  have hk : k = false := by
    cases k with
    | false => rfl
    | true =>
      unfold headE at q1
      split at q1
      · exact absurd q1 (by decide)
      · rw [if_pos (Or.inl ⟨rfl, by rw [ht]; decide⟩)] at q1; exact absurd q1 (by decide)
  subst hk
  rw [if_pos rfl] at he
  have hf : fineS t' b = true := by
    cases hf : fineS t' b with
    | true => rfl
    | false => rw [if_pos ⟨by trivial, hf⟩] at he; exact absurd he (by decide)
  refine ⟨by rw [len_nil (g5 rfl)], hf, ?_⟩
  show b.length + 2 ≤ (wholeS 0 t' false (if false = true then _ else b)).length
  unfold wholeS
  have := (lenS_len b.length).1
  simp only [Bool.false_eq_true, if_false, List.length_cons, List.length_append]
  omega
theorem fine_oid (s : Bs) : fineS 6 s = (groupsS s).isSome := rfl
theorem oid_ok {v : Dv} {a : Bs} (h : oidS v = (a, 0)) : ∃ g, v = oidV (g.map grpB).flatten ∧ g ≠ [] ∧ (∀ n ∈ g, n ≤ 2147483647) ∧ groupsS v.b = some g ∧ a = textT g ∧ v.isK 6 = true ∧ v.b.length + 2 ≤ 16384 := by
  unfold oidS at h
  by_cases hk : v.isK 6 = true
  · rw [if_pos hk] at h
    injection h with h _
    obtain ⟨p1, p2, p3⟩ := prim_ok hk (by decide)
    rw [fine_oid] at p2
    obtain ⟨g, hg⟩ := Option.isSome_iff_exists.1 p2
    obtain ⟨g1, g2, g3⟩ := groups_back hg
    have hl := (Dv.check_ok (isK_iff.1 hk).2.2).2
    refine ⟨g, ?_, g2, g3, hg, ?_, hk, by omega⟩
    · rw [← g1]; exact p1
    · rw [hg] at h; exact h.symm
  · rw [if_neg hk] at h; exact absurd h (by simp)
theorem oid_of {v : Dv} {a : Bs} (h : oidS v = (a, 0)) : ofOidS a = (v, 0) := by
  obtain ⟨g, hv, hg, hb, hgs, ha, _, hl⟩ := oid_ok h
  have hw := text_words hg
  have hlen := text_len hg hb
  rw [ha] at h ⊢
  unfold ofOidS
  simp only
  rw [hw]
  match g, hg with
  | n :: l, _ =>
    obtain ⟨t1, t2, t3⟩ := top_split (n := n)
    have hn := hb n (List.mem_cons_self ..)
    have w1 := word_num (n := topN n) (by omega)
    have w2 := word_num (n := n - 40 * topN n) (by omega)
    have w3 : ∀ m ∈ l, wordN (numT m) = m ∧ wordB (numT m) = true := fun m hm => word_num (hb m (List.mem_cons_of_mem _ hm))
    rw [if_neg]
    · have hval : (textW (n :: l)).map (fun w => (wordN w).toNat) = topN n :: (n - 40 * topN n) :: l := by
        rw [textW, List.map_cons, List.map_cons, w1.1, w2.1, List.map_map]
        simp only [Int.toNat_natCast, List.cons.injEq, true_and]
        calc l.map _ = l.map id := List.map_congr_left fun m hm => by simp [(w3 m hm).1]
          _ = l := List.map_id l
      rw [hval]
      have hbs : oidBs (topN n :: (n - 40 * topN n) :: l) = ((n :: l).map grpB).flatten := by
        rw [oidBs, Nat.min_eq_left (by omega), show 40 * topN n + (n - 40 * topN n) = n by omega]; rfl
      rw [hbs, ← hv, if_pos h]
    · intro hq
      rcases hq with hq | hq | hq
      · simp [textW] at hq; omega
      · have : v.b = ((n :: l).map grpB).flatten := by rw [hv]; rfl
        rw [this] at hl
        omega
      · have : (textW (n :: l)).all wordB = true := by
          rw [List.all_eq_true]
          intro w hw
          simp only [textW, List.mem_cons, List.mem_map] at hw
          rcases hw with rfl | rfl | ⟨m, hm, rfl⟩
          · exact w1.2
          · exact w2.2
          · exact (w3 m hm).2
        rw [this] at hq; exact absurd hq (by decide)
theorem of_oid {s : Bs} {x : Dv} (h : ofOidS s = (x, 0)) : oidS x = (s, 0) := by
  unfold ofOidS at h
  simp only at h
  split at h
  · exact absurd h (by simp)
  · split at h
    · next hq => injection h with h _; rw [← h]; exact hq
    · exact absurd h (by simp)
theorem ofoid_fell {s : Bs} {x : Dv} {e : Int} (h : ofOidS s = (x, e)) : (e = 0) ∨ (e = 61 ∧ x = .zero) := by
  unfold ofOidS at h
  simp only at h
  split at h
  · injection h with h1 h2; exact Or.inr ⟨h2.symm, h1.symm⟩
  · split at h
    · injection h with h1 h2; exact Or.inl h2.symm
    · injection h with h1 h2; exact Or.inr ⟨h2.symm, h1.symm⟩

/-! The document's. -/
def wordR (w : Bs) : Bool := !(w.isEmpty || decide (10 < w.length) || decide (digS w < 0) || (w.head? == some 48 && decide (1 < w.length)) || decide (2147483647 < digS w))
def ofOidR (s : Bs) : Dv × Int :=
  if (splitW s).all wordR = false then (.zero, 61)
  else match (splitW s).map (fun w => (digS w).toNat) with
    | a :: b :: r => if 2 < a ∨ (a < 2 ∧ 39 < b) ∨ 2147483647 < 40 * a + b then (.zero, 61)
      else if (oidV (grpB (40 * a + b) ++ (r.map grpB).flatten)).check ≠ 0 then (.zero, 61) else (oidV (grpB (40 * a + b) ++ (r.map grpB).flatten), 0)
    | _ => (.zero, 61)
theorem wordR_of {w : Bs} (h : wordR w = true) : w = numT (digS w).toNat ∧ wordN w = digS w ∧ wordB w = true ∧ digS w ≤ 2147483647 := by
  unfold wordR at h
  simp only [Bool.not_eq_true', Bool.or_eq_false_iff, decide_eq_false_iff_not, Bool.and_eq_false_iff, beq_eq_false_iff_ne, List.isEmpty_eq_false_iff] at h
  obtain ⟨⟨⟨⟨h1, h2⟩, h3⟩, h4⟩, h5⟩ := h
  have hd := (digS_iff w).1 (by omega)
  have hpos := List.length_pos_iff.2 h1
  have e : wordN w = digS w := by unfold wordN; rw [if_pos ⟨h1, by omega⟩]
  refine ⟨(numT_back w h1 hd ?_).symm, e, ?_, by omega⟩
  · rcases h4 with h4 | h4
    · exact Or.inl h4
    · exact Or.inr (by omega)
  · unfold wordB; rw [e]; simp; omega
theorem num_wordR {n : Nat} (h : n ≤ 2147483647) : wordR (numT n) = true := by
  have h1 := (num_grp h).2
  obtain ⟨_, h2, h3⟩ := numT_dig n
  have h4 := numT_head n
  unfold wordR
  rw [h2]
  simp only [Bool.not_eq_true', Bool.or_eq_false_iff, decide_eq_false_iff_not, Bool.and_eq_false_iff, beq_eq_false_iff_ne, List.isEmpty_eq_false_iff]
  refine ⟨⟨⟨⟨h3, by omega⟩, by omega⟩, ?_⟩, by omega⟩
  rcases h4 with h4 | h4
  · exact Or.inl h4
  · exact Or.inr (by omega)
/-- What the program takes. -/
theorem oids_words {s : Bs} {x : Dv} (h : oidS x = (s, 0)) : ∃ n l, splitW s = textW (n :: l) ∧ n ≤ 2147483647 ∧ (∀ m ∈ l, m ≤ 2147483647) ∧ (splitW s).all wordR = true := by
  obtain ⟨g, hv, hg, hb, _, ha, _, _⟩ := oid_ok h
  match g, hg with
  | n :: l, hg =>
    have hw := text_words hg
    have hn := hb n (List.mem_cons_self ..)
    obtain ⟨t1, t2, t3⟩ := top_split (n := n)
    rw [ha]
    refine ⟨n, l, hw, hn, fun m hm => hb m (List.mem_cons_of_mem _ hm), ?_⟩
    rw [hw, List.all_eq_true]
    intro w hw
    simp only [textW, List.mem_cons, List.mem_map] at hw
    rcases hw with rfl | rfl | ⟨m, hm, rfl⟩
    · exact num_wordR (by omega)
    · exact num_wordR (by omega)
    · exact num_wordR (hb m (List.mem_cons_of_mem _ hm))
theorem numT_inj {a b : Nat} (h : numT a = numT b) : a = b := by
  have h1 := (numT_dig a).2.1
  have h2 := (numT_dig b).2.1
  rw [h, h2] at h1
  omega
theorem oid_vform (b : Bs) : (oidV b).err 0 = if fineS 6 b = false then 61 else 0 := by
  show (if headE 0 6 false b 0 0 ≠ 0 then headE 0 6 false b 0 0 else if false = false then (if (0 : Int) = 0 ∧ fineS 6 b = false then (61 : Int) else 0) else _) = _
  rw [show headE 0 6 false b 0 0 = 0 by
    unfold headE
    rw [if_neg (by decide), if_neg (by simp [consB]), if_neg (by simp)], if_neg (by decide), if_pos rfl]
  by_cases h : fineS 6 b = false
  · rw [if_pos ⟨rfl, h⟩, if_pos h]
  · rw [if_neg (fun hh => h hh.2), if_neg h]
theorem oid_zform (b : Bs) : b.length + 2 ≤ (oidV b).form.length := by
  show b.length + 2 ≤ (wholeS 0 6 false (if false = true then _ else b)).length
  unfold wholeS
  have := (lenS_len b.length).1
  simp only [Bool.false_eq_true, if_false, List.length_cons, List.length_append]
  omega
/-- The program's OID of a text is the document's. -/
theorem ofoid_same (s : Bs) : ofOidR s = ofOidS s := by
  by_cases hR : (splitW s).all wordR = true
  · have hne := split_ne s
    have hws : ∀ w ∈ splitW s, wordR w = true := List.all_eq_true.1 hR
    obtain ⟨L, hL⟩ : ∃ L, L = (splitW s).map (fun w => (digS w).toNat) := ⟨_, rfl⟩
    have hWL : splitW s = L.map numT := by
      rw [hL, List.map_map]
      exact ((List.map_congr_left fun w hw => (wordR_of (hws w hw)).1.symm).trans (List.map_id _)).symm
    have hLb : ∀ n ∈ L, n ≤ 2147483647 := by
      intro n hn
      rw [hL] at hn
      obtain ⟨w, hw, rfl⟩ := List.mem_map.1 hn
      have := (wordR_of (hws w hw)).2.2.2
      omega
    have hB : (splitW s).all wordB = true := List.all_eq_true.2 fun w hw => (wordR_of (hws w hw)).2.2.1
    have hN : (splitW s).map (fun w => (wordN w).toNat) = L := by
      rw [hL]; exact List.map_congr_left fun w hw => by rw [(wordR_of (hws w hw)).2.1]
    unfold ofOidR
    rw [if_neg (by rw [hR]; decide), ← hL]
    unfold ofOidS
    simp only
    rw [hN, hB]
    have hlenL : (splitW s).length = L.length := by rw [hL, List.length_map]
    match L, hLb with
    | [], _ => exact absurd (by rw [hWL]; rfl) hne
    | [a], _ => simp only; rw [if_pos (Or.inl (by rw [hlenL]; simp))]
    | a :: b :: r, hLb =>
      simp only
      have ha := hLb a (by simp)
      have hb := hLb b (by simp)
      have hr : ∀ m ∈ r, m ≤ 2147483647 := fun m hm => hLb m (by simp [hm])
      by_cases hbad : 2 < a ∨ (a < 2 ∧ 39 < b) ∨ 2147483647 < 40 * a + b
      · rw [if_pos hbad]
        have hno : oidS (oidV (oidBs (a :: b :: r))) ≠ (s, 0) := fun hh => by
          obtain ⟨n, l, hw, hn, _, _⟩ := oids_words hh
          rw [hWL, textW, List.map_cons, List.map_cons] at hw
          simp only [List.cons.injEq] at hw
          have e1 := numT_inj hw.1
          have e2 := numT_inj hw.2.1
          obtain ⟨t1, t2, t3⟩ := top_split (n := n)
          rw [← e1] at t1 t2 t3 e2
          omega
        rw [if_neg hno]
        split <;> rfl
      · rw [if_neg hbad]
        have e0 : oidBs (a :: b :: r) = grpB (40 * a + b) ++ (r.map grpB).flatten := by rw [oidBs, Nat.min_eq_left (by omega)]
        have e1 : grpB (40 * a + b) ++ (r.map grpB).flatten = (((40 * a + b) :: r).map grpB).flatten := rfl
        have hall : ∀ m ∈ (40 * a + b) :: r, m ≤ 2147483647 := fun m hm => by
          rcases List.mem_cons.1 hm with rfl | hm
          · omega
          · exact hr m hm
        have hg := groups_run (l := (40 * a + b) :: r) (by simp) hall
        have htop : topN (40 * a + b) = a := by unfold topN; omega
        have htext : textT ((40 * a + b) :: r) = s := by
          rw [text_join (by simp), textW, htop, show 40 * a + b - 40 * a = b by omega]
          have := join_split s
          rw [hWL] at this
          exact this
        have hlen := text_len (l := (40 * a + b) :: r) (by simp) hall
        rw [htext] at hlen
        rw [e0, e1]
        obtain ⟨d, hd⟩ : ∃ d, d = oidV (((40 * a + b) :: r).map grpB).flatten := ⟨_, rfl⟩
        have hzf := oid_zform (((40 * a + b) :: r).map grpB).flatten
        rw [← hd] at hzf ⊢
        have hdb : d.b = (((40 * a + b) :: r).map grpB).flatten := by rw [hd]; rfl
        have hos : oidS d = if d.check = 0 then (s, 0) else ([], 65) := by
          unfold oidS
          have hk : d.isK 6 = (d.check == 0) := by
            unfold Dv.isK; rw [hd]; rfl
          rw [hk, hdb, hg]
          by_cases hc : d.check = 0
          · rw [if_pos (by rw [hc]; rfl), if_pos hc]
            show (textT ((40 * a + b) :: r), (0 : Int)) = _
            rw [htext]
          · rw [if_neg (by simpa using hc), if_neg hc]
        by_cases hc : d.check = 0
        · rw [if_neg (by rw [hc]; decide), hos, if_pos hc]
          have := (Dv.check_ok hc).2
          rw [if_neg, if_pos rfl]
          intro hq
          rcases hq with hq | hq | hq
          · rw [hlenL] at hq; simp at hq; omega
          · omega
          · exact absurd hq (by decide)
        · rw [if_pos hc, hos, if_neg hc]
          split
          · rfl
          · rw [if_neg (by simp)]
  · have hR2 : (splitW s).all wordR = false := by simpa using hR
    unfold ofOidR
    rw [if_pos hR2]
    have hno : ∀ d, oidS d ≠ (s, 0) := fun d hh => by
      obtain ⟨_, _, _, _, _, h⟩ := oids_words hh
      exact hR h
    unfold ofOidS
    simp only
    split
    · rfl
    · rw [if_neg (hno _)]
end Go.Proofs.YtebhiplcoioenaaGreatDoor
/- Times: their numbers, there and back. Plain. -/
namespace Go.Proofs.YtebhiplcoioenaaGreatDoor

theorem leap_iff (y : Nat) : leapB y = true ↔ (y % 4 = 0 ∧ y % 100 ≠ 0) ∨ y % 400 = 0 := by unfold leapB; simp
theorem years_closed : ∀ y : Nat, yearsS y + (y + 99) / 100 = 365 * y + (y + 3) / 4 + (y + 399) / 400
  | 0 => rfl
  | y + 1 => by
    have ih := years_closed y
    rw [yearsS]
    by_cases h : leapB y = true
    · rw [if_pos h]
      have := (leap_iff y).1 h
      omega
    · rw [if_neg h]
      have : ¬ ((y % 4 = 0 ∧ y % 100 ≠ 0) ∨ y % 400 = 0) := fun hh => h ((leap_iff y).2 hh)
      omega
theorem years_1970 : yearsS 1970 = 719528 := by have := years_closed 1970; omega
theorem years_10000 : yearsS 10000 = 3652425 := by have := years_closed 10000; omega
theorem day_1970 : dayS 1970 1 = 719528 := by unfold dayS; rw [years_1970]; rfl
theorem years_step (y : Nat) : yearsS y + 365 ≤ yearsS (y + 1) ∧ yearsS (y + 1) ≤ yearsS y + 366 := by
  rw [yearsS]; split <;> omega
theorem years_mono {a b : Nat} (h : a ≤ b) : yearsS a ≤ yearsS b := by
  induction h with
  | refl => exact Nat.le_refl _
  | @step m _ ih => exact Nat.le_trans ih (Nat.le_trans (Nat.le_add_right _ 365) (years_step m).1)
theorem months_12 (y : Nat) : monthsS y 12 + lenM y 12 = if leapB y then 366 else 365 := by
  cases h : leapB y <;> simp [monthsS, lenM, h]
theorem lenM_pos (y m : Nat) : 28 ≤ lenM y m ∧ lenM y m ≤ 31 := by
  unfold lenM
  split
  · omega
  · split
    · split <;> omega
    · omega
theorem months_step (y m : Nat) (h : 1 ≤ m) : monthsS y (m + 1) = monthsS y m + lenM y m := by
  cases m with
  | zero => omega
  | succ m => rfl
theorem months_mono (y : Nat) {a b : Nat} (h1 : 1 ≤ a) (h : a ≤ b) : monthsS y a ≤ monthsS y b := by
  induction h with
  | refl => exact Nat.le_refl _
  | @step m hm ih => exact Nat.le_trans ih (by rw [months_step y m (Nat.le_trans h1 hm)]; omega)
/-- A date within its year. -/
theorem date_in {y m d : Nat} (h1 : 1 ≤ m) (h2 : m ≤ 12) (h3 : 1 ≤ d) (h4 : d ≤ lenM y m) : yearsS y ≤ dayS y m + (d - 1) ∧ dayS y m + (d - 1) < yearsS (y + 1) := by
  have := months_12 y
  have h5 := months_mono y (a := m + 1) (b := 13) (by omega) (by omega)
  rw [months_step y m h1, months_step y 12 (by omega)] at h5
  unfold dayS
  rw [yearsS]
  split at this <;> rename_i hl
  · rw [if_pos hl]; omega
  · rw [if_neg hl]; omega
/-- The year of a day; the month of a day of a year. -/
def yearF : Nat → Nat → Nat → Nat
  | 0, y, _ => y
  | f + 1, y, n => if yearsS (y + 1) ≤ n then yearF f (y + 1) n else y
def monthF : Nat → Nat → Nat → Nat → Nat
  | 0, _, m, _ => m
  | f + 1, y, m, r => if monthsS y (m + 1) ≤ r then monthF f y (m + 1) r else m
theorem yearF_is {y n : Nat} (h1 : yearsS y ≤ n) (h2 : n < yearsS (y + 1)) : ∀ f y0, y0 ≤ y → y - y0 ≤ f → yearF f y0 n = y
  | 0, y0, h3, h4 => by rw [yearF]; omega
  | f + 1, y0, h3, h4 => by
    rw [yearF]
    by_cases h : y0 = y
    · subst h; rw [if_neg (by omega)]
    · have := years_mono (a := y0 + 1) (b := y) (by omega)
      rw [if_pos (by omega)]
      exact yearF_is h1 h2 f (y0 + 1) (by omega) (by omega)
theorem monthF_is {y m r : Nat} (hm : 1 ≤ m) (h1 : monthsS y m ≤ r) (h2 : r < monthsS y (m + 1)) : ∀ f m0, 1 ≤ m0 → m0 ≤ m → m - m0 ≤ f → monthF f y m0 r = m
  | 0, m0, _, h3, h4 => by rw [monthF]; omega
  | f + 1, m0, h0, h3, h4 => by
    rw [monthF]
    by_cases h : m0 = m
    · subst h; rw [if_neg (by omega)]
    · have := months_mono y (a := m0 + 1) (b := m) (by omega) (by omega)
      rw [if_pos (by omega)]
      exact monthF_is hm h1 h2 f (m0 + 1) (by omega) (by omega) (by omega)
def yearOf (n : Nat) : Nat := yearF 10000 0 n
def monthOf (n : Nat) : Nat := monthF 11 (yearOf n) 1 (n - yearsS (yearOf n))
def dateOf (n : Nat) : Nat := n - dayS (yearOf n) (monthOf n) + 1
theorem year_is {y n : Nat} (hy : y < 10000) (h1 : yearsS y ≤ n) (h2 : n < yearsS (y + 1)) : yearOf n = y := yearF_is h1 h2 10000 0 (Nat.zero_le _) (by omega)
theorem date_is {y m d : Nat} (hy : y < 10000) (h1 : 1 ≤ m) (h2 : m ≤ 12) (h3 : 1 ≤ d) (h4 : d ≤ lenM y m) :
    yearOf (dayS y m + (d - 1)) = y ∧ monthOf (dayS y m + (d - 1)) = m ∧ dateOf (dayS y m + (d - 1)) = d := by
  obtain ⟨a1, a2⟩ := date_in h1 h2 h3 h4
  have e1 := year_is hy a1 a2
  have e2 : monthOf (dayS y m + (d - 1)) = m := by
    unfold monthOf
    rw [e1]
    refine monthF_is h1 ?_ ?_ 11 1 (Nat.le_refl _) h1 (by omega)
    · unfold dayS; omega
    · rw [months_step y m h1]; unfold dayS; omega
  refine ⟨e1, e2, ?_⟩
  unfold dateOf
  rw [e1, e2]; omega
/-- Each day has a date. -/
theorem has_date {n : Nat} (h : n < yearsS 10000) : ∃ y m d, y < 10000 ∧ 1 ≤ m ∧ m ≤ 12 ∧ 1 ≤ d ∧ d ≤ lenM y m ∧ n = dayS y m + (d - 1) := by
  have hy : ∃ y, y < 10000 ∧ yearsS y ≤ n ∧ n < yearsS (y + 1) := by
    have key : ∀ k, n < yearsS k → ∃ y, y < k ∧ yearsS y ≤ n ∧ n < yearsS (y + 1) := by
      intro k
      induction k with
      | zero => intro h; exact absurd h (Nat.not_lt_zero _)
      | succ k ih =>
        intro hk
        rcases Nat.lt_or_ge n (yearsS k) with h1 | h1
        · obtain ⟨y, g1, g2⟩ := ih h1; exact ⟨y, by omega, g2⟩
        · exact ⟨k, by omega, h1, hk⟩
    exact key 10000 h
  obtain ⟨y, hy, h1, h2⟩ := hy
  have hm : ∃ m, 1 ≤ m ∧ m ≤ 12 ∧ monthsS y m ≤ n - yearsS y ∧ n - yearsS y < monthsS y (m + 1) := by
    have key : ∀ k, 1 ≤ k → n - yearsS y < monthsS y (k + 1) → ∃ m, 1 ≤ m ∧ m ≤ k ∧ monthsS y m ≤ n - yearsS y ∧ n - yearsS y < monthsS y (m + 1) := by
      intro k
      induction k with
      | zero => intro h; omega
      | succ k ih =>
        intro _ hk
        rcases Nat.lt_or_ge (n - yearsS y) (monthsS y (k + 1)) with g | g
        · rcases Nat.eq_zero_or_pos k with hk0 | hk0
          · subst hk0
            exact absurd g (Nat.not_lt_zero _)
          · obtain ⟨m, g1, g2, g3⟩ := ih hk0 g; exact ⟨m, g1, by omega, g3⟩
        · exact ⟨k + 1, by omega, Nat.le_refl _, g, hk⟩
    refine key 12 (by omega) ?_
    rw [months_step y 12 (by omega), months_12]
    rw [yearsS] at h2
    split at h2 <;> rename_i hl
    · rw [if_pos hl]; omega
    · rw [if_neg hl]; omega
  obtain ⟨m, m1, m2, m3, m4⟩ := hm
  rw [months_step y m m1] at m4
  refine ⟨y, m, n - yearsS y - monthsS y m + 1, hy, m1, m2, by omega, by omega, ?_⟩
  unfold dayS; omega

def twoT (n : Nat) : Bs := [UInt8.ofNat (48 + n / 10), UInt8.ofNat (48 + n % 10)]
/-- A time's fifteen signs. -/
def signsT (y m d s : Nat) : Bs := twoT (y / 100) ++ (twoT (y % 100) ++ (twoT m ++ (twoT d ++ (twoT (s / 3600) ++ (twoT (s / 60 % 60) ++ (twoT (s % 60) ++ [90]))))))
def utcV (b : Bs) : Dv := ⟨0, 23, false, b, .nil⟩
def timV (b : Bs) : Dv := ⟨0, 24, false, b, .nil⟩
def timeV (y m d s : Nat) : Dv := if 1950 ≤ y ∧ y ≤ 2049 then utcV ((signsT y m d s).drop 2) else timV (signsT y m d s)
/-- The time of a number. -/
def ofTimeS (t : Int) : Dv × Int :=
  if t < -62167219200 ∨ 253402300800 ≤ t then (.zero, 61)
  else
    let u := (t + 62167219200).toNat
    (timeV (yearOf (u / 86400)) (monthOf (u / 86400)) (dateOf (u / 86400)) (u % 86400), 0)
/-- A time's number. -/
def timeN (v : Dv) : Int × Int := if v.isK 23 = true ∨ v.isK 24 = true then ((momentS v.t v.b).getD 0, 0) else (0, 65)

theorem two_dig {n : Nat} (h : n < 100) : (∀ c ∈ twoT n, 48 ≤ c.toNat ∧ c.toNat ≤ 57) ∧ digS (twoT n) = n := by
  have h1 := u8_lt (48 + n / 10) (by omega)
  have h2 := u8_lt (48 + n % 10) (by omega)
  unfold twoT
  refine ⟨fun c hc => ?_, ?_⟩
  · simp only [List.mem_cons, List.not_mem_nil, or_false] at hc
    rcases hc with rfl | rfl
    · rw [h1]; omega
    · rw [h2]; omega
  · unfold digS
    rw [digF, h1, if_neg (by omega), digF, h2, if_neg (by omega), digF]; omega
theorem two_len (n : Nat) : (twoT n).length = 2 := rfl
theorem four_dig {y : Nat} (h : y < 10000) : digS (twoT (y / 100) ++ twoT (y % 100)) = y := by
  obtain ⟨a1, a2⟩ := two_dig (n := y / 100) (by omega)
  obtain ⟨b1, b2⟩ := two_dig (n := y % 100) (by omega)
  have h1 := u8_lt (48 + y % 100 / 10) (by omega)
  have h2 := u8_lt (48 + y % 100 % 10) (by omega)
  unfold digS at a2 ⊢
  rw [digF_app _ _ a1, a2]
  unfold twoT
  rw [digF, h1, if_neg (by omega), digF, h2, if_neg (by omega), digF]; omega
theorem signs_len (y m d s : Nat) : (signsT y m d s).length = 15 := rfl
theorem signs_moment {y m d s : Nat} (hy : y < 10000) (h1 : 1 ≤ m) (h2 : m ≤ 12) (h3 : 1 ≤ d) (h4 : d ≤ lenM y m) (h5 : s < 86400) :
    longS (signsT y m d s) = some (86400 * ((dayS y m + (d - 1) : Nat) : Int) + s - 62167219200) := by
  have h31 := (lenM_pos y m).2
  unfold longS
  have e4 : (signsT y m d s).take 4 = twoT (y / 100) ++ twoT (y % 100) := rfl
  have e6 : ((signsT y m d s).drop 4).take 2 = twoT m := rfl
  have e8 : ((signsT y m d s).drop 6).take 2 = twoT d := rfl
  have e10 : ((signsT y m d s).drop 8).take 2 = twoT (s / 3600) := rfl
  have e12 : ((signsT y m d s).drop 10).take 2 = twoT (s / 60 % 60) := rfl
  have e14 : ((signsT y m d s).drop 12).take 2 = twoT (s % 60) := rfl
  have e15 : (signsT y m d s).take 14 = twoT (y / 100) ++ (twoT (y % 100) ++ (twoT m ++ (twoT d ++ (twoT (s / 3600) ++ (twoT (s / 60 % 60) ++ twoT (s % 60)))))) := rfl
  have hdig : 0 ≤ digS ((signsT y m d s).take 14) := by
    rw [digS_iff, e15]
    intro c hc
    simp only [List.mem_append] at hc
    rcases hc with hc | hc | hc | hc | hc | hc | hc
    · exact (two_dig (n := y / 100) (by omega)).1 c hc
    · exact (two_dig (n := y % 100) (by omega)).1 c hc
    · exact (two_dig (n := m) (by omega)).1 c hc
    · exact (two_dig (n := d) (by omega)).1 c hc
    · exact (two_dig (n := s / 3600) (by omega)).1 c hc
    · exact (two_dig (n := s / 60 % 60) (by omega)).1 c hc
    · exact (two_dig (n := s % 60) (by omega)).1 c hc
  rw [if_neg (fun hh => by
    rcases hh with hh | hh | hh
    · exact hh rfl
    · exact hh rfl
    · omega)]
  rw [e4, e6, e8, e10, e12, e14, four_dig hy, (two_dig (n := m) (by omega)).2, (two_dig (n := d) (by omega)).2, (two_dig (n := s / 3600) (by omega)).2, (two_dig (n := s / 60 % 60) (by omega)).2, (two_dig (n := s % 60) (by omega)).2]
  simp only [Int.toNat_natCast]
  unfold timeS
  rw [if_neg (by omega), day_1970]
  congr 1
  omega
theorem dig_two {a b : UInt8} (ha : 48 ≤ a.toNat ∧ a.toNat ≤ 57) (hb : 48 ≤ b.toNat ∧ b.toNat ≤ 57) : ∃ n : Nat, n < 100 ∧ digS [a, b] = n ∧ [a, b] = twoT n := by
  refine ⟨10 * (a.toNat - 48) + (b.toNat - 48), by omega, ?_, ?_⟩
  · unfold digS
    rw [digF, if_neg (by omega), digF, if_neg (by omega), digF]; omega
  · unfold twoT
    rw [show 48 + (10 * (a.toNat - 48) + (b.toNat - 48)) / 10 = a.toNat by omega, show 48 + (10 * (a.toNat - 48) + (b.toNat - 48)) % 10 = b.toNat by omega, u8_back, u8_back]
/-- What has a number is a time's signs. -/
theorem moment_signs {s : Bs} {a : Int} (h : longS s = some a) : ∃ y m d z, y < 10000 ∧ 1 ≤ m ∧ m ≤ 12 ∧ 1 ≤ d ∧ d ≤ lenM y m ∧ z < 86400 ∧ s = signsT y m d z ∧ a = 86400 * ((dayS y m + (d - 1) : Nat) : Int) + z - 62167219200 := by
  unfold longS at h
  by_cases hc : s.length ≠ 15 ∨ s[14]? ≠ some 90 ∨ digS (s.take 14) < 0
  · rw [if_pos hc] at h; exact absurd h (by simp)
  rw [if_neg hc] at h
  have hl : s.length = 15 := by omega
  have h14 : s[14]? = some 90 := Classical.byContradiction fun hq => hc (Or.inr (Or.inl hq))
  have hd := (digS_iff (s.take 14)).1 (by omega)
  match s, hl with
  | [c0, c1, c2, c3, c4, c5, c6, c7, c8, c9, c10, c11, c12, c13, c14], _ =>
    have hz : c14 = 90 := by simpa using h14
    simp only [List.take_succ_cons, List.take_zero, List.drop_succ_cons, List.drop_zero, List.mem_cons, List.not_mem_nil, or_false, forall_eq_or_imp, forall_eq] at h hd
    obtain ⟨d0, d1, d2, d3, d4, d5, d6, d7, d8, d9, d10, d11, d12, d13⟩ := hd
    obtain ⟨n0, l0, e0, t0⟩ := dig_two d0 d1
    obtain ⟨n1, l1, e1, t1⟩ := dig_two d2 d3
    obtain ⟨n2, l2, e2, t2⟩ := dig_two d4 d5
    obtain ⟨n3, l3, e3, t3⟩ := dig_two d6 d7
    obtain ⟨n4, l4, e4, t4⟩ := dig_two d8 d9
    obtain ⟨n5, l5, e5, t5⟩ := dig_two d10 d11
    obtain ⟨n6, l6, e6, t6⟩ := dig_two d12 d13
    have hy : digS [c0, c1, c2, c3] = (100 * n0 + n1 : Nat) := by
      have := four_dig (y := 100 * n0 + n1) (by omega)
      rw [show (100 * n0 + n1) / 100 = n0 by omega, show (100 * n0 + n1) % 100 = n1 by omega, ← t0, ← t1] at this
      exact this
    rw [hy, e2, e3, e4, e5, e6] at h
    simp only [Int.toNat_natCast] at h
    unfold timeS at h
    by_cases hb : n2 < 1 ∨ 12 < n2 ∨ n3 < 1 ∨ lenM (100 * n0 + n1) n2 < n3 ∨ 23 < n4 ∨ 59 < n5 ∨ 59 < n6
    · rw [if_pos hb] at h; exact absurd h (by simp)
    rw [if_neg hb, day_1970] at h
    have h := Option.some.inj h
    refine ⟨100 * n0 + n1, n2, n3, 3600 * n4 + 60 * n5 + n6, by omega, by omega, by omega, by omega, by omega, by omega, ?_, by omega⟩
    unfold signsT
    rw [show (100 * n0 + n1) / 100 = n0 by omega, show (100 * n0 + n1) % 100 = n1 by omega, show (3600 * n4 + 60 * n5 + n6) / 3600 = n4 by omega, show (3600 * n4 + 60 * n5 + n6) / 60 % 60 = n5 by omega, show (3600 * n4 + 60 * n5 + n6) % 60 = n6 by omega, ← t0, ← t1, ← t2, ← t3, ← t4, ← t5, ← t6, hz]
    rfl
theorem utc_cent {y m d z : Nat} (h1 : 1950 ≤ y) (h2 : y ≤ 2049) : (if (53 : UInt8) ≤ ((signsT y m d z).drop 2).headD 0 then ([49, 57] : Bs) else [50, 48]) ++ (signsT y m d z).drop 2 = signsT y m d z := by
  have e : ((signsT y m d z).drop 2).headD 0 = UInt8.ofNat (48 + y % 100 / 10) := rfl
  have es : signsT y m d z = twoT (y / 100) ++ (signsT y m d z).drop 2 := rfl
  have hn := u8_lt (48 + y % 100 / 10) (by omega)
  rw [e]
  by_cases h : y < 2000
  · have hy : y / 100 = 19 := by omega
    have : (53 : UInt8) ≤ UInt8.ofNat (48 + y % 100 / 10) := by
      rw [UInt8.le_iff_toNat_le, hn]
      show 53 ≤ _
      omega
    rw [if_pos this]
    conv => rhs; rw [es, hy]
    rfl
  · have hy : y / 100 = 20 := by omega
    have : ¬ (53 : UInt8) ≤ UInt8.ofNat (48 + y % 100 / 10) := by
      rw [UInt8.le_iff_toNat_le, hn]
      show ¬ 53 ≤ _
      omega
    rw [if_neg this]
    conv => rhs; rw [es, hy]
    rfl
theorem prim_check {t : Int} {b : Bs} (ht : thereB t = true) (hc : consB t = false) (h0 : 0 ≤ t) (h1 : t ≤ 30) (hf : fineS t b = true) (hl : b.length < 128) : (⟨0, t, false, b, .nil⟩ : Dv).check = 0 := by
  have hh : headE 0 t false b 0 0 = 0 := by
    unfold headE
    rw [if_neg (by rw [ht]; simp; omega), if_neg (by rw [hc]; simp), if_neg (by simp)]
  refine Dv.ok_check ?_ ?_
  · show (if headE 0 t false b 0 0 ≠ 0 then headE 0 t false b 0 0 else if false = false then (if (0 : Int) = 0 ∧ fineS t b = false then (61 : Int) else 0) else _) = 0
    rw [hh, if_neg (by decide), if_pos rfl, if_neg (by rw [hf]; simp)]
  · show (wholeS 0 t false (if false = true then _ else b)).length ≤ 16384
    unfold wholeS
    have := (lenS_len b.length).2
    simp only [Bool.false_eq_true, if_false, List.length_cons, List.length_append]
    omega
theorem fine_utc (b : Bs) : fineS 23 b = (momentS 23 b).isSome := rfl
theorem fine_tim (b : Bs) : fineS 24 b = (momentS 24 b).isSome := rfl
/-- A date's value: its number. -/
theorem timeV_num {y m d z : Nat} (hy : y < 10000) (h1 : 1 ≤ m) (h2 : m ≤ 12) (h3 : 1 ≤ d) (h4 : d ≤ lenM y m) (h5 : z < 86400) :
    timeN (timeV y m d z) = (86400 * ((dayS y m + (d - 1) : Nat) : Int) + z - 62167219200, 0) ∧ (timeV y m d z).check = 0 := by
  have hm := signs_moment hy h1 h2 h3 h4 h5
  unfold timeV
  by_cases h : 1950 ≤ y ∧ y ≤ 2049
  · rw [if_pos h]
    have hu : momentS 23 ((signsT y m d z).drop 2) = some (86400 * ((dayS y m + (d - 1) : Nat) : Int) + z - 62167219200) := by
      unfold momentS
      rw [if_pos rfl, if_neg (by simp [signs_len]), utc_cent h.1 h.2, hm]
    have hc : (utcV ((signsT y m d z).drop 2)).check = 0 := prim_check (by decide) (by decide) (by decide) (by decide) (by rw [fine_utc, hu]; rfl) (by simp [signs_len])
    refine ⟨?_, hc⟩
    unfold timeN
    rw [if_pos (Or.inl ((isK_iff (t := 23)).2 ⟨rfl, rfl, hc⟩))]
    show ((momentS 23 ((signsT y m d z).drop 2)).getD 0, (0 : Int)) = _
    rw [hu]; rfl
  · rw [if_neg h]
    have hu : momentS 24 (signsT y m d z) = some (86400 * ((dayS y m + (d - 1) : Nat) : Int) + z - 62167219200) := by
      unfold momentS
      rw [if_neg (by decide), hm]
    have hc : (timV (signsT y m d z)).check = 0 := prim_check (by decide) (by decide) (by decide) (by decide) (by rw [fine_tim, hu]; rfl) (by simp [signs_len])
    refine ⟨?_, hc⟩
    unfold timeN
    rw [if_pos (Or.inr ((isK_iff (t := 24)).2 ⟨rfl, rfl, hc⟩))]
    show ((momentS 24 (signsT y m d z)).getD 0, (0 : Int)) = _
    rw [hu]; rfl
theorem time_range {y m d : Nat} (hy : y < 10000) (h1 : 1 ≤ m) (h2 : m ≤ 12) (h3 : 1 ≤ d) (h4 : d ≤ lenM y m) : dayS y m + (d - 1) < 3652425 := by
  have := (date_in h1 h2 h3 h4).2
  have h5 := years_mono (a := y + 1) (b := 10000) (by omega)
  rw [years_10000] at h5
  omega
theorem of_num {y m d z : Nat} (hy : y < 10000) (h1 : 1 ≤ m) (h2 : m ≤ 12) (h3 : 1 ≤ d) (h4 : d ≤ lenM y m) (h5 : z < 86400) :
    ofTimeS (86400 * ((dayS y m + (d - 1) : Nat) : Int) + z - 62167219200) = (timeV y m d z, 0) := by
  have hr := time_range hy h1 h2 h3 h4
  obtain ⟨i1, i2, i3⟩ := date_is hy h1 h2 h3 h4
  unfold ofTimeS
  rw [if_neg (by omega)]
  have e : (86400 * ((dayS y m + (d - 1) : Nat) : Int) + z - 62167219200 + 62167219200).toNat = 86400 * (dayS y m + (d - 1)) + z := by omega
  simp only
  rw [e, show (86400 * (dayS y m + (d - 1)) + z) / 86400 = dayS y m + (d - 1) by omega, show (86400 * (dayS y m + (d - 1)) + z) % 86400 = z by omega, i1, i2, i3]
/-- The time of a number has it. -/
theorem oftime_law {t : Int} {x : Dv} (h : ofTimeS t = (x, 0)) : timeN x = (t, 0) ∧ x.check = 0 := by
  unfold ofTimeS at h
  by_cases hc : t < -62167219200 ∨ 253402300800 ≤ t
  · rw [if_pos hc] at h; exact absurd h (by simp)
  have hn : (t + 62167219200).toNat / 86400 < yearsS 10000 := by rw [years_10000]; omega
  obtain ⟨y, m, d, hy, m1, m2, d1, d2, e⟩ := has_date hn
  have ht : t = 86400 * ((dayS y m + (d - 1) : Nat) : Int) + ((t + 62167219200).toNat % 86400 : Nat) - 62167219200 := by rw [← e]; omega
  have hz : (t + 62167219200).toNat % 86400 < 86400 := Nat.mod_lt _ (by decide)
  generalize (t + 62167219200).toNat % 86400 = z at ht hz
  have hof : ofTimeS t = (timeV y m d z, 0) := by rw [ht]; exact of_num hy m1 m2 d1 d2 hz
  have hx : x = timeV y m d z := by
    have : ofTimeS t = (x, 0) := h
    rw [hof] at this
    injection this with this _; exact this.symm
  obtain ⟨r1, r2⟩ := timeV_num hy m1 m2 d1 d2 hz
  rw [hx, r1, ← ht]
  exact ⟨rfl, r2⟩
theorem oftime_fell {t : Int} {x : Dv} {e : Int} (h : ofTimeS t = (x, e)) : e = 0 ∨ (e = 61 ∧ x = .zero) := by
  unfold ofTimeS at h
  split at h
  · injection h with h1 h2; exact Or.inr ⟨h2.symm, h1.symm⟩
  · injection h with h1 h2; exact Or.inl h2.symm
/-- The time of a time's number: the same number; of the same tag the same bytes. -/
theorem time_law {v : Dv} {a : Int} (h : timeN v = (a, 0)) : ∃ z, ofTimeS a = (z, 0) ∧ timeN z = (a, 0) ∧ (z.t = v.t → z.b = v.b) := by
  unfold timeN at h
  by_cases hk : v.isK 23 = true ∨ v.isK 24 = true
  · rw [if_pos hk] at h
    injection h with h _
    rcases hk with hk | hk
    · obtain ⟨p1, p2, _⟩ := prim_ok hk (by decide)
      have ht : v.t = 23 := (isK_iff.1 hk).2.1
      rw [fine_utc] at p2
      obtain ⟨a2, ha2⟩ := Option.isSome_iff_exists.1 p2
      rw [ht, ha2] at h
      have h : a2 = a := h
      subst h
      unfold momentS at ha2
      rw [if_pos rfl] at ha2
      by_cases hl : v.b.length ≠ 13
      · rw [if_pos hl] at ha2; exact absurd ha2 (by simp)
      rw [if_neg hl] at ha2
      obtain ⟨y, m, d, z, hy, m1, m2, d1, d2, hz, hs, he⟩ := moment_signs ha2
      refine ⟨timeV y m d z, by rw [he]; exact of_num hy m1 m2 d1 d2 hz, by rw [he]; exact (timeV_num hy m1 m2 d1 d2 hz).1, fun hq => ?_⟩
      rw [ht] at hq
      unfold timeV at hq ⊢
      by_cases hu : 1950 ≤ y ∧ y ≤ 2049
      · rw [if_pos hu]
        show (signsT y m d z).drop 2 = v.b
        rw [← hs]
        split <;> rfl
      · rw [if_neg hu] at hq; exact absurd (show (24 : Int) = 23 from hq) (by decide)
    · obtain ⟨p1, p2, _⟩ := prim_ok hk (by decide)
      have ht : v.t = 24 := (isK_iff.1 hk).2.1
      rw [fine_tim] at p2
      obtain ⟨a2, ha2⟩ := Option.isSome_iff_exists.1 p2
      rw [ht, ha2] at h
      have h : a2 = a := h
      subst h
      unfold momentS at ha2
      rw [if_neg (by decide)] at ha2
      obtain ⟨y, m, d, z, hy, m1, m2, d1, d2, hz, hs, he⟩ := moment_signs ha2
      refine ⟨timeV y m d z, by rw [he]; exact of_num hy m1 m2 d1 d2 hz, by rw [he]; exact (timeV_num hy m1 m2 d1 d2 hz).1, fun hq => ?_⟩
      rw [ht] at hq
      unfold timeV at hq ⊢
      by_cases hu : 1950 ≤ y ∧ y ≤ 2049
      · rw [if_pos hu] at hq; exact absurd (show (23 : Int) = 24 from hq) (by decide)
      · rw [if_neg hu]; exact hs.symm
  · rw [if_neg hk] at h; exact absurd h (by simp)
end Go.Proofs.YtebhiplcoioenaaGreatDoor
/- Integers and rows of digits: their numbers, there and back. Plain. -/
namespace Go.Proofs.YtebhiplcoioenaaGreatDoor

def natV (b : Bs) : Dv := ⟨0, 2, false, b, .nil⟩
/-- Without the noughts ahead. -/
def trimS (a : Bs) : Bs := a.dropWhile (· == 0)
def padS (a : Bs) : Bs := if a = [] ∨ 127 < (a.headD 0).toNat then 0 :: a else a
/-- An integer's number. -/
def natS (v : Dv) : Bs × Int := if v.isK 2 = true then (if 127 < (v.b.headD 0).toNat then ([], 61) else (trimS v.b, 0)) else ([], 65)
/-- A number's integer. -/
def ofNatS (a : Bs) : Dv × Int := if 512 < (trimS a).length then (.zero, 64) else (natV (padS (trimS a)), 0)
/-- A row's bytes, and how many digits don't count. -/
def bitsS (v : Dv) : Bs × Nat × Int := if v.isK 3 = true then (v.b.tail, (v.b.headD 0).toNat, 0) else ([], 0, 65)
theorem prim_check2 {t : Int} {b : Bs} (ht : thereB t = true) (hc : consB t = false) (h0 : 0 ≤ t) (h1 : t ≤ 30) (hf : fineS t b = true) (hl : b.length ≤ 16380) : (⟨0, t, false, b, .nil⟩ : Dv).check = 0 := by
  have hh : headE 0 t false b 0 0 = 0 := by
    unfold headE
    rw [if_neg (by rw [ht]; simp; omega), if_neg (by rw [hc]; simp), if_neg (by simp)]
  refine Dv.ok_check ?_ ?_
  · show (if headE 0 t false b 0 0 ≠ 0 then headE 0 t false b 0 0 else if false = false then (if (0 : Int) = 0 ∧ fineS t b = false then (61 : Int) else 0) else _) = 0
    rw [hh, if_neg (by decide), if_pos rfl, if_neg (by rw [hf]; simp)]
  · show (wholeS 0 t false (if false = true then _ else b)).length ≤ 16384
    unfold wholeS
    have := (lenS_len b.length).2
    simp only [Bool.false_eq_true, if_false, List.length_cons, List.length_append]
    omega
theorem trim_nil : trimS [] = [] := rfl
theorem trim_zero (r : Bs) : trimS (0 :: r) = trimS r := rfl
theorem trim_head {c : UInt8} (h : c ≠ 0) (r : Bs) : trimS (c :: r) = c :: r := by
  unfold trimS
  rw [List.dropWhile_cons, if_neg (by simpa using h)]
theorem trim_lead0 : ∀ a : Bs, trimS a = [] ∨ ∃ c r, trimS a = c :: r ∧ c ≠ 0
  | [] => Or.inl rfl
  | c :: r => by
    by_cases h : c = 0
    · subst h; rw [trim_zero]; exact trim_lead0 r
    · rw [trim_head h]; exact Or.inr ⟨c, r, rfl, h⟩
theorem trim_trim (a : Bs) : trimS (trimS a) = trimS a := by
  rcases trim_lead0 a with h | ⟨c, r, h, hc⟩
  · rw [h]; rfl
  · rw [h, trim_head hc]
theorem trim_len : ∀ a : Bs, (trimS a).length ≤ a.length
  | [] => Nat.le_refl _
  | c :: r => by
    by_cases h : c = 0
    · subst h; rw [trim_zero]; have := trim_len r; simp only [List.length_cons]; omega
    · rw [trim_head h]; exact Nat.le_refl _
theorem trim_pad (a : Bs) : trimS (padS (trimS a)) = trimS a := by
  unfold padS
  by_cases h : trimS a = [] ∨ 127 < ((trimS a).headD 0).toNat
  · rw [if_pos h, trim_zero, trim_trim]
  · rw [if_neg h, trim_trim]
theorem pad_len (a : Bs) : (padS a).length ≤ a.length + 1 ∧ padS a ≠ [] ∧ ((padS a).headD 0).toNat ≤ 127 := by
  unfold padS
  by_cases h : a = [] ∨ 127 < (a.headD 0).toNat
  · rw [if_pos h]; exact ⟨Nat.le_refl _, by simp, by simp⟩
  · rw [if_neg h]; exact ⟨by omega, fun e => h (Or.inl e), by omega⟩
theorem pad_int (a : Bs) : intB (padS (trimS a)) = true := by
  rcases trim_lead0 a with h | ⟨c, r, h, hc⟩
  · rw [h]; rfl
  · rw [h]
    unfold padS
    by_cases h2 : c :: r = [] ∨ 127 < ((c :: r).headD 0).toNat
    · rw [if_pos h2]
      rcases h2 with h2 | h2
      · cases h2
      · simp only [List.headD_cons] at h2
        simp only [intB]
        have : ¬ c.toNat < 128 := by omega
        simp [this]
    · rw [if_neg h2]
      simp only [List.headD_cons, reduceCtorEq, false_or, Nat.not_lt] at h2
      cases r with
      | nil => rfl
      | cons d r =>
        simp only [intB]
        have h255 : c ≠ 255 := fun e => by subst e; revert h2; decide
        simp [hc, h255]
theorem fine_int (s : Bs) : fineS 2 s = intB s := rfl
theorem fine_bits (s : Bs) : fineS 3 s = bitsB s := rfl
theorem nat_ok (a : Bs) (h : (trimS a).length ≤ 512) : (natV (padS (trimS a))).check = 0 :=
  prim_check2 (by decide) (by decide) (by decide) (by decide) (by rw [fine_int]; exact pad_int a) (by have := (pad_len (trimS a)).1; omega)
/-- A number's integer has that number. -/
theorem ofnat_law {a : Bs} (h : (trimS a).length ≤ 512) : ofNatS a = (natV (padS (trimS a)), 0) ∧ natS (natV (padS (trimS a))) = (trimS a, 0) ∧ (natV (padS (trimS a))).check = 0 := by
  have hc := nat_ok a h
  refine ⟨by unfold ofNatS; rw [if_neg (by omega)], ?_, hc⟩
  unfold natS
  have hk : (natV (padS (trimS a))).isK 2 = true := isK_iff.2 ⟨rfl, rfl, hc⟩
  rw [if_pos hk, if_neg (by have := (pad_len (trimS a)).2.2; show ¬ 127 < ((padS (trimS a)).headD 0).toNat; omega)]
  show (trimS (padS (trimS a)), (0 : Int)) = _
  rw [trim_pad]
theorem int_pad : ∀ {b : Bs}, intB b = true → (b.headD 0).toNat ≤ 127 → padS (trimS b) = b
  | [], h, _ => by cases h
  | [x], _, h => by
    by_cases hx : x = 0
    · subst hx; rfl
    · rw [trim_head hx]
      unfold padS
      rw [if_neg (by simp only [List.headD_cons] at h ⊢; simp; omega)]
  | x :: y :: r, h, h2 => by
    simp only [List.headD_cons] at h2
    by_cases hx : x = 0
    · subst hx
      have hy : 128 ≤ y.toNat := by
        simp only [intB] at h
        simp at h
        exact h
      have hy0 : y ≠ 0 := fun e => by subst e; revert hy; decide
      rw [trim_zero, trim_head hy0]
      unfold padS
      rw [if_pos (Or.inr (by simp only [List.headD_cons]; omega))]
    · rw [trim_head hx]
      unfold padS
      rw [if_neg (by simp only [List.headD_cons]; simp; omega)]
/-- An integer's number has that integer. -/
theorem nat_law {v : Dv} {n : Bs} (h : natS v = (n, 0)) (hl : n.length ≤ 512) : ofNatS n = (v, 0) ∧ trimS n = n := by
  unfold natS at h
  by_cases hk : v.isK 2 = true
  · rw [if_pos hk] at h
    obtain ⟨hv, hf, _⟩ := prim_ok hk (by decide)
    by_cases h1 : 127 < (v.b.headD 0).toNat
    · rw [if_pos h1] at h; cases h
    · rw [if_neg h1] at h
      obtain rfl : trimS v.b = n := congrArg Prod.fst h
      refine ⟨?_, trim_trim _⟩
      unfold ofNatS
      rw [trim_trim, if_neg (by omega), int_pad (by rw [← fine_int]; exact hf) (by omega)]
      exact congrArg (fun x => (x, (0 : Int))) hv.symm
  · rw [if_neg hk] at h; cases h
theorem ofnat_long {a : Bs} (h : 512 < (trimS a).length) : ofNatS a = (.zero, 64) := by unfold ofNatS; rw [if_pos h]
theorem nat_err (v : Dv) : (natS v).2 = 0 ∨ (natS v).2 = 61 ∨ (natS v).2 = 65 := by
  unfold natS
  by_cases hk : v.isK 2 = true
  · rw [if_pos hk]
    by_cases h1 : 127 < (v.b.headD 0).toNat
    · rw [if_pos h1]; exact Or.inr (Or.inl rfl)
    · rw [if_neg h1]; exact Or.inl rfl
  · rw [if_neg hk]; exact Or.inr (Or.inr rfl)
end Go.Proofs.YtebhiplcoioenaaGreatDoor
