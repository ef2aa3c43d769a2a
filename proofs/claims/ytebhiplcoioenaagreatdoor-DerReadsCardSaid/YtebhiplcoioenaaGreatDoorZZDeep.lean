/- Values within one another: plain. -/
import Derived.Test.YtebhiplcoioenaaGreatDoorZDI
namespace Go.Proofs.YtebhiplcoioenaaGreatDoor

/-- How many constructed values there are within one another. -/
def deepsS : Dr → Nat
  | .nil => 0
  | .cons _ _ k _ kids nx => max (if k then deepsS kids + 1 else deepsS kids) (deepsS nx)
def Dv.deep (v : Dv) : Nat := if v.k then deepsS v.l + 1 else deepsS v.l
theorem head_deep {c t : Int} {k : Bool} {b : Bs} {n d : Nat} (h : headE c t k b n d = 0) (d' : Nat) : headE c t k b n d' = if k = true ∧ 16 ≤ d' then 63 else 0 := by
  unfold headE at h ⊢
  split at h
  · exact absurd h (by decide)
  · next h1 =>
    rw [if_neg h1]
    split at h
    · exact absurd h (by decide)
    · next h2 => rw [if_neg h2]
theorem errs_deep : ∀ (l : Dr) (d d' : Nat), errsS l d = 0 → errsS l d' = if deepsS l = 0 ∨ d' + deepsS l ≤ 16 then 0 else 63
  | .nil, _, d', _ => by
    have h0 : deepsS .nil = 0 := rfl
    rw [h0, if_pos (Or.inl rfl)]; rfl
  | .cons c t k b kids nx, d, d', h => by
    rw [errsS] at h ⊢
    by_cases h1 : headE c t k b kids.len d ≠ 0
    · rw [if_pos h1] at h; exact absurd h h1
    rw [if_neg h1] at h
    have h1 : headE c t k b kids.len d = 0 := Classical.byContradiction h1
    have hd := head_deep h1 d'
    obtain ⟨_, _, _, _, _, g5, _⟩ := head_ok h1
    rw [hd, deepsS]
    cases k with
    | false =>
      have hk := len_nil (g5 rfl)
      subst hk
      simp only [Bool.false_eq_true, false_and, if_false, if_true] at h ⊢
      rw [if_neg (by simp)]
      by_cases h2 : c = 0 ∧ fineS t b = false
      · rw [if_pos h2] at h; exact absurd h (by decide)
      rw [if_neg h2] at h ⊢
      rw [errs_deep nx d d' h]
      have : max (deepsS .nil) (deepsS nx) = deepsS nx := by simp [deepsS]
      rw [this]
    | true =>
      simp only [true_and, if_true, Bool.true_eq_false, if_false] at h ⊢
      by_cases h3 : errsS kids (d + 1) ≠ 0
      · rw [if_pos h3] at h; exact absurd h h3
      rw [if_neg h3] at h
      have h3 : errsS kids (d + 1) = 0 := Classical.byContradiction h3
      by_cases h4 : c = 0 ∧ t = 17 ∧ riseB (formsS kids) = false
      · rw [if_pos h4] at h; exact absurd h (by decide)
      rw [if_neg h4] at h
      have i1 := errs_deep kids (d + 1) (d' + 1) h3
      have i2 := errs_deep nx d d' h
      obtain ⟨x, hx⟩ : ∃ x, x = deepsS kids := ⟨_, rfl⟩
      obtain ⟨y, hy⟩ : ∃ y, y = deepsS nx := ⟨_, rfl⟩
      rw [← hx] at i1 ⊢
      rw [← hy] at i2 ⊢
      rw [i1, i2, if_neg h4]
      by_cases q1 : 16 ≤ d'
      · rw [if_pos q1, if_pos (by decide), if_neg (by omega)]
      · rw [if_neg q1, if_neg (by decide)]
        by_cases q2 : x = 0 ∨ d' + 1 + x ≤ 16
        · rw [if_pos q2, if_neg (by decide)]
          by_cases q3 : y = 0 ∨ d' + y ≤ 16
          · rw [if_pos q3, if_pos (by omega)]
          · rw [if_neg q3, if_neg (by omega)]
        · rw [if_neg q2, if_pos (by decide), if_neg (by omega)]
theorem Dv.errs_single (v : Dv) (d : Nat) : errsS v.one d = v.err d := by
  unfold Dv.one
  rw [Dv.errs_one]
  split
  · rfl
  · next h => exact (Classical.byContradiction h : v.err d = 0).symm
theorem Dv.deeps_single (v : Dv) : deepsS v.one = v.deep := by
  unfold Dv.one
  rw [deepsS]
  unfold Dv.deep
  have : deepsS .nil = 0 := rfl
  rw [this, Nat.max_eq_left (Nat.zero_le _)]
theorem Dv.err_deep {v : Dv} {d : Nat} (h : v.err d = 0) (d' : Nat) : v.err d' = if v.deep = 0 ∨ d' + v.deep ≤ 16 then 0 else 63 := by
  have := errs_deep v.one d d' (by rw [v.errs_single]; exact h)
  rw [v.errs_single, v.deeps_single] at this
  exact this
theorem Dv.forms_single (v : Dv) : (formsS v.one).flatten = v.form := by
  unfold Dv.one
  rw [Dv.forms_one]
  simp [formsS]
/-- A value within another one. -/
def Dv.wrap (v : Dv) (c : Int) : Dv := ⟨c, 16, true, [], v.one⟩
theorem Dv.wrap_err (v : Dv) {c : Int} (h0 : 0 ≤ c) (h1 : c ≤ 3) (d : Nat) : (v.wrap c).err d = if 16 ≤ d then 63 else v.err (d + 1) := by
  have hh : headE c 16 true [] v.one.len d = if 16 ≤ d then 63 else 0 := by
    unfold headE
    rw [if_neg (by
      have : thereB 16 = true := by decide
      rw [this]; simp; omega), if_neg (by
      have : consB 16 = true := by decide
      rw [this]; simp)]
    simp
  rw [show (v.wrap c).err d = (if headE c 16 true [] v.one.len d ≠ 0 then headE c 16 true [] v.one.len d else if true = false then (if c = 0 ∧ fineS 16 [] = false then 61 else 0)
    else if errsS v.one (d + 1) ≠ 0 then errsS v.one (d + 1) else if c = 0 ∧ (16 : Int) = 17 ∧ riseB (formsS v.one) = false then 61 else 0) from rfl]
  rw [hh]
  by_cases h : 16 ≤ d
  · rw [if_pos h, if_pos (by decide), if_pos h]
  · rw [if_neg h, if_neg (by decide), if_neg (by decide), Dv.errs_single]
    by_cases h2 : v.err (d + 1) ≠ 0
    · rw [if_pos h2, if_neg h]
    · rw [if_neg h2, if_neg (by omega), if_neg h]
      exact (Classical.byContradiction h2 : v.err (d + 1) = 0).symm
theorem Dv.wrap_form (v : Dv) (c : Int) : ∃ p, p.length ≤ 4 ∧ (v.wrap c).form = p ++ v.form := by
  refine ⟨fstS c 16 true :: lenS v.form.length, ?_, ?_⟩
  · have := (lenS_len v.form.length).2
    simp only [List.length_cons]; omega
  · show wholeS c 16 true (if true then (formsS v.one).flatten else []) = _
    rw [if_pos rfl, v.forms_single]; rfl
theorem Dv.wrap_deep (v : Dv) (c : Int) : (v.wrap c).deep = v.deep + 1 := by
  show (if true then deepsS v.one + 1 else deepsS v.one) = _
  rw [if_pos rfl, v.deeps_single]
/-- So many times. -/
def Dv.wraps (v : Dv) : Nat → Dv
  | 0 => v
  | n + 1 => (v.wraps n).wrap ((n % 4 : Nat) : Int)
theorem Dv.wraps_deep (v : Dv) : ∀ n, (v.wraps n).deep = v.deep + n
  | 0 => rfl
  | n + 1 => by rw [Dv.wraps, Dv.wrap_deep, wraps_deep v n]; omega
theorem Dv.wraps_form (v : Dv) : ∀ n, ∃ p, p.length ≤ 4 * n ∧ (v.wraps n).form = p ++ v.form
  | 0 => ⟨[], by simp, rfl⟩
  | n + 1 => by
    obtain ⟨p, h1, h2⟩ := wraps_form v n
    obtain ⟨q, h3, h4⟩ := (v.wraps n).wrap_form ((n % 4 : Nat) : Int)
    refine ⟨q ++ p, by rw [List.length_append]; omega, ?_⟩
    show ((v.wraps n).wrap _).form = _
    rw [h4, h2, List.append_assoc]
theorem Dv.wraps_err {v : Dv} (hv : v.err 0 = 0) : ∀ n d, (v.wraps n).err d = if (v.wraps n).deep = 0 ∨ d + (v.wraps n).deep ≤ 16 then 0 else 63
  | 0, d => v.err_deep hv d
  | n + 1, d => by
    show ((v.wraps n).wrap _).err d = _
    rw [Dv.wrap_err _ (by omega) (by omega), wraps_err hv n (d + 1)]
    rw [show (v.wraps (n + 1)).deep = (v.wraps n).deep + 1 from Dv.wrap_deep _ _]
    generalize (v.wraps n).deep = x
    by_cases h : 16 ≤ d
    · rw [if_pos h, if_neg (by omega)]
    · rw [if_neg h]
      by_cases h2 : x = 0 ∨ d + 1 + x ≤ 16
      · rw [if_pos h2, if_pos (by omega)]
      · rw [if_neg h2, if_neg (by omega)]
/-- DerDeep. -/
theorem deep_law {v : Dv} (hv : v.check = 0) (hl : v.form.length ≤ 15000) (n : Nat) :
    (16 < v.deep + n → (v.wraps n).print = ([], 63)) ∧ (v.deep + n ≤ 16 → (v.wraps n).print = ((v.wraps n).form, 0) ∧ parseS (v.wraps n).form = (v.wraps n, 0)) := by
  obtain ⟨h1, h2⟩ := Dv.check_ok hv
  have he := Dv.wraps_err h1 n 0
  rw [v.wraps_deep] at he
  constructor
  · intro h
    rw [if_neg (by omega)] at he
    have hc : (v.wraps n).check = 63 := by unfold Dv.check; rw [if_pos (by rw [he]; decide), he]
    unfold Dv.print
    rw [hc]; rfl
  · intro h
    rw [if_pos (by omega)] at he
    obtain ⟨p, hp1, hp2⟩ := v.wraps_form n
    have hc : (v.wraps n).check = 0 := Dv.ok_check he (by rw [hp2, List.length_append]; omega)
    exact ⟨by unfold Dv.print; rw [if_pos hc], parse_back hc⟩
/-- Two of a value within a sequence. -/
def Dv.two (v : Dv) : Dv := ⟨0, 16, true, [], .cons v.c v.t v.k v.b v.l v.one⟩
theorem Dv.two_form (v : Dv) : ∃ p, p.length ≤ 4 ∧ v.two.form = p ++ (v.form ++ v.form) := by
  have e : (formsS v.two.l).flatten = v.form ++ v.form := by
    show (formsS (.cons v.c v.t v.k v.b v.l v.one)).flatten = _
    rw [Dv.forms_one, List.flatten_cons, v.forms_single]
  refine ⟨fstS 0 16 true :: lenS (v.form ++ v.form).length, ?_, ?_⟩
  · have := (lenS_len (v.form ++ v.form).length).2
    simp only [List.length_cons]; omega
  · show wholeS 0 16 true (if true then (formsS v.two.l).flatten else []) = _
    rw [if_pos rfl, e]; rfl
/-- DerCuts: two forms within a sequence. -/
theorem two_law {v : Dv} (hv : v.check = 0) : (v.two.print = ([], 63)) ∨ (v.two.print = ([], 64) ∧ 16384 < 2 * v.form.length + 4) ∨ (v.two.print = (v.two.form, 0) ∧ parseS v.two.form = (v.two, 0)) := by
  obtain ⟨h1, h2⟩ := Dv.check_ok hv
  obtain ⟨p, hp1, hp2⟩ := v.two_form
  have he : v.two.err 0 = v.err 1 := by
    have hh : headE 0 16 true [] v.two.l.len 0 = 0 := by
      unfold headE
      rw [if_neg (by
        have : thereB 16 = true := by decide
        rw [this]; simp), if_neg (by
        have : consB 16 = true := by decide
        rw [this]; simp)]
      rfl
    have hs : errsS v.two.l 1 = v.err 1 := by
      show errsS (.cons v.c v.t v.k v.b v.l v.one) 1 = _
      rw [Dv.errs_one, v.errs_single]
      split <;> rfl
    rw [show v.two.err 0 = (if headE 0 16 true [] v.two.l.len 0 ≠ 0 then headE 0 16 true [] v.two.l.len 0 else if true = false then (if (0 : Int) = 0 ∧ fineS 16 [] = false then 61 else 0)
      else if errsS v.two.l 1 ≠ 0 then errsS v.two.l 1 else if (0 : Int) = 0 ∧ (16 : Int) = 17 ∧ riseB (formsS v.two.l) = false then 61 else 0) from rfl]
    rw [hh, if_neg (by decide), if_neg (by decide), hs]
    by_cases h : v.err 1 ≠ 0
    · rw [if_pos h]
    · rw [if_neg h, if_neg (by omega)]; exact (Classical.byContradiction h : v.err 1 = 0).symm
  have hd := Dv.err_deep h1 1
  by_cases q : v.deep = 0 ∨ 1 + v.deep ≤ 16
  · rw [if_pos q] at hd
    rw [hd] at he
    by_cases hl : 16384 < v.two.form.length
    · right; left
      have hc : v.two.check = 64 := by unfold Dv.check; rw [if_neg (by rw [he]; decide), if_pos hl]
      refine ⟨by unfold Dv.print; rw [hc]; rfl, ?_⟩
      rw [hp2, List.length_append, List.length_append] at hl
      omega
    · right; right
      have hc := Dv.ok_check he (by omega)
      exact ⟨by unfold Dv.print; rw [if_pos hc], parse_back hc⟩
  · rw [if_neg q] at hd
    left
    have hc : v.two.check = 63 := by unfold Dv.check; rw [if_pos (by rw [he, hd]; decide), he, hd]
    unfold Dv.print
    rw [hc]; rfl
end Go.Proofs.YtebhiplcoioenaaGreatDoor
